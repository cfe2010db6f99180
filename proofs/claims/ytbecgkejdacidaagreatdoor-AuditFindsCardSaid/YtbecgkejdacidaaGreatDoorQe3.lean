/-
  A part of a proof: texts packed by a program of mine.
  Conditions: those that each theorem states.
-/
import Derived.Laws.EntriesVeiled
import Derived.Deep.RegionLaw
import Derived.Laws.Bits64b
import Derived.ProofKit
import Derived.SizedLaws
import Derived.OpenShut
import Derived.Deep.Slices
import Derived.Deep.Fields
import Derived.ChangeSame
import Derived.Test.YtbecgkejdacidaaGreatDoorRows
import Derived.ChangeSlices
import Derived.Shelf.Strings.Builder1
import Derived.Shelf.Strings.Builder2
import Derived.Shelf.Strings.OnBuilder
import Derived.Shelf.LaysM
import Derived.Shelf.Strconv.Itoa3
import Derived.Shelf.SlIterI.Nil
import Derived.Shelf.SortM.Plain
import Derived.Shelf.SortM.SortNone
import Derived.Ground.GgzProg
import Derived.Ground.SlgmProg
import Derived.Test.YtbecgkejdacidaaGreatDoorProg
import Derived.Lib.AppendStr
import Derived.Lib.UnsafeStr
import Derived.Lib.ItoaLen
import Derived.Lib.AppendIntMem
import Derived.LaidMore
import Derived.LaidLaws
import Derived.MakeChecks
import Derived.Lib.LaidTab
import Derived.Stop.LaidErr
import Derived.Stop.Joined
import Derived.Test.YtbecgkejdacidaaGreatDoorQe2
set_option maxRecDepth 100000
set_option maxHeartbeats 12800000
open Go.Proofs.Tryz
namespace Go.Proofs.YtbecgkejdacidaaGreatDoor
section
open Go Go.RowKit Go.Shelf Go.IntWalk
attribute [local go_sem] Oper.semAt_some
theorem Turn.unless {C C' Y:List Blk}{A B:World}(h:Turn (C++Y) A (C'++Y) B)(hH:Has A (C++Y)){b:Nat}(hb:b<A.heap.size)(hn:b∉keys C):B.heap[b]?= A.heap[b]? :=by
 by_cases hY:b∈keys Y
 · obtain⟨o,ho⟩:=mem_keys.1 hY
   exact(h.has.own b o (List.mem_append_right _ ho)).trans (hH.own b o (List.mem_append_right _ ho)).symm
 · exact h.same b hb (fun hm=>by
     rw[keys_append]at hm;exact(List.mem_append.1 hm).elim hn hY)
theorem KpC.un {n₀ Bs:Nat}{D:Nat -> Prop}{C C' Y:List Blk}{A B:World}(h:Turn (C++Y) A (C'++Y) B)(hH:Has A (C++Y))(hn:n₀ <= A.heap.size)(hB:Bs<A.heap.size)(hL:∀b∈keys C,D b)(hD:∀b,D b -> n₀ <= b /\ b≠Bs):KpC n₀ Bs D A B:=
 ⟨⟨h.os,h.tape,h.output,h.size,fun b hb=>h.unless hH (Nat.lt_of_lt_of_le hb hn) (fun hm=>by have:=(hD b (hL b hm)).1;omega)⟩,
  h.unless hH hB (fun hm=>(hD Bs (hL Bs hm)).2 rfl),h.size,fun b o h1 _ h3=>(h.unless hH (lt_of_block h1) (fun hm=>h3 (hL b hm))).trans h1⟩
def grC (ob fb tb:Nat)(ov:Bool)(f t:Nat):List Blk:=[(ob,.cells #[.bool ov] 4),(fb,.cells #[.int .i64 f] 3),(tb,.cells #[.int .i64 t] 3)]
theorem grBx_cells (gb ob fb tb g f t:Nat)(ov:Bool):∀x∈grBx gb ob fb tb g ov f t,x.2.isCells=true:=by
 intro x hx;simp only[grBx,List.mem_cons,List.not_mem_nil,or_false]at hx;rcases hx with rfl|rfl|rfl|rfl<;>rfl
theorem sdrop_in (nn:Nat)(hn:5 <= nn){w0:World}(w:World)(sb a aw tb bb:Nat){W B:List Nat}{lb R:List Blk}{cw:Int}(tao:Option Addr)(tcap:Nat)(L:List Ty)(hB:BitIs bb B (W.length/2) lb)(hBu:u64ok B)(hBl:(W.length/2+63)/64 <= B.length)(hRc:∀x∈R,x.2.isCells=true)
  (T:Turn [] w0 (arBlks a aw W cw++(spBlk sb a tb bb::lb)++R) w)(hTab:TabAt w0 tb tao tcap L)(hF0:Fields w0)(hf:W.length <= 65536)(hu:∀v∈W,v<18446744073709551616)(hTy:∀t∈L,TyIn t)(hL:L.length <= 1000)
  (P Q:List Ce)(c0:Ce)(hC:Chain L W 0 (P++c0::Q) (W.length/2))(hbit:bitAt B c0.1=true):
  CallsIn Fence.wide nn prog 22 #[pt sb,.int .i64 c0.1] w fun e w'=>∃(B':List Nat) (lb':List Blk) (cw':Int),e=.returned (.int .i64 0) /\ ClrIn B B' c0.1 1 /\ BitIs bb B' (W.length/2) lb' /\ Turn [] w0 (arBlks a aw (dropW W P c0 Q) cw'++(spBlk sb a tb bb::lb')++R) w':=by
 have h1:1 <= nn:=by omega
 have h2:1 <= nn-1-1:=by omega
 have h3:Fence.wide.fn 22:= trivial;have h5:Fence.wide.fn 65:= trivial;have h6:Fence.wide.fn 71:= trivial;have h7:Fence.wide.fn 149:= trivial;have h8:Fence.wide.fn 72:= trivial;have h9:Fence.wide.fn 68:= trivial;have hro:Fence.wide.round=none:=rfl;have hzb:W.length/2 <= 32768:=by omega
 have hst:=hC.split.2.1;have hpos:=hst.pos;have hg:c0.1<W.length/2:=by have:=hst.2.2;omega
 have T0:=T.alloc (.cells #[.int .i64 c0.1] 3);have HT1:=uh (show Turn [] w0 (((w.heap.size,.cells #[.int .i64 c0.1] 3)::lb)++(arBlks a aw W cw++(spBlk sb a tb bb::R))) (w.alloc (.cells #[.int .i64 c0.1] 3)).drew from(T0.perm po).drew)
 have HS:=uh (fun w' (lb':List Blk) (W':List Nat×Int) (V:Turn [] w0 (((w.heap.size,.cells #[.int .i64 c0.1] 3)::lb')++(arBlks a aw W'.1 W'.2++(spBlk sb a tb bb::R))) w')=>(⟨V.has.cell (b:=sb) (c:=#[pt a,pt tb,pt bb]) (e:=146) (f:=(0,0)) (by simp[spBlk]) 2,V.cell1 0⟩:
  w'.cell? ⟨sb,2,none⟩=some (pt bb) /\ w'.cell? ⟨w.heap.size,0,none⟩=some (.int .i64 c0.1)))
 have Hhas:=uh (fun w' (X:List Blk) (V:Turn [] w0 (((w.heap.size,.cells #[.int .i64 c0.1] 3)::lb)++X) w')=>by
  obtain⟨bo,cap,hA⟩:=hB.at_ (R:=(w.heap.size,.cells #[.int .i64 c0.1] 3)::X) (V.has.perm po);exact bhas w' bb _ B bo cap hA hBu hBl c0.1 hg (by omega))
 rw[hbit]at Hhas;have hS1:=HS.out _ lb (W,cw) HT1.out;have HB:=uh hB;have HC:=uh hC;have HTab:=uh hTab;have HF0:=uh hF0;have HT:=uh T;have Hclr0:=uh (fun w' (X:List Blk) (V:Turn [] w0 (lb++X) w')=>bclear w' bb _ c0.1 B lb X hB hBu hBl hg (by omega) V);clear T0 T hB hbit hC hTab hF0 hst;refine callsIn_of_wp_marks func22 rfl h3 ?_ hro;simp only[ntmps22,List.size_toArray,List.length_cons,List.length_nil,Nat.reduceAdd,Nat.reduceSub,Array.replicate_succ,Array.replicate_zero,List.push_toArray,List.append_toArray,List.nil_append,List.cons_append]
 gi_wp2_with fail
 refine wpIn_region_noPanic ?_;refine wpIn_region_listedHI (S:=fun W'=>W'.cell? ⟨sb,2,none⟩=some (pt bb) /\ W'.cell? ⟨w.heap.size,0,none⟩=some (.int .i64 c0.1)) 7 [false,false,false,false,false,false,false] rfl rfl (by kernel_rfl) ?_;refine tkI 0 12 hro hS1 ?_;refine tkI 1 13 hro hS1 ?_;refine tkI 2 14 hro hS1 ?_;refine tkJ 3 15 hro hS1 (fun w hSw=>hSw.1) ?_;refine tkJ 4 16 hro hS1 (fun w hSw=>hSw.2) ?_;refine wpAnyHI_call (i:=5) (by kernel_rfl) rfl (fun K hK=>?_)
 go_simp
 refine(callsIn_wide.2 (Hhas.out _ _ HT1.out)).mono ?_;rintro e w2 ⟨rfl,hB2⟩;have HT2:=uh (HT1.out.call hB2);have hS2:=HS.out _ lb (W,cw) HT2.out;refine hK.out _ _ hS2 ?_;clear hK K;simp only[st0,st1,st2];refine tkI 6 18 hro hS2 ?_;refine wpAnyHI_done (by kernel_rfl) ?_ _;refine NoPanic.normal ?_;clear hS1 hS2 HT1 hB2;have HT3:=uh HT2.out.drew;have hS3:=HS.out _ lb (W,cw) HT3.out;have Hclr:=uh (Hclr0.out _ _ (HT3.out.perm (l2:=lb++((w.heap.size,.cells #[.int .i64 c0.1] 3)::(arBlks a aw W cw++(spBlk sb a tb bb::R)))) po));clear HT2
 gi_wp2_with fail
 refine wpIn_region_noPanic ?_;refine wpIn_region_listedHI (S:=fun W'=>W'.cell? ⟨sb,2,none⟩=some (pt bb) /\ W'.cell? ⟨w.heap.size,0,none⟩=some (.int .i64 c0.1)) 6 [false,false,false,false,false,false] rfl rfl (by kernel_rfl) ?_;refine tkI 0 19 hro hS3 ?_;refine tkI 1 20 hro hS3 ?_;refine tkI 2 21 hro hS3 ?_;refine tkJ 3 22 hro hS3 (fun w hSw=>hSw.1) ?_;refine tkJ 4 23 hro hS3 (fun w hSw=>hSw.2) ?_;refine wpAnyHI_call (i:=5) (by kernel_rfl) rfl (fun K hK=>?_)
 go_simp
 refine(callsIn_wide.2 Hclr.out).mono ?_;rintro e w4 ⟨rfl,B',lb',hci,hbi,T4⟩;have T4':=T4.perm (l2:=((w.heap.size,.cells #[.int .i64 c0.1] 3)::lb')++(arBlks a aw W cw++(spBlk sb a tb bb::R))) po;have hS4:=HS.out _ lb' (W,cw) T4';have HT4:=uh T4';refine hK.out _ _ hS4 ?_;clear hK K;simp only[st0,st1,st2];refine wpAnyHI_done (by kernel_rfl) ?_ _;refine NoPanic.normal ?_;clear hS3 hS4 HT3 T4 T4' Hclr
 gi_wp2_with (first
  | (gi_at_call 65;refine(scells_in (nn-1) sb _).mono ?_;rintro e w' ⟨rfl,hw⟩;rw[hw];clear hw w')
  | fail)
 obtain⟨n4,hn4⟩:∃n4,w4.heap.size=n4:=⟨_,rfl⟩;have T5:=((((HT4.out.alloc (.cells #[.int .i64 0] 3)).alloc (.cells #[.int .i64 0] 3)).alloc (.cells #[.bool false] 4)).alloc (.cells #[.func (.func 73) #[] #[pt w.heap.size,pt (w4.heap.size+1+1),pt w4.heap.size,pt (w4.heap.size+1)]] 156)).alloc (bS sb);have R5:=(((((Turn.refl (Has.nil w4)).alloc (.cells #[.int .i64 0] 3)).alloc (.cells #[.int .i64 0] 3)).alloc (.cells #[.bool false] 4)).alloc (.cells #[.func (.func 73) #[] #[pt w.heap.size,pt (w4.heap.size+1+1),pt w4.heap.size,pt (w4.heap.size+1)]] 156)).alloc (bS sb);have hsz0:(((((w4.alloc (.cells #[.int .i64 0] 3)).alloc (.cells #[.int .i64 0] 3)).alloc (.cells #[.bool false] 4)).alloc (.cells #[.func (.func 73) #[] #[pt w.heap.size,pt (w4.heap.size+1+1),pt w4.heap.size,pt (w4.heap.size+1)]] 156)).alloc (bS sb)).heap.size=w4.heap.size+5:=by simp
 simp only[World.size_alloc]at T5;have hws:w.heap.size<w4.heap.size:=HT4.out.has.lt (by simp[keys])
 have hA4:SpAt w4 sb a aw tb W tao tcap L:=by
  have T6:=HT4.out.perm (l2:=arBlks a aw W cw++(spBlk sb a tb bb::((w.heap.size,.cells #[.int .i64 c0.1] 3)::lb'++R))) po;exact⟨T6.has.cell (b:=sb) (c:=#[pt a,pt tb,pt bb]) (e:=146) (f:=(0,0)) (by simp[spBlk]) 0,T6.has.cell (b:=sb) (c:=#[pt a,pt tb,pt bb]) (e:=146) (f:=(0,0)) (by simp[spBlk]) 1,arBlks_at T6.has hf,HTab.out.below T6.below,range_below HF0.out T6.below⟩
 generalize((((w4.alloc (.cells #[.int .i64 0] 3)).alloc (.cells #[.int .i64 0] 3)).alloc (.cells #[.bool false] 4)).alloc (.cells #[.func (.func 73) #[] #[pt w.heap.size,pt (w4.heap.size+1+1),pt w4.heap.size,pt (w4.heap.size+1)]] 156)).alloc (bS sb)=W0 at*;rw[hn4]at T5 hsz0 hws ⊢;have T8:Turn [] w0 (grBx w.heap.size (n4+1+1) n4 (n4+1) c0.1 false 0 0++((n4+1+1+1,.cells #[.func (.func 73) #[] #[pt w.heap.size,pt (n4+1+1),pt n4,pt (n4+1)]] 156)::(n4+1+1+1+1,bS sb)::(arBlks a aw W cw++(spBlk sb a tb bb::lb')++R))) W0:=T5.perm (perm_of fun c=>by simp[grBx];omega);have R8:Below w4.heap.size w4 W0:=R5.below;have hR4:=R5.size;rw[hn4]at hR4;clear T5 R5;have hsbl:sb<n4:=by rw[←hn4];exact World.block_lt_of_cell? w4 _ hA4.c0
 have hBs:W0.heap[n4+1+1+1+1]?= some (bS sb):=T8.has.own _ _ (by simp)
 have hXc:∀x∈(n4+1+1+1,.cells #[.func (.func 73) #[] #[pt w.heap.size,pt (n4+1+1),pt n4,pt (n4+1)]] 156)::(n4+1+1+1+1,bS sb)::(arBlks a aw W cw++(spBlk sb a tb bb::lb')++R),x.2.isCells=true:=by
  intro y hy;rcases List.mem_cons.1 hy with rfl|hy
  ·rfl
  rcases List.mem_cons.1 hy with rfl|hy
  ·rfl
  rcases List.mem_append.1 hy with hy|hy
  · rcases List.mem_append.1 hy with hy|hy
    ·exact arBlks_cells _ _ _ _ y hy
    · rcases List.mem_cons.1 hy with rfl|hy
      ·rfl
      ·exact hbi.cells y hy
  ·exact hRc y hy
 have hAc:∀(f t:Nat) (ov:Bool),∀x∈grBx w.heap.size (n4+1+1) n4 (n4+1) c0.1 ov f t++((n4+1+1+1,.cells #[.func (.func 73) #[] #[pt w.heap.size,pt (n4+1+1),pt n4,pt (n4+1)]] 156)::(n4+1+1+1+1,bS sb)::(arBlks a aw W cw++(spBlk sb a tb bb::lb')++R)),x.2.isCells=true:=fun f t ov x hx=>(List.mem_append.1 hx).elim (grBx_cells _ _ _ _ _ _ _ _ x) (hXc x);have hw0W:w0.heap.size <= W0.heap.size:=T8.size;have hDD:∀b,(n4 <= b /\ b<W0.heap.size /\ b≠n4+1+1+1+1) -> w4.heap.size <= b /\ b≠n4+1+1+1+1:=fun b h=>⟨by have:=h.1;omega,h.2.2⟩
 apply wpIn_rangeFunc_f (β:=Nat) hro h1 (gf:=149) (lb:=#[pt (n4+1+1+1+1)]) rfl h7 (enters_of func149 (by kernel_rfl) rfl)
  (scells_next (nn-1) (by omega) w4 sb a aw tb W tao tcap L hA4 hf hu hTy hL _ HC.out (n4+1+1+1+1) (fun b=>n4 <= b /\ b<W0.heap.size /\ b≠n4+1+1+1+1) W0 (fun b h=>h.2.1) R8 hBs)
  (fun h k=>h.t k) (KpC.b (by omega) (by omega)) (fun h k=>h.x (by omega) (fun b hb=>hb.2.1) k) (fun h k=>h.p (by omega) (fun b hb=>hb.2.1) k) (Below.refl _ _) (fun _=>rfl)
  (fun pre W'=>∃f t ov,DropSt P c0 Q pre f t ov /\ f <= W.length/2 /\ t <= W.length/2 /\ Turn [] w0 (grBx w.heap.size (n4+1+1) n4 (n4+1) c0.1 ov f t++((n4+1+1+1,.cells #[.func (.func 73) #[] #[pt w.heap.size,pt (n4+1+1),pt n4,pt (n4+1)]] 156)::(n4+1+1+1+1,bS sb)::(arBlks a aw W cw++(spBlk sb a tb bb::lb')++R))) W')
  (fun c pre W'=>c=.exit 0 /\ ∃f t ov,f=dropFrm 0 P /\ t=dropTill (c0.1+c0.2.size) Q /\ Turn [] w0 (grBx w.heap.size (n4+1+1) n4 (n4+1) c0.1 ov f t++((n4+1+1+1,.cells #[.func (.func 73) #[] #[pt w.heap.size,pt (n4+1+1),pt n4,pt (n4+1)]] 156)::(n4+1+1+1+1,bS sb)::(arBlks a aw W cw++(spBlk sb a tb bb::lb')++R))) W')
  (fun x nb pre W'=>∃f t ov,DropSt P c0 Q pre f t ov /\ f <= W.length/2 /\ t <= W.length/2 /\ Turn [] w0 ((nb,ceObj x)::(grBx w.heap.size (n4+1+1) n4 (n4+1) c0.1 ov f t++((n4+1+1+1,.cells #[.func (.func 73) #[] #[pt w.heap.size,pt (n4+1+1),pt n4,pt (n4+1)]] 156)::(n4+1+1+1+1,bS sb)::(arBlks a aw W cw++(spBlk sb a tb bb::lb')++R)))) W')
  (fun s A D row ⟨f,t,ov,e1,e2,e3,hT⟩ hg hr=>⟨f,t,ov,e1,e2,e3,hT.grownB hw0W (hAc f t ov) hg hr⟩)
  (fun c s A D row ⟨e0,f,t,ov,e1,e2,hT⟩ hg hr=>⟨e0,f,t,ov,e1,e2,hT.grownB hw0W (hAc f t ov) hg hr⟩)
  (fun x nb s A D row ⟨f,t,ov,e1,e2,e3,hT⟩ hg hr=>⟨f,t,ov,e1,e2,e3,hT.grownB hw0W (by
    intro y hy;rcases List.mem_cons.1 hy with rfl|hy
    ·rfl
    ·exact hAc f t ov y hy) hg hr⟩)
  ⟨0,0,false,DropSt.start _ _ _,Nat.zero_le _,Nat.zero_le _,T8⟩
 case hassign=>
  rintro l1 pre x W2 hnx ⟨f,t,ov,e1,e2,e3,hT⟩;have T2:=hT.alloc (.cells #[.int .i64 0,.int .u8 0,.int .i64 0,.int .i64 0,.int .i64 0] 81);have hth:(W2.alloc (.cells #[.int .i64 0,.int .u8 0,.int .i64 0,.int .i64 0,.int .i64 0] 81)).there W2.heap.size 0 5:=T2.there1;have HT2:=uh (T2.laid [.int .i64 x.1,.int .u8 x.2.tag,.int .i64 x.2.typ,.int .i64 x.2.len,.int .i64 x.2.size] rfl);have HX:=uh (((Turn.refl (Has.nil W2)).alloc (.cells #[.int .i64 0,.int .u8 0,.int .i64 0,.int .i64 0,.int .i64 0] 81)).laid [.int .i64 x.1,.int .u8 x.2.tag,.int .i64 x.2.typ,.int .i64 x.2.len,.int .i64 x.2.size] rfl);have hszC:=sz_cell;have hoC:=ce_one x;have hB9:n4+1+1+1+1<W2.heap.size:=hT.has.lt (by simp[keys]);unfold ceArgs;clear T2 hnx hT
  gi_wp2_with (first
   | (show wpListIn _ _ _ _ _ (⟨_,Op.store 81 _ _,_,_,_,_⟩::_) _ _;refine wpListIn_by (follows_round _ _ _) rfl (by intro c h;cases h) (wp_store_mid 81 _ _ rfl _ 0 #[.int .i64 x.1,.int .u8 x.2.tag,.int .i64 x.2.typ,.int .i64 x.2.len,.int .i64 x.2.size] rfl rfl hth hszC hoC ?_);clear hth)
   | fail)
  have HK:=uh (⟨((KeepsOthers.alloc _ _).trans (keepsOthers_setCells _ _ _)).from _,KpC.of HX.out (by omega) hB9 (fun b hb=>by cases hb) hDD⟩:
   KeepsFrom W0.heap.size W2 ((W2.alloc (.cells #[.int .i64 0,.int .u8 0,.int .i64 0,.int .i64 0,.int .i64 0] 81)).setCells W2.heap.size 0 [.int .i64 x.1,.int .u8 x.2.tag,.int .i64 x.2.typ,.int .i64 x.2.len,.int .i64 x.2.size]) /\
   KpC w4.heap.size (n4+1+1+1+1) (fun b=>n4 <= b /\ b<W0.heap.size /\ b≠n4+1+1+1+1) W2 ((W2.alloc (.cells #[.int .i64 0,.int .u8 0,.int .i64 0,.int .i64 0,.int .i64 0] 81)).setCells W2.heap.size 0 [.int .i64 x.1,.int .u8 x.2.tag,.int .i64 x.2.typ,.int .i64 x.2.len,.int .i64 x.2.size]))
  clear HX hB9 hoC;generalize(W2.alloc (.cells #[.int .i64 0,.int .u8 0,.int .i64 0,.int .i64 0,.int .i64 0] 81)).setCells W2.heap.size 0 [.int .i64 x.1,.int .u8 x.2.tag,.int .i64 x.2.typ,.int .i64 x.2.len,.int .i64 x.2.size]=W3 at*;generalize W2.heap.size=nb at*;exact⟨HK.out.1,HK.out.2,nb,rfl,f,t,ov,e1,e2,e3,HT2.out⟩
 case hbody=>
  rintro l1 pre x nb W2 ⟨post,hcs⟩ ⟨f,t,ov,e1,e2,e3,hT⟩;have hstep:=e1.step HC.out hcs;have hxm:=(HC.out.mem x (by rw[hcs];simp)).2.1;have q0:W2.cell? ⟨nb,0,none⟩=some (.int .i64 x.1):=hT.cell1 0;have q1:W2.cell? ⟨nb,1,none⟩=some (.int .u8 x.2.tag):=hT.cell1 1;have hrg:W2.rangeAt nb 0 [.int .i64 x.1,.int .u8 x.2.tag,.int .i64 x.2.typ,.int .i64 x.2.len,.int .i64 x.2.size]:=hT.range1;have qs:W2.cell? ⟨w.heap.size,0,none⟩=some (.int .i64 c0.1):=hT.has.cell (b:=w.heap.size) (c:=#[.int .i64 c0.1]) (e:=3) (f:=(0,0)) (by simp[grBx]) 0;have qfn:W2.cell? ⟨n4+1+1+1,0,none⟩=some (.func (.func 73) #[] #[pt w.heap.size,pt (n4+1+1),pt n4,pt (n4+1)]):=hT.has.cell (b:=n4+1+1+1) (c:=#[.func (.func 73) #[] #[pt w.heap.size,pt (n4+1+1),pt n4,pt (n4+1)]]) (e:=156) (f:=(0,0)) (by simp) 0;have hszC:=sz_cell;rcases hstep with⟨s1,s2,s3,s4⟩|⟨s1,s2⟩
  · have k1:decide ((c0.1:Int)<(x.1:Int))=true:=decide_eq_true (by omega)
    have k2:decide (c0.1<x.1)=true:=decide_eq_true s1;have k3:((x.2.tag:Int) == 1)=true:=(by rw[beq_iff_eq];omega);have k4:(x.2.tag == 1)=true:=(by rw[beq_iff_eq];exact s2);have HX:=uh (⟨s3,s4,hT.tail⟩:f=dropFrm 0 P /\ t=dropTill (c0.1+c0.2.size) Q /\ Turn [] w0 (grBx w.heap.size (n4+1+1) n4 (n4+1) c0.1 ov f t++((n4+1+1+1,.cells #[.func (.func 73) #[] #[pt w.heap.size,pt (n4+1+1),pt n4,pt (n4+1)]] 156)::(n4+1+1+1+1,bS sb)::(arBlks a aw W cw++(spBlk sb a tb bb::lb')++R))) W2);clear s1 s2 s3 s4 hT e1 hcs
    gi_wp2_with fail
    exact⟨KeepsFrom.refl _ _,⟨rfl,rfl,fun _ _ h _ _=>h⟩,rfl,f,t,ov,HX.out.1,HX.out.2.1,HX.out.2.2⟩
  · have hH:Has W2 (grC (n4+1+1) n4 (n4+1) ov f t++((w.heap.size,.cells #[.int .i64 c0.1] 3)::(nb,ceObj x)::((n4+1+1+1,.cells #[.func (.func 73) #[] #[pt w.heap.size,pt (n4+1+1),pt n4,pt (n4+1)]] 156)::(n4+1+1+1+1,bS sb)::(arBlks a aw W cw++(spBlk sb a tb bb::lb')++R)))):=hT.has.perm (perm_of fun c=>by simp[grBx,grC];omega)
    have HH:=uh hH;have TG:Turn (grC (n4+1+1) n4 (n4+1) ov f t++((w.heap.size,.cells #[.int .i64 c0.1] 3)::(nb,ceObj x)::((n4+1+1+1,.cells #[.func (.func 73) #[] #[pt w.heap.size,pt (n4+1+1),pt n4,pt (n4+1)]] 156)::(n4+1+1+1+1,bS sb)::(arBlks a aw W cw++(spBlk sb a tb bb::lb')++R)))) W2 (grBx w.heap.size (n4+1+1) n4 (n4+1) c0.1 ov f t++((nb,ceObj x)::((n4+1+1+1,.cells #[.func (.func 73) #[] #[pt w.heap.size,pt (n4+1+1),pt n4,pt (n4+1)]] 156)::(n4+1+1+1+1,bS sb)::(arBlks a aw W cw++(spBlk sb a tb bb::lb')++R)))) W2:=(Turn.refl hH).perm (perm_of fun c=>by simp[grBx,grC];omega);have HG:=uh (drop1 W2 w.heap.size (n4+1+1) n4 (n4+1) c0.1 f t ov x TG (by omega));have hb1:(if x.2.tag=1 /\ x.1≠c0.1 /\ ov=false then x.1+x.2.size else f) <= W.length/2:=(by split<;>omega);have hb2:(if x.2.tag=1 /\ x.1≠c0.1 then t else x.1+x.2.size) <= W.length/2:=(by split<;>omega);have HS2:=uh s2;have HTa:=uh hT;generalize(if x.2.tag=1 /\ x.1≠c0.1 /\ ov=false then x.1+x.2.size else f)=f' at*;generalize(if x.2.tag=1 /\ x.1≠c0.1 then t else x.1+x.2.size)=t' at*
    have hcase:(¬c0.1<x.1)∨(c0.1<x.1 /\ x.2.tag≠1):=by
     by_cases h:c0.1<x.1
     ·exact .inr ⟨h,fun h'=>s1 ⟨h,h'⟩⟩
     ·exact .inl h
    clear s1 s2 hT e1 hcs hH TG;rcases hcase with hgt|⟨hgt,htg⟩
    case' inl=>(
     have k1:decide ((c0.1:Int)<(x.1:Int))=false:=decide_eq_false (by omega);have k2:decide (c0.1<x.1)=false:=decide_eq_false hgt;clear hgt
     gi_wp2_with (first
      | (show wpListIn _ _ _ _ _ (⟨_,Op.load 81 _,_,_,_,_⟩::_) _ _;refine wpListIn_by (follows_round _ _ _) rfl (by intro c h;cases h) (wp_load_mid 81 _ rfl nb 0 rfl [.int .i64 x.1,.int .u8 x.2.tag,.int .i64 x.2.typ,.int .i64 x.2.len,.int .i64 x.2.size] _ hrg underlying81 rfl hszC ?_))
      | fail))
    case' inr=>(
     have k1:decide ((c0.1:Int)<(x.1:Int))=true:=decide_eq_true (by omega);have k2:decide (c0.1<x.1)=true:=decide_eq_true hgt;have k3:((x.2.tag:Int) == 1)=false:=(by rw[beq_eq_false_iff_ne];omega);have k4:(x.2.tag == 1)=false:=(by rw[beq_eq_false_iff_ne];exact htg);clear hgt htg
     gi_wp2_with (first
      | (show wpListIn _ _ _ _ _ (⟨_,Op.load 81 _,_,_,_,_⟩::_) _ _;refine wpListIn_by (follows_round _ _ _) rfl (by intro c h;cases h) (wp_load_mid 81 _ rfl nb 0 rfl [.int .i64 x.1,.int .u8 x.2.tag,.int .i64 x.2.typ,.int .i64 x.2.len,.int .i64 x.2.size] _ hrg underlying81 rfl hszC ?_))
      | fail))
    all_goals (
     refine⟨trivial,(CallsIn.inRound _ (callsIn_wide.2 HG.out)).mono ?_⟩;rintro e w5 ⟨⟨v,rfl⟩,T5⟩;clear q0 qs qfn q1 hrg HG;have q0:w5.cell? ⟨nb,0,none⟩=some (.int .i64 x.1):=T5.has.cell (b:=nb) (c:=#[.int .i64 x.1,.int .u8 x.2.tag,.int .i64 x.2.typ,.int .i64 x.2.len,.int .i64 x.2.size]) (e:=81) (f:=(0,0)) (by simp[ceObj]) 0;have qs:w5.cell? ⟨w.heap.size,0,none⟩=some (.int .i64 c0.1):=T5.has.cell (b:=w.heap.size) (c:=#[.int .i64 c0.1]) (e:=3) (f:=(0,0)) (by simp[grBx]) 0;have qo:w5.cell? ⟨n4+1+1,0,none⟩=some (.bool ov):=T5.has.cell (b:=n4+1+1) (c:=#[.bool ov]) (e:=4) (f:=(0,0)) (by simp[grBx]) 0;have fo:w5.frozen? ⟨n4+1+1,0,none⟩=false:=T5.has.free (b:=n4+1+1) (c:=#[.bool ov]) (e:=4) (by simp[grBx]) 0;have T6:=((T5.perm (l2:=(n4+1+1,.cells #[.bool ov] 4)::((n4,.cells #[.int .i64 f'] 3)::(n4+1,.cells #[.int .i64 t'] 3)::((w.heap.size,.cells #[.int .i64 c0.1] 3)::(nb,ceObj x)::((n4+1+1+1,.cells #[.func (.func 73) #[] #[pt w.heap.size,pt (n4+1+1),pt n4,pt (n4+1)]] 156)::(n4+1+1+1+1,bS sb)::(arBlks a aw W cw++(spBlk sb a tb bb::lb')++R))))) (perm_of fun c=>by simp[grBx];omega)).setCell 0 (.bool (ov || x.1 == c0.1)))
     have HT6:Hid (Turn (grC (n4+1+1) n4 (n4+1) ov f t++((w.heap.size,.cells #[.int .i64 c0.1] 3)::(nb,ceObj x)::((n4+1+1+1,.cells #[.func (.func 73) #[] #[pt w.heap.size,pt (n4+1+1),pt n4,pt (n4+1)]] 156)::(n4+1+1+1+1,bS sb)::(arBlks a aw W cw++(spBlk sb a tb bb::lb')++R)))) W2 (grC (n4+1+1) n4 (n4+1) (ov || x.1 == c0.1) f' t'++((w.heap.size,.cells #[.int .i64 c0.1] 3)::(nb,ceObj x)::((n4+1+1+1,.cells #[.func (.func 73) #[] #[pt w.heap.size,pt (n4+1+1),pt n4,pt (n4+1)]] 156)::(n4+1+1+1+1,bS sb)::(arBlks a aw W cw++(spBlk sb a tb bb::lb')++R)))) (w5.setCell ⟨n4+1+1,0,none⟩ (.bool (ov || x.1 == c0.1)))):=uh T6
     have HFI:=uh (⟨(Turn.keepsOthers HT6.out HH.out (fun y hy=>by
       rcases List.mem_append.1 hy with hy|hy
       ·exact grBx_cells w.heap.size (n4+1+1) n4 (n4+1) c0.1 f t ov y (by simp only[grC,List.mem_cons,List.not_mem_nil,or_false]at hy;simp only[grBx,List.mem_cons,List.not_mem_nil,or_false];exact .inr hy)
       rcases List.mem_cons.1 hy with rfl|hy
       ·rfl
       rcases List.mem_cons.1 hy with rfl|hy
       ·rfl
       ·exact hXc y hy)).from W0.heap.size,KpC.un HT6.out HH.out (by have:=HTa.out.has.lt (b:=n4) (by simp[keys,grBx]);omega) (HTa.out.has.lt (by simp[keys])) (fun b hb=>by simp only[keys,grC,List.map_cons,List.map_nil,List.mem_cons,List.not_mem_nil,or_false]at hb;omega) hDD,
       ((HTa.out.perm (l2:=grC (n4+1+1) n4 (n4+1) ov f t++((w.heap.size,.cells #[.int .i64 c0.1] 3)::(nb,ceObj x)::((n4+1+1+1,.cells #[.func (.func 73) #[] #[pt w.heap.size,pt (n4+1+1),pt n4,pt (n4+1)]] 156)::(n4+1+1+1+1,bS sb)::(arBlks a aw W cw++(spBlk sb a tb bb::lb')++R)))) (perm_of fun c=>by simp[grBx,grC];omega)).trans HT6.out).perm (l2:=(nb,ceObj x)::(grBx w.heap.size (n4+1+1) n4 (n4+1) c0.1 (ov || x.1 == c0.1) f' t'++((n4+1+1+1,.cells #[.func (.func 73) #[] #[pt w.heap.size,pt (n4+1+1),pt n4,pt (n4+1)]] 156)::(n4+1+1+1+1,bS sb)::(arBlks a aw W cw++(spBlk sb a tb bb::lb')++R)))) (perm_of fun c=>by simp[grBx,grC];omega)⟩:
       KeepsFrom W0.heap.size W2 (w5.setCell ⟨n4+1+1,0,none⟩ (.bool (ov || x.1 == c0.1))) /\ KpC w4.heap.size (n4+1+1+1+1) (fun b=>n4 <= b /\ b<W0.heap.size /\ b≠n4+1+1+1+1) W2 (w5.setCell ⟨n4+1+1,0,none⟩ (.bool (ov || x.1 == c0.1))) /\ Turn [] w0 ((nb,ceObj x)::(grBx w.heap.size (n4+1+1) n4 (n4+1) c0.1 (ov || x.1 == c0.1) f' t'++((n4+1+1+1,.cells #[.func (.func 73) #[] #[pt w.heap.size,pt (n4+1+1),pt n4,pt (n4+1)]] 156)::(n4+1+1+1+1,bS sb)::(arBlks a aw W cw++(spBlk sb a tb bb::lb')++R)))) (w5.setCell ⟨n4+1+1,0,none⟩ (.bool (ov || x.1 == c0.1))))
     clear T5 T6 HT6 HH HTa
     by_cases hov:ov=true
     · subst hov
       simp only[Bool.true_or]at HFI HS2
       gi_wp2_with fail
       exact⟨HFI.out.1,HFI.out.2.1,f',t',true,HS2.out,hb1,hb2,HFI.out.2.2.tail⟩
     · have hov':ov=false:=by simpa using hov
       subst hov';clear hov
       by_cases hxe:x.1=c0.1
       · have k8:((x.1:Int) == (c0.1:Int))=true:=by rw[beq_iff_eq];omega
         have k9:(x.1 == c0.1)=true:=(by rw[beq_iff_eq];exact hxe);rw[k9]at HFI HS2;simp only[Bool.or_true]at HFI HS2;clear hxe
         gi_wp2_with fail
         exact⟨HFI.out.1,HFI.out.2.1,f',t',true,HS2.out,hb1,hb2,HFI.out.2.2.tail⟩
       · have k8:((x.1:Int) == (c0.1:Int))=false:=by rw[beq_eq_false_iff_ne];omega
         have k9:(x.1 == c0.1)=false:=(by rw[beq_eq_false_iff_ne];exact hxe);rw[k9]at HFI HS2;simp only[Bool.or_false]at HFI HS2;clear hxe
         gi_wp2_with fail
         exact⟨HFI.out.1,HFI.out.2.1,f',t',false,HS2.out,hb1,hb2,HFI.out.2.2.tail⟩)
 case hdone=>
  rintro D xs W2 hD rfl ⟨f,t,ov,e1,e2,e3,hT⟩ hK;obtain⟨ef,et⟩:=e1.done;obtain⟨ya,yb,yc,yd,-,-,-,-,-,-,hx1,hx2,hx3⟩:=drop_parts HC.out;have hle1:=hx2.le;have hle2:=hx3.le;have HDW:=uh (show dropW W P c0 Q=lay W f (t-f)by unfold dropW;rw[←ef,←et]);rw[←ef,←et]at hle1;rw[←et]at hle2;clear hx1 hx2 hx3 ef et;have hT9:=hT.perm (l2:=arBlks a aw W cw++((grBx w.heap.size (n4+1+1) n4 (n4+1) c0.1 ov f t)++((n4+1+1+1,.cells #[.func (.func 73) #[] #[pt w.heap.size,pt (n4+1+1),pt n4,pt (n4+1)]] 156)::(n4+1+1+1+1,bS sb)::(spBlk sb a tb bb::(lb'++R))))) po;have qf:W2.cell? ⟨n4,0,none⟩=some (.int .i64 f):=hT.has.cell (b:=n4) (c:=#[.int .i64 f]) (e:=3) (f:=(0,0)) (by simp[grBx]) 0;have qt:W2.cell? ⟨n4+1,0,none⟩=some (.int .i64 t):=hT.has.cell (b:=n4+1) (c:=#[.int .i64 t]) (e:=3) (f:=(0,0)) (by simp[grBx]) 0;have HG:=uh (sgap W2 (range_below HF0.out hT9.below) (Turn.refl hT9.has) (s:=sb) (tb:=tb) (bb:=bb) (by simp) hf f (t-f) (by omega));have hsub:(t:Int)-(f:Int)=((t-f:Nat):Int):=by omega
  have hcl:∀x∈arBlks a aw W cw++((grBx w.heap.size (n4+1+1) n4 (n4+1) c0.1 ov f t)++((n4+1+1+1,.cells #[.func (.func 73) #[] #[pt w.heap.size,pt (n4+1+1),pt n4,pt (n4+1)]] 156)::(n4+1+1+1+1,bS sb)::(spBlk sb a tb bb::(lb'++R)))),x.2.isCells=true:=fun y hy=>hAc f t ov y ((perm_of (l:=arBlks a aw W cw++((grBx w.heap.size (n4+1+1) n4 (n4+1) c0.1 ov f t)++((n4+1+1+1,.cells #[.func (.func 73) #[] #[pt w.heap.size,pt (n4+1+1),pt n4,pt (n4+1)]] 156)::(n4+1+1+1+1,bS sb)::(spBlk sb a tb bb::(lb'++R))))) (l':=grBx w.heap.size (n4+1+1) n4 (n4+1) c0.1 ov f t++((n4+1+1+1,.cells #[.func (.func 73) #[] #[pt w.heap.size,pt (n4+1+1),pt n4,pt (n4+1)]] 156)::(n4+1+1+1+1,bS sb)::(arBlks a aw W cw++(spBlk sb a tb bb::lb')++R))) (fun c=>by simp;omega)).mem_iff.1 hy)
  have hDn:D∉keys (arBlks a aw W cw++((grBx w.heap.size (n4+1+1) n4 (n4+1) c0.1 ov f t)++((n4+1+1+1,.cells #[.func (.func 73) #[] #[pt w.heap.size,pt (n4+1+1),pt n4,pt (n4+1)]] 156)::(n4+1+1+1+1,bS sb)::(spBlk sb a tb bb::(lb'++R))))):=fun hm=>by
   obtain⟨o,ho⟩:=mem_keys.1 hm;have h1:=hT9.has.own D o ho;rw[hK]at h1
   cases h1
   have:=hcl _ ho
   cases this
  have HT9:=uh hT9;have HK:=uh hK;have HDn:=uh hDn;have HBC:=uh (⟨hci,hbi⟩:ClrIn B B' c0.1 1 /\ BitIs bb B' (W.length/2) lb');clear hT hT9 hK hDn hcl
  gi_wp2_with fail
  refine(callsIn_wide.2 HG.out).mono ?_;rintro e w5 ⟨⟨u,rfl⟩,c5,T6⟩;have hK5:=(T6.same D (lt_of_block HK.out) HDn.out).trans HK.out;have T7:=(HT9.out.trans T6).perm (l2:=((grBx w.heap.size (n4+1+1) n4 (n4+1) c0.1 ov f t)++[(n4+1+1+1,.cells #[.func (.func 73) #[] #[pt w.heap.size,pt (n4+1+1),pt n4,pt (n4+1)]] 156),(n4+1+1+1+1,bS sb)])++(arBlks a aw (lay W f (t-f)) c5++(spBlk sb a tb bb::lb')++R)) po
  have T8:=T7.drop.grownB (B:=W0.heap.size) hw0W (fun y hy=>by
   rcases List.mem_append.1 hy with hy|hy
   · rcases List.mem_append.1 hy with hy|hy
     ·exact arBlks_cells _ _ _ _ y hy
     · rcases List.mem_cons.1 hy with rfl|hy
       ·rfl
       ·exact hbi.cells y hy
   ·exact hRc y hy) (grownBy_putObj' w5 D (.deferred none)) (fun r e=>by cases e;exact⟨hD,_,hK5,rfl⟩)
  have HT8:=uh T8;clear T6 T7 T8 HG qf qt HT9
  gi_wp2_with fail
  refine⟨by simp,.inl ⟨_,_,rfl,run_takeDeferred hK5,?_⟩⟩;refine⟨.int .i64 0,?_,B',lb',c5,rfl,HBC.out.1,HBC.out.2,by rw[HDW.out];exact HT8.out⟩;simp[results,results22,go_sem]
 case hstop=>
  rintro D c pre W2 hD ⟨rfl,f,t,ov,ef,et,hT⟩ hK;obtain⟨ya,yb,yc,yd,-,-,-,-,-,-,hx1,hx2,hx3⟩:=drop_parts HC.out;have hle1:=hx2.le;have hle2:=hx3.le;have HDW:=uh (show dropW W P c0 Q=lay W f (t-f)by unfold dropW;rw[←ef,←et]);rw[←ef,←et]at hle1;rw[←et]at hle2;clear hx1 hx2 hx3 ef et;have hT9:=hT.perm (l2:=arBlks a aw W cw++((grBx w.heap.size (n4+1+1) n4 (n4+1) c0.1 ov f t)++((n4+1+1+1,.cells #[.func (.func 73) #[] #[pt w.heap.size,pt (n4+1+1),pt n4,pt (n4+1)]] 156)::(n4+1+1+1+1,bS sb)::(spBlk sb a tb bb::(lb'++R))))) po;have qf:W2.cell? ⟨n4,0,none⟩=some (.int .i64 f):=hT.has.cell (b:=n4) (c:=#[.int .i64 f]) (e:=3) (f:=(0,0)) (by simp[grBx]) 0;have qt:W2.cell? ⟨n4+1,0,none⟩=some (.int .i64 t):=hT.has.cell (b:=n4+1) (c:=#[.int .i64 t]) (e:=3) (f:=(0,0)) (by simp[grBx]) 0;have HG:=uh (sgap W2 (range_below HF0.out hT9.below) (Turn.refl hT9.has) (s:=sb) (tb:=tb) (bb:=bb) (by simp) hf f (t-f) (by omega));have hsub:(t:Int)-(f:Int)=((t-f:Nat):Int):=by omega
  have hcl:∀x∈arBlks a aw W cw++((grBx w.heap.size (n4+1+1) n4 (n4+1) c0.1 ov f t)++((n4+1+1+1,.cells #[.func (.func 73) #[] #[pt w.heap.size,pt (n4+1+1),pt n4,pt (n4+1)]] 156)::(n4+1+1+1+1,bS sb)::(spBlk sb a tb bb::(lb'++R)))),x.2.isCells=true:=fun y hy=>hAc f t ov y ((perm_of (l:=arBlks a aw W cw++((grBx w.heap.size (n4+1+1) n4 (n4+1) c0.1 ov f t)++((n4+1+1+1,.cells #[.func (.func 73) #[] #[pt w.heap.size,pt (n4+1+1),pt n4,pt (n4+1)]] 156)::(n4+1+1+1+1,bS sb)::(spBlk sb a tb bb::(lb'++R))))) (l':=grBx w.heap.size (n4+1+1) n4 (n4+1) c0.1 ov f t++((n4+1+1+1,.cells #[.func (.func 73) #[] #[pt w.heap.size,pt (n4+1+1),pt n4,pt (n4+1)]] 156)::(n4+1+1+1+1,bS sb)::(arBlks a aw W cw++(spBlk sb a tb bb::lb')++R))) (fun c=>by simp;omega)).mem_iff.1 hy)
  have hDn:D∉keys (arBlks a aw W cw++((grBx w.heap.size (n4+1+1) n4 (n4+1) c0.1 ov f t)++((n4+1+1+1,.cells #[.func (.func 73) #[] #[pt w.heap.size,pt (n4+1+1),pt n4,pt (n4+1)]] 156)::(n4+1+1+1+1,bS sb)::(spBlk sb a tb bb::(lb'++R))))):=fun hm=>by
   obtain⟨o,ho⟩:=mem_keys.1 hm;have h1:=hT9.has.own D o ho;rw[hK]at h1
   cases h1
   have:=hcl _ ho
   cases this
  have HT9:=uh hT9;have HK:=uh hK;have HDn:=uh hDn;have HBC:=uh (⟨hci,hbi⟩:ClrIn B B' c0.1 1 /\ BitIs bb B' (W.length/2) lb');clear hT hT9 hK hDn hcl
  gi_wp2_with fail
  refine(callsIn_wide.2 HG.out).mono ?_;rintro e w5 ⟨⟨u,rfl⟩,c5,T6⟩;have hK5:=(T6.same D (lt_of_block HK.out) HDn.out).trans HK.out;have T7:=(HT9.out.trans T6).perm (l2:=((grBx w.heap.size (n4+1+1) n4 (n4+1) c0.1 ov f t)++[(n4+1+1+1,.cells #[.func (.func 73) #[] #[pt w.heap.size,pt (n4+1+1),pt n4,pt (n4+1)]] 156),(n4+1+1+1+1,bS sb)])++(arBlks a aw (lay W f (t-f)) c5++(spBlk sb a tb bb::lb')++R)) po
  have T8:=T7.drop.grownB (B:=W0.heap.size) hw0W (fun y hy=>by
   rcases List.mem_append.1 hy with hy|hy
   · rcases List.mem_append.1 hy with hy|hy
     ·exact arBlks_cells _ _ _ _ y hy
     · rcases List.mem_cons.1 hy with rfl|hy
       ·rfl
       ·exact hbi.cells y hy
   ·exact hRc y hy) (grownBy_putObj' w5 D (.deferred none)) (fun r e=>by cases e;exact⟨hD,_,hK5,rfl⟩)
  have HT8:=uh T8;clear T6 T7 T8 HG qf qt HT9
  gi_wp2_with fail
  refine⟨by simp,.inl ⟨_,_,rfl,run_takeDeferred hK5,?_⟩⟩;refine⟨.int .i64 0,?_,B',lb',c5,rfl,HBC.out.1,HBC.out.2,by rw[HDW.out];exact HT8.out⟩;simp[results,results22,go_sem]
end
section
open Go Go.RowKit Go.Shelf Go.IntWalk
theorem sdrop_none {w0:World}(w:World)(sb a aw tb bb:Nat){W B:List Nat}{lb R:List Blk}{cw:Int}(hB:BitIs bb B (W.length/2) lb)(hBu:u64ok B)(hBl:(W.length/2+63)/64 <= B.length)
  (T:Turn [] w0 (arBlks a aw W cw++(spBlk sb a tb bb::lb)++R) w)(hf:W.length <= 65536)(g:Int)(hno:g<0∨((W.length/2:Nat):Int) <= g∨bitAt B g.toNat=false):
  Calls prog 22 #[pt sb,.int .i64 g] w fun e w'=>e=.returned (.int .i64 3) /\ Turn [] w0 (arBlks a aw W cw++(spBlk sb a tb bb::lb)++R) w':=by
 have Hhas:=uh (show ∀w' (X:List Blk),Turn [] w0 (((w.heap.size,.cells #[.int .i64 g] 3)::lb)++X) w' -> Calls prog 71 #[pt bb,.int .i64 g] w' fun e w''=>e=.returned (.bool false) /\ Below w'.heap.size w' w'' from fun w' X V=>by
  obtain⟨bo,cap,hA⟩:=hB.at_ (R:=(w.heap.size,.cells #[.int .i64 g] 3)::X) (V.has.perm po)
  by_cases h:g<0∨((W.length/2:Nat):Int) <= g
  ·exact bhas_out w' bb _ B bo cap hA g h
  · obtain⟨k,rfl⟩:∃k:Nat,g=k:=⟨g.toNat,by omega⟩
    have hb:bitAt B k=false:=by
     rcases hno with h1|h1|h1
     ·exact absurd (.inl h1) h
     ·exact absurd (.inr h1) h
     ·simpa using h1
    have:=bhas w' bb _ B bo cap hA hBu hBl k (by omega) (by omega);rw[hb]at this;exact this)
 have T0:=T.alloc (.cells #[.int .i64 g] 3);have HT0:=uh (show Turn [] w0 (((w.heap.size,.cells #[.int .i64 g] 3)::lb)++(arBlks a aw W cw++(spBlk sb a tb bb::R))) (w.alloc (.cells #[.int .i64 g] 3)).drew from(T0.perm po).drew)
 have HS:=uh (fun w' (V:Turn [] w0 (((w.heap.size,.cells #[.int .i64 g] 3)::lb)++(arBlks a aw W cw++(spBlk sb a tb bb::R))) w')=>(⟨V.has.cell (b:=sb) (c:=#[pt a,pt tb,pt bb]) (e:=146) (f:=(0,0)) (by simp[spBlk]) 2,V.cell1 0⟩:
  w'.cell? ⟨sb,2,none⟩=some (pt bb) /\ w'.cell? ⟨w.heap.size,0,none⟩=some (.int .i64 g)))
 clear T0 T hB hno
 go_enter func22,ntmps22
 go_wp2_with fail
 refine wp_abs (fun W'=>Turn [] w0 (((w.heap.size,.cells #[.int .i64 g] 3)::lb)++(arBlks a aw W cw++(spBlk sb a tb bb::R))) W'.drew) HT0.out fun W1 T1=>?_;have hS1:=HS.out _ T1;have HT1:=uh T1;clear T1 HT0;refine wp_region_noPanic ?_;refine wp_region_listed (S:=fun W'=>W'.cell? ⟨sb,2,none⟩=some (pt bb) /\ W'.cell? ⟨w.heap.size,0,none⟩=some (.int .i64 g)) 7 [false,false,false,false,false,false,false] rfl rfl (by kernel_rfl) ?_;refine tkA 0 12 hS1 ?_;refine tkA 1 13 hS1 ?_;refine tkA 2 14 hS1 ?_;refine tkB 3 15 hS1 (fun w hSw=>hSw.1) ?_;refine tkB 4 16 hS1 (fun w hSw=>hSw.2) ?_;refine rdyA 5 (fun K hK=>?_)
 go_simp
 refine(Hhas.out _ _ HT1.out).mono ?_;rintro e w2 ⟨rfl,hB2⟩;have HT2:=uh (HT1.out.call hB2);have hS2:=HS.out _ HT2.out;clear HT1 hB2 hS1;refine hK.out _ _ hS2 fun _=>?_;clear hK K;simp only[st0,st1,st2];refine tkA 6 18 hS2 ?_;refine wpAnyH_done (by kernel_rfl) ?_ _;refine NoPanic.normal ?_;have HT3:=uh ((HT2.out.perm (l2:=(w.heap.size,.cells #[.int .i64 g] 3)::(arBlks a aw W cw++(spBlk sb a tb bb::lb)++R)) po).tail);clear hS2 HT2 HS Hhas
 go_wp2_with fail
 go_ret;exact⟨rfl,HT3.out⟩
end
section
open Go Go.RowKit Go.Shelf Go.IntWalk
attribute [local go_sem] Oper.semAt_some
def putBz (s sb:Nat)(g id n:Int)(er:Value):List Blk:=
 [(s+1+1+1+1,.cells #[er] 33),(s+1+1+1,.cells #[.int .i64 n] 3),(s+1+1,.cells #[.int .i64 id] 3),(s+1,.cells #[.int .i64 g] 3),(s,bS sb)]
theorem sput_err_in (nn:Nat)(w:World)(sb a aw tb:Nat){W:List Nat}(tao:Option Addr)(tcap:Nat)(L:List Ty)(hA:SpAt w sb a aw tb W tao tcap L)(hf:W.length <= 65536)(hTy:∀t∈L,TyIn t)(hL:L.length <= 1000)
  (g id n:Int)(hno:tyErr L id n≠0∨g<0∨((W.length/2:Nat):Int) <= g)(hn:3 <= nn):
  CallsIn Fence.wide nn prog 16 #[pt sb,.int .i64 g,.int .i64 id,.int .i64 n] w fun e w'=>e=.returned (.int .i64 (if tyErr L id n≠0 then tyErr L id n else 2)) /\ Below w.heap.size w w':=by
 have h1:1 <= nn:=by omega
 have h3:Fence.wide.fn 16:= trivial;have h6:Fence.wide.fn 64:= trivial;have h8:Fence.wide.fn 13:= trivial;have hro:Fence.wide.round=none:=rfl;have hszH:=sz_head;have Hof:=uh (fun w' (hB:Below w.heap.size w w')=>hof w' L hTy hL tb tao tcap (hA.below hB).tab id n)
 obtain⟨x0,x1,x2,x3,hx,hox⟩:∃x0 x1 x2 x3:Value,ofCells L id n=[x0,x1,x2,x3] /\ (#[x0,x1,x2,x3]:Array Value).all (·.oneCell')=true:=by
  unfold ofCells
  split
  ·exact⟨_,_,_,_,rfl,all_one (cs:=[.int .u8 1,.int .i64 id,.int .i64 n,.int .i64 (tySize L id n:Nat)]) (by simp[Value.oneCell'])⟩
  ·exact⟨_,_,_,_,rfl,hd0_one⟩
 rw[hx]at Hof;have Hgr:=uh (fun w' (hB:Below w.heap.size w w')=>sgran w' (hA.below hB).c0 (hA.below hB).ar hf);have T0:=(((((Turn.refl (Has.nil w)).alloc (bS sb)).alloc (.cells #[.int .i64 g] 3)).alloc (.cells #[.int .i64 id] 3)).alloc (.cells #[.int .i64 n] 3)).alloc (.cells #[.int .i64 0] 33);simp only[World.size_alloc]at T0;have HT0:Hid (Turn [] w (putBz w.heap.size sb g id n (.int .i64 0)) (((((w.alloc (bS sb)).alloc (.cells #[.int .i64 g] 3)).alloc (.cells #[.int .i64 id] 3)).alloc (.cells #[.int .i64 n] 3)).alloc (.cells #[.int .i64 0] 33))):=uh T0;have hq0:∀w' (Y:List Blk),Turn [] w (Y++putBz w.heap.size sb g id n (.int .i64 0)) w' -> w'.cell? ⟨w.heap.size,0,none⟩=some (pt sb):=fun w' Y V=>V.has.cell (b:=w.heap.size) (c:=#[pt sb]) (e:=26) (f:=(0,0)) (by simp[putBz]) 0;have hq:=hq0 _ [] HT0.out
 have HS:=uh (fun w' (Y:List Blk) (V:Turn [] w (Y++putBz w.heap.size sb g id n (.int .i64 0)) w')=>(⟨hq0 w' Y V,(hA.below V.below).c1,
    V.has.cell (b:=w.heap.size+1+1) (c:=#[.int .i64 id]) (e:=3) (f:=(0,0)) (by simp[putBz]) 0,V.has.cell (b:=w.heap.size+1+1+1) (c:=#[.int .i64 n]) (e:=3) (f:=(0,0)) (by simp[putBz]) 0⟩:
    w'.cell? ⟨w.heap.size,0,none⟩=some (pt sb) /\ w'.cell? ⟨sb,1,none⟩=some (pt tb) /\ w'.cell? ⟨w.heap.size+1+1,0,none⟩=some (.int .i64 id) /\ w'.cell? ⟨w.heap.size+1+1+1,0,none⟩=some (.int .i64 n)))
 have HS6:=uh (fun w' (Y:List Blk) (V:Turn [] w (Y++putBz w.heap.size sb g id n (.int .i64 0)) w')=>(⟨hq0 w' Y V,V.has.cell (b:=w.heap.size+1) (c:=#[.int .i64 g]) (e:=3) (f:=(0,0)) (by simp[putBz]) 0⟩:
    w'.cell? ⟨w.heap.size,0,none⟩=some (pt sb) /\ w'.cell? ⟨w.heap.size+1,0,none⟩=some (.int .i64 g)))
 have HR:=uh (fun w' (b9:Nat) (er:Int) (V:Turn [] w ([(b9,.cells #[x0,x1,x2,x3] 79)]++putBz w.heap.size sb g id n (.int .i64 0)) w')=>by
  have V':=V.perm (l2:=(w.heap.size+1+1+1+1,.cells #[.int .i64 0] 33)::(b9,.cells #[x0,x1,x2,x3] 79)::(w.heap.size+1+1+1,.cells #[.int .i64 n] 3)::(w.heap.size+1+1,.cells #[.int .i64 id] 3)::(w.heap.size+1,.cells #[.int .i64 g] 3)::[(w.heap.size,bS sb)]) (perm_of fun c=>by simp[putBz];omega);have V2:=V'.setCell 0 (.int .i64 er);exact(⟨V'.cell1 0,V'.free1 0,V2.cell1 0,V2.below⟩:w'.cell? ⟨w.heap.size+1+1+1+1,0,none⟩=some (.int .i64 0) /\ w'.frozen? ⟨w.heap.size+1+1+1+1,0,none⟩=false /\ (w'.setCell ⟨w.heap.size+1+1+1+1,0,none⟩ (.int .i64 er)).cell? ⟨w.heap.size+1+1+1+1,0,none⟩=some (.int .i64 er) /\ Below w.heap.size w (w'.setCell ⟨w.heap.size+1+1+1+1,0,none⟩ (.int .i64 er))))
 have hzb:W.length/2 <= 32768:=by omega
 obtain⟨z,hz⟩:∃z:Nat,W.length/2=z:=⟨_,rfl⟩;rw[hz]at Hgr hno hzb;generalize tyErr L id n=er at*;obtain⟨res,hres⟩:∃res:Int,(if er≠0 then er else 2)=res:=⟨_,rfl⟩;rw[hres];have Hres:=uh hres;clear hres;clear T0 hA hz hq0 hx;refine callsIn_of_wp func16 rfl h3 ?_ hro;simp only[ntmps16,List.size_toArray,List.length_cons,List.length_nil,Nat.reduceAdd,Nat.reduceSub,Array.replicate_succ,Array.replicate_zero,List.push_toArray,List.append_toArray,List.nil_append,List.cons_append]
 gi_wp2_with fail
 have HT1:=uh HT0.out.drew;generalize((((w.alloc (bS sb)).alloc (.cells #[.int .i64 g] 3)).alloc (.cells #[.int .i64 id] 3)).alloc (.cells #[.int .i64 n] 3)).alloc (.cells #[.int .i64 0] 33)=W1 at*;clear HT0 hq
 apply wpIn_mid1 (I:=fun b9 w'=>Turn [] w ((b9,.cells #[x0,x1,x2,x3] 79)::putBz w.heap.size sb g id n (.int .i64 0)) w')
 case h=>
  have T1:=HT1.out;have hS1:=HS.out _ [] T1;refine wpIn_region_noPanic ?_;refine wpIn_region_listedHI (S:=fun W'=>W'.cell? ⟨w.heap.size,0,none⟩=some (pt sb) /\ W'.cell? ⟨sb,1,none⟩=some (pt tb) /\ W'.cell? ⟨w.heap.size+1+1,0,none⟩=some (.int .i64 id) /\ W'.cell? ⟨w.heap.size+1+1+1,0,none⟩=some (.int .i64 n)) 13 [false,false,false,false,false,false,false,false,false,false,false,false,false] rfl rfl (by kernel_rfl) ?_;refine tkJ 0 17 hro hS1 (fun w hSw=>hSw.1) ?_;refine tkI 1 18 hro hS1 ?_;refine tkI 2 19 hro hS1 ?_;refine tkJ 3 20 hro hS1 (fun w hSw=>hSw.2.1) ?_;refine tkJ 4 21 hro hS1 (fun w hSw=>hSw.2.2.1) ?_;refine tkJ 5 22 hro hS1 (fun w hSw=>hSw.2.2.2) ?_;clear hS1;generalize W1.drew=V0 at T1 ⊢;refine wpAnyHI_two (i:=6) (j:=10) (by kernel_rfl) rfl rfl (fun K hK=>?_) (fun K hK=>?_)
  · go_simp
    refine(callsIn_wide.2 (Hof.out _ T1.below)).mono ?_;rintro e V1 ⟨rfl,hB⟩;have T2:=T1.call hB;have hS2:=HS.out _ [] T2;refine hK.out _ _ hS2 ?_;clear hK K;simp only[st0,st1,st2];refine tkI 7 16 hro hS2 ?_;refine tkI 8 24 hro hS2 ?_;refine tkI 9 25 hro hS2 ?_;refine wpAnyHI_call (i:=10) (by kernel_rfl) rfl (fun K hK=>?_)
    go_simp
    have T3:Turn [] w ([(V1.heap.size,zH)]++putBz w.heap.size sb g id n (.int .i64 0)) (V1.alloc zH):=T2.alloc zH;have hS3:=HS.out _ _ T3;refine hK.out _ _ hS3 ?_;clear hK K;simp only[st0,st1,st2];clear hS3 hS2 T2;generalize V1.alloc zH=V3 at*;generalize V1.heap.size=b9 at*;have hth:=T3.there1;have U:=T3.laid [x0,x1,x2,x3] rfl;refine wpAnyHI_call (i:=11) (by kernel_rfl) rfl (fun K hK=>?_);refine stepIn_store rfl rfl 79 _ _ rfl _ 0 #[x0,x1,x2,x3] rfl rfl hth hszH hox (follows_wide _ _) ?_;have hS4:=HS.out _ [_] U;refine hK.out _ _ hS4 ?_;clear hK K;simp only[st0,st1,st2];refine tkI 12 10 hro hS4 ?_;refine wpAnyHI_done (by kernel_rfl) ?_ _;refine NoPanic.normal ?_;exact⟨rfl,b9,rfl,U⟩
  · go_simp
    have T2:Turn [] w ([(V0.heap.size,zH)]++putBz w.heap.size sb g id n (.int .i64 0)) (V0.alloc zH):=T1.alloc zH;have hS2:=HS.out _ _ T2;refine hK.out _ _ hS2 ?_;clear hK K;simp only[st0,st1,st2];clear hS2;generalize V0.alloc zH=V2 at T2 ⊢;generalize V0.heap.size=b9 at T2 ⊢;refine wpAnyHI_call (i:=6) (by kernel_rfl) rfl (fun K hK=>?_)
    go_simp
    refine(callsIn_wide.2 (Hof.out _ T2.below)).mono ?_;rintro e V3 ⟨rfl,hB⟩;have T3:=T2.call hB;have hS3:=HS.out _ [_] T3;refine hK.out _ _ hS3 ?_;clear hK K;simp only[st0,st1,st2];refine tkI 7 16 hro hS3 ?_;refine tkI 8 24 hro hS3 ?_;refine tkI 9 25 hro hS3 ?_;clear hS3;have hth:=T3.there1;have U:=T3.laid [x0,x1,x2,x3] rfl;refine wpAnyHI_call (i:=11) (by kernel_rfl) rfl (fun K hK=>?_);refine stepIn_store rfl rfl 79 _ _ rfl _ 0 #[x0,x1,x2,x3] rfl rfl hth hszH hox (follows_wide _ _) ?_;have hS4:=HS.out _ [_] U;refine hK.out _ _ hS4 ?_;clear hK K;simp only[st0,st1,st2];refine tkI 12 10 hro hS4 ?_;refine wpAnyHI_done (by kernel_rfl) ?_ _;refine NoPanic.normal ?_;exact⟨rfl,b9,rfl,U⟩
 case hq=>
  intro b9 w6 T5;have HT5:Hid (Turn [] w ([(b9,.cells #[x0,x1,x2,x3] 79)]++putBz w.heap.size sb g id n (.int .i64 0)) w6):=uh T5;have T6:Turn [] w ([(b9,.cells #[x0,x1,x2,x3] 79)]++putBz w.heap.size sb g id n (.int .i64 0)) w6.drew:=T5.drew;have hS6:=HS6.out _ _ T6;clear T5
  by_cases he:er=0
  · subst he
    have Hr2:=uh (show res=2 by have:=Hres.out;simpa using this.symm);obtain⟨c8,f8,r8,b8⟩:=HR.out _ b9 2 HT5.out;have hno':g<0∨(z:Int) <= g:=hno.resolve_left (by simp);clear hno
    by_cases hg:g<0
    · have k0:decide (g<0)=true:=decide_eq_true hg
      clear hno'
      gi_wp2_with fail
      refine wpIn_region_noPanic ?_;refine wpIn_region_listedHI (S:=fun W'=>W'.cell? ⟨w.heap.size,0,none⟩=some (pt sb) /\ W'.cell? ⟨w.heap.size+1,0,none⟩=some (.int .i64 g)) 8 [false,false,false,false,false,false,false,false] rfl rfl (by kernel_rfl) ?_;refine tkJ 0 29 hro hS6 (fun w hSw=>hSw.2) ?_;refine tkI 1 30 hro hS6 ?_;refine tkI 2 31 hro hS6 ?_;refine tkT 3 32 hro hS6 ?_;refine tkT 4 33 hro hS6 ?_;refine wpAnyHI_call (i:=5) (by kernel_rfl) rfl (fun K hK=>?_)
      go_simp
      refine hK.out _ _ hS6 ?_;clear hK K;simp only[st0,st1,st2];refine tkT 6 35 hro hS6 ?_;refine tkI 7 36 hro hS6 ?_;refine wpAnyHI_done (by kernel_rfl) ?_ _;refine NoPanic.normal ?_;clear hS6 HS HS6
      gi_wp2_with fail
      refine bodyPost_ret (v:=.int .i64 2) ?_ rfl ?_
      ·simp[results,results16,go_sem,r8]
      ·exact⟨by rw[Hr2.out],b8.drew⟩
    · have k0:decide (g<0)=false:=decide_eq_false hg
      have k1:decide ((z:Int) <= g)=true:=decide_eq_true (hno'.resolve_left hg);clear hno'
      gi_wp2_with fail
      refine wpIn_region_noPanic ?_;refine wpIn_region_listedHI (S:=fun W'=>W'.cell? ⟨w.heap.size,0,none⟩=some (pt sb) /\ W'.cell? ⟨w.heap.size+1,0,none⟩=some (.int .i64 g)) 8 [false,false,false,false,false,false,false,false] rfl rfl (by kernel_rfl) ?_;refine tkJ 0 29 hro hS6 (fun w hSw=>hSw.2) ?_;refine tkI 1 30 hro hS6 ?_;refine tkI 2 31 hro hS6 ?_;refine tkJ 3 32 hro hS6 (fun w hSw=>hSw.2) ?_;refine tkJ 4 33 hro hS6 (fun w hSw=>hSw.1) ?_;refine wpAnyHI_call (i:=5) (by kernel_rfl) rfl (fun K hK=>?_)
      go_simp
      refine(callsIn_wide.2 (Hgr.out _ T6.below)).mono ?_;rintro e V6 ⟨rfl,hw6⟩;rw[hw6];clear hw6 V6;refine hK.out _ _ hS6 ?_;clear hK K;simp only[st0,st1,st2];refine tkI 6 35 hro hS6 ?_;refine tkI 7 36 hro hS6 ?_;refine wpAnyHI_done (by kernel_rfl) ?_ _;refine NoPanic.normal ?_;clear hS6 HS HS6
      gi_wp2_with fail
      refine bodyPost_ret (v:=.int .i64 2) ?_ rfl ?_
      ·simp[results,results16,go_sem,r8]
      ·exact⟨by rw[Hr2.out],b8.drew⟩
  · have Hr2:=uh (show res=er by have:=Hres.out;rw[if_pos he]at this;exact this.symm)
    have ke:(er != 0)=true:=(by rw[bne_iff_ne];exact he);obtain⟨c8,f8,r8,b8⟩:=HR.out _ b9 er HT5.out;clear hno hS6 T6 HS HS6
    gi_wp2_with fail
    refine bodyPost_ret (v:=.int .i64 er) ?_ rfl ?_
    ·simp[results,results16,go_sem,r8]
    ·exact⟨by rw[Hr2.out],b8⟩
end
section
open Go Go.RowKit Go.Shelf Go.IntWalk
def endsOf (os:List Ce):List Nat:=0::os.map fun c=>c.1+c.2.size
theorem endsOf_next {os:List Ce}{i:Nat}{c:Ce}(h:os[i]?= some c):endsOf (os.take (i+1))=endsOf (os.take i)++[c.1+c.2.size]:=by rw[take_next h];simp[endsOf]
theorem endOf_get:∀(os:List Ce) (e i:Nat),i <= os.length -> (e::os.map fun c=>c.1+c.2.size)[i]?= some (endOf e (os.take i))
 | _,e,0,_=>rfl
 | c::os,e,i+1,h=>by
  rw[List.getElem?_cons_succ,List.map_cons,List.take_succ_cons];exact endOf_get os _ i (by simpa using h)
 | [],_,i+1,h=>by simp at h
theorem endsOf_get (os:List Ce){i:Nat}(h:i <= os.length):(nats (endsOf os))[i]?= some (.int .i64 (endOf 0 (os.take i):Nat)):=by
 have:=endOf_get os 0 i h;unfold nats endsOf;rw[List.getElem?_map,this]
 rfl
theorem endsOf_take_get (os:List Ce){i:Nat}(h:i <= os.length):(nats (endsOf (os.take i)))[i]?= some (.int .i64 (endOf 0 (os.take i):Nat)):=by
 have:=endsOf_get (os.take i) (i:=i) (by simp;omega);rw[List.take_take,Nat.min_self]at this;exact this
def bitsOf (B:List Nat)(z:Nat)(os:List Ce):Prop:=∀i,i<z -> (bitAt B i=true↔∃c∈os,c.1=i)
theorem bitsOf.clr {B B':List Nat}{z:Nat}(h:ClrIn B B' 0 z):bitsOf B' z []:=fun i hi=>by
 rw[h.2.2 i];have:(decide (0 <= i) && decide (i<0+z))=true:=by simp;omega
 rw[this];simp
theorem bitsOf.set {B B':List Nat}{z:Nat}{os:List Ce}{c:Ce}(hb:bitsOf B z os)(h:SetIn B B' c.1 1):bitsOf B' z (os++[c]):=fun i hi=>by
 rw[h.2.2 i,Bool.or_eq_true,hb i hi,Bool.and_eq_true,decide_eq_true_eq,decide_eq_true_eq]
 constructor
 · rintro(⟨d,hd,he⟩|h1)
   ·exact⟨d,List.mem_append_left _ hd,he⟩
   ·exact⟨c,by simp,by omega⟩
 · rintro⟨d,hd,he⟩
   rcases List.mem_append.1 hd with hd|hd
   ·exact .inl ⟨d,hd,he⟩
   · rw[List.mem_singleton.1 hd]at he
     exact .inr (by omega)
theorem ssettle {w0:World}(w:World)(sb a aw tb bb:Nat){W B:List Nat}{lb R:List Blk}{cw:Int}(tao:Option Addr)(tcap:Nat)(L:List Ty)(hB:BitIs bb B (W.length/2) lb)(hBu:u64ok B)(hBl:(W.length/2+63)/64 <= B.length)
  (T:Turn [] w0 (arBlks a aw W cw++(spBlk sb a tb bb::lb)++R) w)(hTab:TabAt w0 tb tao tcap L)(hF0:Fields w0)(hf:W.length <= 65536)(hu:∀v∈W,v<18446744073709551616)(hTy:∀t∈L,TyIn t)(hL:L.length <= 1000)
  (os:List Ce)(hr:rises L W 0 os)(aa:Option Addr)(acap:Nat)(hAt:∀(w':World) (X:List Blk),Turn [] w0 (X++R) w' -> Src w' aa os.length acap 1 (ints (cesAt os))):
  Calls prog 138 #[pt sb,.slice aa os.length acap] w fun e w'=>e=.returned (.int .i64 0) /\ ∃(B':List Nat) (lb':List Blk) (cw':Int),B'.length=B.length /\ u64ok B' /\ bitsOf B' (W.length/2) os /\ BitIs bb B' (W.length/2) lb' /\
   Turn [] w0 (arBlks a aw (settleW (W.length/2) W os 0) cw'++(spBlk sb a tb bb::lb')++R) w':=by
 have hl0:=rises_len hr (Nat.zero_le _);have hzb:W.length/2 <= 32768:=by omega
 have Hsp:=uh (fun w' (W':List Nat) (c':Int) (Y:List Blk) (hl:W'.length <= 65536) (V:Turn [] w0 (arBlks a aw W' c'++(spBlk sb a tb bb::Y)) w')=>
  (⟨V.has.cell (b:=sb) (c:=#[pt a,pt tb,pt bb]) (e:=146) (f:=(0,0)) (by simp[spBlk]) 0,V.has.cell (b:=sb) (c:=#[pt a,pt tb,pt bb]) (e:=146) (f:=(0,0)) (by simp[spBlk]) 1,arBlks_at V.has hl,hTab.below V.below,range_below hF0 V.below⟩:SpAt w' sb a aw tb W' tao tcap L))
 have Hs2:=uh (fun w' (Y:List Blk) (V:Turn [] w0 (spBlk sb a tb bb::Y) w')=>(V.cell1 2:w'.cell? ⟨sb,2,none⟩=some (pt bb)));have Hof:=uh (fun w' (A:SpAt w' sb a aw tb W tao tcap L) (g:Int)=>sof w' A.fields A.ar hu L hTy hL tb tao tcap A.tab g);have Hr:=uh (fun i c=>rises_at hr (i:=i) (c:=c));have Hle:=uh (endOf_take_le hr);have HA:=uh (fun(h:0<os.length) w' X (V:Turn [] w0 (X++R) w')=>(hAt w' X V).form (by rw[ints_len,cesAt_len];exact h));have HAg:=uh (fun w' X (V:Turn [] w0 (X++R) w')=>hAt w' X V);have hone:∀v:Nat,∀u∈([.int .i64 v]:List Value),u.oneCell'=true:=by intro v u hu;simp at hu;subst hu;rfl
 have HB:=uh hB;have HT:=uh (T.perm (l2:=arBlks a aw W cw++(spBlk sb a tb bb::(lb++R))) po);have hrow0:Row 3 1 (some ⟨w.heap.size,0,none⟩) 1 1 (nats (endsOf (os.take 0))) [(w.heap.size,.cells #[.int .i64 0] 3)]:=⟨rfl,Nat.le_refl _,by decide,.inr ⟨_,_,rfl,rfl,by decide,rfl⟩⟩;have HR0:=uh hrow0;have HT0:=uh (HT.out.alloc (.cells #[.int .i64 0] 3));have HF0:=uh hF0;clear T hB hTab hF0 hAt hrow0
 go_enter func138,ntmps138
 go_wp2_with fail
 go_loopw [5,18] (fun v5 v18 wr=>∃(i:Nat) (b5 p5:Nat) (lr5:List Blk),i <= os.length /\ v18=.int .i64 i /\ v5=.slice (some ⟨b5,0,none⟩) (i+1) p5 /\ Row 3 1 (some ⟨b5,0,none⟩) (i+1) p5 (nats (endsOf (os.take i))) lr5 /\ Turn [] w0 (lr5++(arBlks a aw W cw++(spBlk sb a tb bb::(lb++R)))) wr) (fun _ v18 _=>os.length-(intOf v18).toNat)
 case atStart=>exact⟨0,w.heap.size,1,_,Nat.zero_le _,by go_num,by go_num,HR0.out,HT0.out⟩
 case round=>
  clear HT0 HR0;obtain⟨i,b5,p5,lr5,hi,rfl,rfl,hr5,T⟩:=hrel
  by_cases hlt:i<os.length
  · have hlt':(i:Int)<(os.length:Int):=by omega
    obtain⟨c,hc⟩:∃c,os[i]?= some c:=⟨os[i],List.getElem?_eq_getElem hlt⟩;obtain⟨hce,hst,hct⟩:=Hr.out i c hc;have hoq:=objq_of hst hct;have hroom:=hst.2.2;have hexT:=T.perm (l2:=(lr5++(arBlks a aw W cw++(spBlk sb a tb bb::lb)))++R) po;obtain⟨ab,aoff,rfl,hat0⟩:=HA.out (by omega) wr _ hexT;have hat:=hat0 i _ (ints_get (cesAt_get hc));have T7:=T.perm (l2:=arBlks a aw W cw++(spBlk sb a tb bb::(lr5++(lb++R)))) po;have Hen:=uh (endsOf_next hc);have hcur:=(hr5.src (R:=arBlks a aw W cw++(spBlk sb a tb bb::(lb++R))) T.has);have HSp:=uh (fun w' Y (V:Turn [] w0 (arBlks a aw W cw++(spBlk sb a tb bb::Y)) w')=>Hsp.out w' W cw Y hf V)
    have Hcall:=uh (fun w' Y (V:Turn [] w0 (arBlks a aw W cw++(spBlk sb a tb bb::Y)) w')=>by
     have h:=Hof.out w' (HSp.out w' Y V) c.1;rw[hoq]at h;exact h)
    simp only at Hcall;have hlast:=endsOf_take_get os (i:=i) (by omega);generalize hen:endOf 0 (os.take i)=en at*;have k1:decide ((c.1:Int)<(en:Int))=false:=decide_eq_false (by omega);have k2:decide (c.1<en)=false:=decide_eq_false (by omega);have HT7:=uh T7.drew;have Hr5:=uh hr5;have Hlast:=uh hlast;clear hexT hat0 T T7 hcur hr5 hlast hst hoq hen HB
    go_wp2_with fail
    refine wp_abs (fun W'=>Turn [] w0 (arBlks a aw W cw++(spBlk sb a tb bb::(lr5++(lb++R)))) W'.drew) HT7.out fun W1 T1=>?_;have hS1:=(⟨(HSp.out _ _ T1).c0,(HSp.out _ _ T1).c1⟩:W1.drew.cell? ⟨sb,0,none⟩=some (pt a) /\ W1.drew.cell? ⟨sb,1,none⟩=some (pt tb));have HT1:=uh T1;clear T1 HT7 hat;refine wp_region_noPanic ?_;refine wp_region_listed (S:=fun W'=>W'.cell? ⟨sb,0,none⟩=some (pt a) /\ W'.cell? ⟨sb,1,none⟩=some (pt tb)) 15 [false,false,false,false,false,false,false,false,false,false,false,false,false,false,false] rfl rfl (by kernel_rfl) ?_;refine tkA 0 23 hS1 ?_;refine tkA 1 24 hS1 ?_;refine tkA 2 25 hS1 ?_;refine tkB 3 26 hS1 (fun w hSw=>hSw.1) ?_;refine tkA 4 27 hS1 ?_;refine tkA 5 28 hS1 ?_;refine tkA 6 29 hS1 ?_;refine tkB 7 30 hS1 (fun w hSw=>hSw.2) ?_;refine tkA 8 31 hS1 ?_;refine rdyA 9 (fun K hK=>?_)
    go_simp
    refine(Hcall.out _ _ HT1.out).mono ?_;rintro e w2 ⟨vb,rfl,T2⟩;have T3:=HT1.out.grow T2;have T4:=T3.perm (l2:=arBlks a aw W cw++(spBlk sb a tb bb::((vb,.cells (viewCells a c.1 c.2 (tyAt L c.2.typ)).toArray 238)::(lr5++(lb++R))))) po;have hS2:=(⟨(HSp.out _ _ T4).c0,(HSp.out _ _ T4).c1⟩:w2.cell? ⟨sb,0,none⟩=some (pt a) /\ w2.cell? ⟨sb,1,none⟩=some (pt tb));have HT3:=uh (T3.perm (l2:=lr5++((vb,.cells (viewCells a c.1 c.2 (tyAt L c.2.typ)).toArray 238)::(arBlks a aw W cw++(spBlk sb a tb bb::(lb++R))))) po);have hv:VwAt w2 vb a c.1 c.2 (tyAt L c.2.typ):=(T3.has.range (List.mem_cons_self ..));have HV:=uh hv;clear T2 T3 T4 hS1 HT1 hv Hcall;refine hK.out _ _ hS2 fun _=>?_;clear hK K;simp only[st0,st1,st2];refine tkA 10 22 hS2 ?_;refine tkA 11 33 hS2 ?_;refine tkA 12 34 hS2 ?_;refine tkA 13 8 hS2 ?_;refine tkA 14 9 hS2 ?_;refine wpAnyH_done (by kernel_rfl) ?_ _;refine NoPanic.normal ?_;clear hS2
    have q5:w2.cell? ⟨b5,i,none⟩=some (.int .i64 en):=by
     have h:=(Hr5.out.src (R:=(vb,.cells (viewCells a c.1 c.2 (tyAt L c.2.typ)).toArray 238)::(arBlks a aw W cw++(spBlk sb a tb bb::(lb++R)))) HT3.out.has).at_ _ rfl i _ Hlast.out;rw[add_lit,Nat.zero_add]at h;exact h
    have hil:i <= 65536:=(by omega);have hcb:c.1+c.2.size <= 65536:=(by omega);have h63:i+1+1 <= maxLen:=(by unfold maxLen;omega);have hby:(i+1+1)*8 <= 140737488355328:=by omega
    go_wp2_with fail
    refine(vhead w2 HV.out).mono ?_;rintro e w3 ⟨rfl,hB3⟩;unfold hdVal;have hfd:∀w:World,(Instr.field 79 (.agg #[.int .u8 c.2.tag,.int .i64 c.2.typ,.int .i64 c.2.len,.int .i64 c.2.size]) 3).run prog w=.ok (.int .i64 c.2.size) w:=fun _=>by kernel_rfl
    have hfd1:∀w:World,(Instr.field 79 (.agg #[.int .u8 1,.int .i64 c.2.typ,.int .i64 c.2.len,.int .i64 c.2.size]) 3).run prog w=.ok (.int .i64 c.2.size) w:=fun _=>by kernel_rfl
    have HT4:=uh (HT3.out.call hB3);clear hB3 HT3 q5 HV Hlast
    go_wp2_with (first
     | (at_builtin;refine wpList_append_row rfl _ _ rfl el_int rfl Hr5.out (R:=(w3.heap.size,.cells #[.int .i64 ((c.1:Int)+(c.2.size:Int))] 3)::(vb,.cells (viewCells a c.1 c.2 (tyAt L c.2.typ)).toArray 238)::(arBlks a aw W cw++(spBlk sb a tb bb::(lb++R)))) ((HT4.out.alloc (.cells #[.int .i64 ((c.1:Int)+(c.2.size:Int))] 3)).perm po).has rfl (news:=[.int .i64 ((c.1:Int)+(c.2.size:Int))]) rfl (news_of (heap_alloc_new _ _)) (by simp[Value.oneCell']) h63 hby ?_;intro a9 p9 l9 w9 hr9 V9 hno;have HT9:=uh (((HT4.out.alloc (.cells #[.int .i64 ((c.1:Int)+(c.2.size:Int))] 3)).perm (l2:=lr5++((w3.heap.size,.cells #[.int .i64 ((c.1:Int)+(c.2.size:Int))] 3)::(vb,.cells (viewCells a c.1 c.2 (tyAt L c.2.typ)).toArray 238)::(arBlks a aw W cw++(spBlk sb a tb bb::(lb++R))))) po).trans V9);have Hr9:=uh hr9;clear hr9 V9 hno)
     | fail)
    obtain⟨b9,cur9,rfl,-,-,-⟩:=Hr9.out.some_of (by omega)
    go_roundw
    case rel=>
     refine⟨i+1,b9,p9,l9,by omega,by go_num,by go_num,?_,((HT9.out.perm (l2:=[(w3.heap.size,.cells #[.int .i64 ((c.1:Int)+(c.2.size:Int))] 3),(vb,.cells (viewCells a c.1 c.2 (tyAt L c.2.typ)).toArray 238)]++(l9++(arBlks a aw W cw++(spBlk sb a tb bb::(lb++R))))) po).drop)⟩;rw[Hen.out,nats_append];have h9:nats [c.1+c.2.size]=[.int .i64 ((c.1:Int)+(c.2.size:Int))]:=(by simp[nats]);rw[h9];exact Hr9.out
    case measure=>simp[intOf];omega
  · obtain rfl:i=os.length:=by omega
    have hnl:¬((os.length:Nat):Int)<(os.length:Int):=(by omega);rw[List.take_length]at hr5;have HT2:=uh ((T.perm (l2:=lb++(arBlks a aw W cw++(spBlk sb a tb bb::(lr5++R)))) po).drew);have Hr5:=uh hr5
    have Hen:=uh (fun w' (X:List Blk) (j:Nat) (hj:j <= os.length) (V:Turn [] w0 (X++(lr5++R)) w')=>by
     have h:=(hr5.src (R:=X++R) (V.has.perm po)).at_ _ rfl j _ (endsOf_get os hj);rw[add_lit,Nat.zero_add]at h;exact h)
    have hB:=HB.out;have Hclr:=uh (fun w' (X:List Blk) (V:Turn [] w0 (lb++X) w')=>bclrrun w' bb _ B lb X hB hBu hBl (by omega) V);clear T hr5 hi hlt hB;obtain⟨z,hz⟩:∃z:Nat,W.length/2=z:=⟨_,rfl⟩;rw[hz]at Hclr hzb Hle;have HZ:=uh hz;clear hz
    go_wp2_with fail
    refine wp_abs (fun W'=>Turn [] w0 (lb++(arBlks a aw W cw++(spBlk sb a tb bb::(lr5++R)))) W'.drew) HT2.out fun W1 T1=>?_;have A1:=Hsp.out W1.drew W cw (lb++(lr5++R)) hf (T1.perm po);have Hs22:=uh (fun w' (Y:List Blk) (V:Turn [] w0 (Y++(arBlks a aw W cw++(spBlk sb a tb bb::(lr5++R)))) w')=>Hs2.out w' (Y++(arBlks a aw W cw++(lr5++R))) (V.perm po));have hS1:=Hs22.out _ _ T1;have Hg1:=uh (sgran _ A1.c0 A1.ar hf);rw[HZ.out]at Hg1;have Hc1:=uh (Hclr.out _ _ T1);rw[show((0:Nat):Int)=0 from rfl]at Hc1;clear T1 A1 HT2;refine wp_region_noPanic ?_;refine wp_region_listed (S:=fun W'=>W'.cell? ⟨sb,2,none⟩=some (pt bb)) 7 [false,false,false,false,false,false,false] rfl rfl (by kernel_rfl) ?_;refine tkA 0 56 hS1 ?_;refine tkA 1 57 hS1 ?_;refine tkA 2 58 hS1 ?_;refine tkB 3 59 hS1 (fun w hSw=>hSw) ?_;refine tkA 4 60 hS1 ?_;refine rdyA 5 (fun K hK=>?_)
    go_simp
    refine Hg1.out.mono ?_;rintro e w2 ⟨rfl,hw2⟩;subst hw2;refine hK.out _ _ hS1 fun _=>?_;clear hK K;simp only[st0,st1,st2];refine rdyA 6 (fun K hK=>?_)
    go_simp
    refine Hc1.out.mono ?_;rintro e w3 ⟨rfl,B1,lb1,hci,hbi,T3⟩;have hS3:=Hs22.out _ _ T3;have HT3:=uh (T3.perm (l2:=arBlks a aw W cw++(spBlk sb a tb bb::(lb1++(lr5++R)))) po);have HB1:=uh (⟨hci.1,hci.2.1,bitsOf.clr hci,hbi⟩:B1.length=B.length /\ u64ok B1 /\ bitsOf B1 z [] /\ BitIs bb B1 z lb1);clear hci hbi T3 Hg1 Hc1 hS1;refine hK.out _ _ hS3 fun _=>?_;clear hK K;simp only[st0,st1,st2];refine wpAnyH_done (by kernel_rfl) ?_ _;refine NoPanic.normal ?_;clear hS3
    go_wp2_with fail
    go_loopw [65] (fun v65 wr=>∃(j en:Nat) (Wj Bj:List Nat) (lbj:List Blk) (cj:Int),j <= os.length /\ v65=.int .i64 j /\ en=endOf 0 (os.take j) /\ settleW z Wj (os.drop j) en=settleW z W os 0 /\ Wj.length=W.length /\ Bj.length=B.length /\ u64ok Bj /\ bitsOf Bj z (os.take j) /\ BitIs bb Bj z lbj /\ Turn [] w0 (arBlks a aw Wj cj++(spBlk sb a tb bb::(lbj++(lr5++R)))) wr) (fun v65 _=>os.length-(intOf v65).toNat)
    case atStart=>exact⟨0,0,W,B1,lb1,cw,Nat.zero_le _,by go_num,rfl,rfl,rfl,HB1.out.1,HB1.out.2.1,HB1.out.2.2.1,HB1.out.2.2.2,HT3.out⟩
    case round=>
     clear HT3 HB1;obtain⟨j,en,Wj,Bj,lbj,cj,hj,rfl,hen,hsw,hwl,hbl,hbu,hbo,hbi,T⟩:=hrel
     by_cases hlt:j<os.length
     · have hlt':(j:Int)<(os.length:Int):=by omega
       obtain⟨c,hc⟩:∃c,os[j]?= some c:=⟨os[j],List.getElem?_eq_getElem hlt⟩;obtain⟨hce,hst,hct⟩:=Hr.out j c hc;rw[←hen]at hce;have hroom:=hst.2.2;rw[HZ.out]at hroom;have hpos:=hst.pos;rw[settleW_next hc]at hsw;have He1:=uh (endOf_next hc);have Htk:=uh (take_next hc);obtain⟨ab,aoff,rfl,hat0⟩:=HA.out (by omega) wr _ (T.perm (l2:=(arBlks a aw Wj cj++(spBlk sb a tb bb::(lbj++lr5)))++R) po);have hat:=hat0 j _ (ints_get (cesAt_get hc));have hs2:=Hs2.out wr (arBlks a aw Wj cj++(lbj++(lr5++R))) (T.perm po);have Hset:=uh (bset wr bb z c.1 Bj lbj (arBlks a aw Wj cj++(spBlk sb a tb bb::(lr5++R))) hbi hbu (by rw[hbl];rw[←HZ.out];exact hBl) (by omega) (by omega) (T.perm po));have hsub:(c.1:Int)-(en:Int)=((c.1-en:Nat):Int):=(by omega);have HQ:=uh (⟨hsw,hwl,hbl,hbo⟩:settleW z (lay Wj en (c.1-en)) (os.drop (j+1)) (c.1+c.2.size)=settleW z W os 0 /\ Wj.length=W.length /\ Bj.length=B.length /\ bitsOf Bj z (os.take j));have Henj:=uh (fun w' (X:List Blk) (V:Turn [] w0 (X++(lr5++R)) w')=>Hen.out w' X j hj V);rw[←hen]at Henj;have hwr:IntKind.i64.wrap (((c.1-en:Nat)):Int)=((c.1-en:Nat):Int):=i64_in _ (by omega);have hjb:(j:Int)<(os.length:Int)+1:=(by omega);have hg9:en+(c.1-en) <= Wj.length/2:=(by rw[hwl,HZ.out];omega);have hf9:Wj.length <= 65536:=(by rw[hwl];exact hf);clear hc hst hct T hsw hwl hbl hbu hbo hbi hat0 hen hpos
       go_wp2_with fail
       refine Hset.out.mono ?_;rintro e w4 ⟨rfl,B5,lb5,hsi,hbi,T4⟩;have HB5:=uh (⟨hsi.1.trans HQ.out.2.2.1,hsi.2.1,HQ.out.2.2.2.set hsi,hbi⟩:B5.length=B.length /\ u64ok B5 /\ bitsOf B5 z (os.take j++[c]) /\ BitIs bb B5 z lb5);have HT5:=uh ((T4.perm (l2:=(arBlks a aw Wj cj++(spBlk sb a tb bb::lb5))++(lr5++R)) po).drew);clear hsi hbi T4 Hset hat hs2
       go_wp2_with fail
       refine wp_abs (fun W'=>Turn [] w0 ((arBlks a aw Wj cj++(spBlk sb a tb bb::lb5))++(lr5++R)) W'.drew) HT5.out fun W1 T1=>?_;have hS1:=Henj.out _ _ T1;have T1':=T1.perm (l2:=arBlks a aw Wj cj++(spBlk sb a tb bb::(lb5++(lr5++R)))) po;have HG:=uh (sgap _ (range_below HF0.out T1'.below) T1' (s:=sb) (tb:=tb) (bb:=bb) (List.mem_cons_self ..) hf9 en (c.1-en) hg9);clear T1 T1' HT5;refine wp_region_noPanic ?_;refine wp_region_listed (S:=fun W'=>W'.cell? ⟨b5,j,none⟩=some (.int .i64 en)) 12 [false,false,false,false,false,false,false,false,false,false,false,false] rfl rfl (by kernel_rfl) ?_;refine tkA 0 76 hS1 ?_;refine tkA 1 77 hS1 ?_;refine tkA 2 78 hS1 ?_;refine tkA 3 79 hS1 ?_;refine tkB 4 80 hS1 (fun w hSw=>hSw) ?_;refine tkA 5 81 hS1 ?_;refine tkA 6 82 hS1 ?_;refine tkA 7 83 hS1 ?_;refine tkA 8 84 hS1 ?_;refine tkB 9 85 hS1 (fun w hSw=>hSw) ?_;refine tkA 10 86 hS1 ?_;refine rdyA 11 (fun K hK=>?_)
       go_simp
       refine HG.out.mono ?_;rintro e w6 ⟨⟨u,rfl⟩,c6,T6⟩;have hS6:=Henj.out _ _ (T6.perm (l2:=(arBlks a aw (lay Wj en (c.1-en)) c6++(spBlk sb a tb bb::lb5))++(lr5++R)) po);have HT6:=uh T6;clear T6 HG hS1;refine hK.out _ _ hS6 fun _=>?_;clear hK K;simp only[st0,st1,st2];refine wpAnyH_done (by kernel_rfl) ?_ _;refine NoPanic.normal ?_;clear hS6 Henj
       go_wp2_with fail
       go_roundw
       case rel=>exact⟨j+1,c.1+c.2.size,_,B5,lb5,c6,by omega,by go_num,He1.out.symm,HQ.out.1,by rw[lay_len];exact HQ.out.2.1,HB5.out.1,HB5.out.2.1,by rw[Htk.out];exact HB5.out.2.2.1,HB5.out.2.2.2,HT6.out⟩
       case measure=>simp[intOf];omega
     · obtain rfl:j=os.length:=by omega
       rw[settleW_last (Nat.le_refl _)]at hsw;rw[List.take_length]at hbo;have hb:=Hle.out os.length;rw[←hen]at hb;have hq:=Hen.out wr (arBlks a aw Wj cj++(spBlk sb a tb bb::lbj)) os.length (Nat.le_refl _) (T.perm po);rw[←hen]at hq;have A2:=Hsp.out wr Wj cj (lbj++(lr5++R)) (by rw[hwl];exact hf) T;have Hg2:=uh (sgran _ A2.c0 A2.ar (by rw[hwl];exact hf));rw[hwl,HZ.out]at Hg2;have HG:=uh (sgap _ A2.fields T (s:=sb) (tb:=tb) (bb:=bb) (List.mem_cons_self ..) (by rw[hwl];exact hf) en (z-en) (by rw[hwl,HZ.out];omega));rw[hsw]at HG;have HBF:=uh (⟨hbl,hbu,hbo,hbi⟩:Bj.length=B.length /\ u64ok Bj /\ bitsOf Bj z os /\ BitIs bb Bj z lbj);have hsub:(z:Int)-(en:Int)=((z-en:Nat):Int):=(by omega);have hwr:IntKind.i64.wrap (((z-en:Nat)):Int)=((z-en:Nat):Int):=i64_in _ (by omega);have hol:os.length <= 65536:=by have:=HZ.out;omega
       clear T A2 hsw hwl hbl hbu hbo hbi hen
       go_wp2_with fail
       refine Hg2.out.mono ?_;rintro e w7 ⟨rfl,hw7⟩;subst hw7
       go_wp2_with fail
       refine HG.out.mono ?_;rintro e w8 ⟨⟨u,rfl⟩,c8,T8⟩;have HT8:=uh ((T8.perm (l2:=lr5++(arBlks a aw (settleW z W os 0) c8++(spBlk sb a tb bb::lbj)++R)) po).drop);clear T8 HG Hg2 hq
       go_wp2_with fail
       go_ret;refine⟨rfl,Bj,lbj,c8,HBF.out.1,HBF.out.2.1,?_,?_,?_⟩
       ·rw[HZ.out];exact HBF.out.2.2.1
       ·rw[HZ.out];exact HBF.out.2.2.2
       ·rw[HZ.out];exact HT8.out
theorem ssettle_err {w0:World}(w:World)(sb a aw tb bb:Nat){W B:List Nat}{lb R:List Blk}{cw:Int}(tao:Option Addr)(tcap:Nat)(L:List Ty)(hB:BitIs bb B (W.length/2) lb)(_hBu:u64ok B)(_hBl:(W.length/2+63)/64 <= B.length)
  (T:Turn [] w0 (arBlks a aw W cw++(spBlk sb a tb bb::lb)++R) w)(hTab:TabAt w0 tb tao tcap L)(hF0:Fields w0)(hf:W.length <= 65536)(hu:∀v∈W,v<18446744073709551616)(hTy:∀t∈L,TyIn t)(hL:L.length <= 1000)
  (ats:List Int)(os:List Ce)(hr:rises L W 0 os)(x:Int)(hx:ats[os.length]?= some x)(hpre:∀(i:Nat) (c:Ce),os[i]?= some c -> ats[i]?= some (c.1:Int))(hbad:∀h,objq L W x=some h -> x<(endOf 0 os:Nat))(hlen:ats.length <= 65536)(aa:Option Addr)(acap:Nat)(hAt:∀(w':World) (X:List Blk),Turn [] w0 (X++R) w' -> Src w' aa ats.length acap 1 (ints ats)):
  Calls prog 138 #[pt sb,.slice aa ats.length acap] w fun e w'=>e=.returned (.int .i64 2) /\ Turn [] w0 (arBlks a aw W cw++(spBlk sb a tb bb::lb)++R) w':=by
 have hol:os.length<ats.length:=(List.getElem?_eq_some_iff.1 hx).1;have hl0:=rises_len hr (Nat.zero_le _);have hzb:W.length/2 <= 32768:=by omega
 have Hsp:=uh (fun w' (W':List Nat) (c':Int) (Y:List Blk) (hl:W'.length <= 65536) (V:Turn [] w0 (arBlks a aw W' c'++(spBlk sb a tb bb::Y)) w')=>
  (⟨V.has.cell (b:=sb) (c:=#[pt a,pt tb,pt bb]) (e:=146) (f:=(0,0)) (by simp[spBlk]) 0,V.has.cell (b:=sb) (c:=#[pt a,pt tb,pt bb]) (e:=146) (f:=(0,0)) (by simp[spBlk]) 1,arBlks_at V.has hl,hTab.below V.below,range_below hF0 V.below⟩:SpAt w' sb a aw tb W' tao tcap L))
 have Hs2:=uh (fun w' (Y:List Blk) (V:Turn [] w0 (spBlk sb a tb bb::Y) w')=>(V.cell1 2:w'.cell? ⟨sb,2,none⟩=some (pt bb)));have Hof:=uh (fun w' (A:SpAt w' sb a aw tb W tao tcap L) (g:Int)=>sof w' A.fields A.ar hu L hTy hL tb tao tcap A.tab g);have Hr:=uh (fun i c=>rises_at hr (i:=i) (c:=c));have Hle:=uh (endOf_take_le hr);have HA:=uh (fun w' X (V:Turn [] w0 (X++R) w')=>(hAt w' X V).form (by rw[ints_len];omega));have hone:∀v:Nat,∀u∈([.int .i64 v]:List Value),u.oneCell'=true:=by intro v u hu;simp at hu;subst hu;rfl
 have HB:=uh hB;have HT:=uh (T.perm (l2:=arBlks a aw W cw++(spBlk sb a tb bb::(lb++R))) po);have hrow0:Row 3 1 (some ⟨w.heap.size,0,none⟩) 1 1 (nats (endsOf (os.take 0))) [(w.heap.size,.cells #[.int .i64 0] 3)]:=⟨rfl,Nat.le_refl _,by decide,.inr ⟨_,_,rfl,rfl,by decide,rfl⟩⟩;have HR0:=uh hrow0;have HT0:=uh (HT.out.alloc (.cells #[.int .i64 0] 3));have HF0:=uh hF0;clear T hB hTab hF0 hAt hrow0
 go_enter func138,ntmps138
 go_wp2_with fail
 go_loopw [5,18] (fun v5 v18 wr=>∃(i:Nat) (b5 p5:Nat) (lr5:List Blk),i <= os.length /\ v18=.int .i64 i /\ v5=.slice (some ⟨b5,0,none⟩) (i+1) p5 /\ Row 3 1 (some ⟨b5,0,none⟩) (i+1) p5 (nats (endsOf (os.take i))) lr5 /\ Turn [] w0 (lr5++(arBlks a aw W cw++(spBlk sb a tb bb::(lb++R)))) wr) (fun _ v18 _=>ats.length-(intOf v18).toNat)
 case atStart=>exact⟨0,w.heap.size,1,_,Nat.zero_le _,by go_num,by go_num,HR0.out,HT0.out⟩
 case round=>
  clear HT0 HR0;obtain⟨i,b5,p5,lr5,hi,rfl,rfl,hr5,T⟩:=hrel
  by_cases hlt:i<os.length
  · have hlt':(i:Int)<(os.length:Int):=by omega
    obtain⟨c,hc⟩:∃c,os[i]?= some c:=⟨os[i],List.getElem?_eq_getElem hlt⟩;obtain⟨hce,hst,hct⟩:=Hr.out i c hc;have hoq:=objq_of hst hct;have hroom:=hst.2.2;have hexT:=T.perm (l2:=(lr5++(arBlks a aw W cw++(spBlk sb a tb bb::lb)))++R) po;obtain⟨ab,aoff,rfl,hat0⟩:=HA.out wr _ hexT;have hat:=hat0 i _ (ints_get (hpre i c hc));have T7:=T.perm (l2:=arBlks a aw W cw++(spBlk sb a tb bb::(lr5++(lb++R)))) po;have Hen:=uh (endsOf_next hc);have hcur:=(hr5.src (R:=arBlks a aw W cw++(spBlk sb a tb bb::(lb++R))) T.has);have HSp:=uh (fun w' Y (V:Turn [] w0 (arBlks a aw W cw++(spBlk sb a tb bb::Y)) w')=>Hsp.out w' W cw Y hf V)
    have Hcall:=uh (fun w' Y (V:Turn [] w0 (arBlks a aw W cw++(spBlk sb a tb bb::Y)) w')=>by
     have h:=Hof.out w' (HSp.out w' Y V) c.1;rw[hoq]at h;exact h)
    simp only at Hcall;have hlast:=endsOf_take_get os (i:=i) (by omega);generalize hen:endOf 0 (os.take i)=en at*;have k1:decide ((c.1:Int)<(en:Int))=false:=decide_eq_false (by omega);have k2:decide (c.1<en)=false:=decide_eq_false (by omega);have HT7:=uh T7.drew;have Hr5:=uh hr5;have Hlast:=uh hlast;clear hexT hat0 T T7 hcur hr5 hlast hst hoq hen HB
    go_wp2_with fail
    refine wp_abs (fun W'=>Turn [] w0 (arBlks a aw W cw++(spBlk sb a tb bb::(lr5++(lb++R)))) W'.drew) HT7.out fun W1 T1=>?_;have hS1:=(⟨(HSp.out _ _ T1).c0,(HSp.out _ _ T1).c1⟩:W1.drew.cell? ⟨sb,0,none⟩=some (pt a) /\ W1.drew.cell? ⟨sb,1,none⟩=some (pt tb));have HT1:=uh T1;clear T1 HT7 hat;refine wp_region_noPanic ?_;refine wp_region_listed (S:=fun W'=>W'.cell? ⟨sb,0,none⟩=some (pt a) /\ W'.cell? ⟨sb,1,none⟩=some (pt tb)) 15 [false,false,false,false,false,false,false,false,false,false,false,false,false,false,false] rfl rfl (by kernel_rfl) ?_;refine tkA 0 23 hS1 ?_;refine tkA 1 24 hS1 ?_;refine tkA 2 25 hS1 ?_;refine tkB 3 26 hS1 (fun w hSw=>hSw.1) ?_;refine tkA 4 27 hS1 ?_;refine tkA 5 28 hS1 ?_;refine tkA 6 29 hS1 ?_;refine tkB 7 30 hS1 (fun w hSw=>hSw.2) ?_;refine tkA 8 31 hS1 ?_;refine rdyA 9 (fun K hK=>?_)
    go_simp
    refine(Hcall.out _ _ HT1.out).mono ?_;rintro e w2 ⟨vb,rfl,T2⟩;have T3:=HT1.out.grow T2;have T4:=T3.perm (l2:=arBlks a aw W cw++(spBlk sb a tb bb::((vb,.cells (viewCells a c.1 c.2 (tyAt L c.2.typ)).toArray 238)::(lr5++(lb++R))))) po;have hS2:=(⟨(HSp.out _ _ T4).c0,(HSp.out _ _ T4).c1⟩:w2.cell? ⟨sb,0,none⟩=some (pt a) /\ w2.cell? ⟨sb,1,none⟩=some (pt tb));have HT3:=uh (T3.perm (l2:=lr5++((vb,.cells (viewCells a c.1 c.2 (tyAt L c.2.typ)).toArray 238)::(arBlks a aw W cw++(spBlk sb a tb bb::(lb++R))))) po);have hv:VwAt w2 vb a c.1 c.2 (tyAt L c.2.typ):=(T3.has.range (List.mem_cons_self ..));have HV:=uh hv;clear T2 T3 T4 hS1 HT1 hv Hcall;refine hK.out _ _ hS2 fun _=>?_;clear hK K;simp only[st0,st1,st2];refine tkA 10 22 hS2 ?_;refine tkA 11 33 hS2 ?_;refine tkA 12 34 hS2 ?_;refine tkA 13 8 hS2 ?_;refine tkA 14 9 hS2 ?_;refine wpAnyH_done (by kernel_rfl) ?_ _;refine NoPanic.normal ?_;clear hS2
    have q5:w2.cell? ⟨b5,i,none⟩=some (.int .i64 en):=by
     have h:=(Hr5.out.src (R:=(vb,.cells (viewCells a c.1 c.2 (tyAt L c.2.typ)).toArray 238)::(arBlks a aw W cw++(spBlk sb a tb bb::(lb++R)))) HT3.out.has).at_ _ rfl i _ Hlast.out;rw[add_lit,Nat.zero_add]at h;exact h
    have hil:i <= 65536:=(by omega);have hcb:c.1+c.2.size <= 65536:=(by omega);have h63:i+1+1 <= maxLen:=(by unfold maxLen;omega);have hby:(i+1+1)*8 <= 140737488355328:=by omega
    go_wp2_with fail
    refine(vhead w2 HV.out).mono ?_;rintro e w3 ⟨rfl,hB3⟩;unfold hdVal;have hfd:∀w:World,(Instr.field 79 (.agg #[.int .u8 c.2.tag,.int .i64 c.2.typ,.int .i64 c.2.len,.int .i64 c.2.size]) 3).run prog w=.ok (.int .i64 c.2.size) w:=fun _=>by kernel_rfl
    have hfd1:∀w:World,(Instr.field 79 (.agg #[.int .u8 1,.int .i64 c.2.typ,.int .i64 c.2.len,.int .i64 c.2.size]) 3).run prog w=.ok (.int .i64 c.2.size) w:=fun _=>by kernel_rfl
    have HT4:=uh (HT3.out.call hB3);clear hB3 HT3 q5 HV Hlast
    go_wp2_with (first
     | (at_builtin;refine wpList_append_row rfl _ _ rfl el_int rfl Hr5.out (R:=(w3.heap.size,.cells #[.int .i64 ((c.1:Int)+(c.2.size:Int))] 3)::(vb,.cells (viewCells a c.1 c.2 (tyAt L c.2.typ)).toArray 238)::(arBlks a aw W cw++(spBlk sb a tb bb::(lb++R)))) ((HT4.out.alloc (.cells #[.int .i64 ((c.1:Int)+(c.2.size:Int))] 3)).perm po).has rfl (news:=[.int .i64 ((c.1:Int)+(c.2.size:Int))]) rfl (news_of (heap_alloc_new _ _)) (by simp[Value.oneCell']) h63 hby ?_;intro a9 p9 l9 w9 hr9 V9 hno;have HT9:=uh (((HT4.out.alloc (.cells #[.int .i64 ((c.1:Int)+(c.2.size:Int))] 3)).perm (l2:=lr5++((w3.heap.size,.cells #[.int .i64 ((c.1:Int)+(c.2.size:Int))] 3)::(vb,.cells (viewCells a c.1 c.2 (tyAt L c.2.typ)).toArray 238)::(arBlks a aw W cw++(spBlk sb a tb bb::(lb++R))))) po).trans V9);have Hr9:=uh hr9;clear hr9 V9 hno)
     | fail)
    obtain⟨b9,cur9,rfl,-,-,-⟩:=Hr9.out.some_of (by omega)
    go_roundw
    case rel=>
     refine⟨i+1,b9,p9,l9,by omega,by go_num,by go_num,?_,((HT9.out.perm (l2:=[(w3.heap.size,.cells #[.int .i64 ((c.1:Int)+(c.2.size:Int))] 3),(vb,.cells (viewCells a c.1 c.2 (tyAt L c.2.typ)).toArray 238)]++(l9++(arBlks a aw W cw++(spBlk sb a tb bb::(lb++R))))) po).drop)⟩;rw[Hen.out,nats_append];have h9:nats [c.1+c.2.size]=[.int .i64 ((c.1:Int)+(c.2.size:Int))]:=(by simp[nats]);rw[h9];exact Hr9.out
    case measure=>simp[intOf];omega
  · obtain rfl:i=os.length:=by omega
    have hlt':((os.length:Nat):Int)<(ats.length:Int):=(by omega);have hexT:=T.perm (l2:=(lr5++(arBlks a aw W cw++(spBlk sb a tb bb::lb)))++R) po;obtain⟨ab,aoff,rfl,hat0⟩:=HA.out wr _ hexT;have hat:=hat0 os.length _ (ints_get hx);have T7:=T.perm (l2:=arBlks a aw W cw++(spBlk sb a tb bb::(lr5++(lb++R)))) po;have HSp:=uh (fun w' Y (V:Turn [] w0 (arBlks a aw W cw++(spBlk sb a tb bb::Y)) w')=>Hsp.out w' W cw Y hf V);have hlast:=endsOf_take_get os (i:=os.length) (Nat.le_refl _);rw[List.take_length]at hlast hr5;generalize hen:endOf 0 os=en at*;have HT7:=uh T7.drew;have Hr5:=uh hr5;have Hlast:=uh hlast;have Hcall:=uh (fun w' Y (V:Turn [] w0 (arBlks a aw W cw++(spBlk sb a tb bb::Y)) w')=>Hof.out w' (HSp.out w' Y V) x);have hil:os.length <= 65536:=(by omega);clear hexT hat0 T T7 hr5 hlast hen HB
    go_wp2_with fail
    refine wp_abs (fun W'=>Turn [] w0 (arBlks a aw W cw++(spBlk sb a tb bb::(lr5++(lb++R)))) W'.drew) HT7.out fun W1 T1=>?_;have hS1:=(⟨(HSp.out _ _ T1).c0,(HSp.out _ _ T1).c1⟩:W1.drew.cell? ⟨sb,0,none⟩=some (pt a) /\ W1.drew.cell? ⟨sb,1,none⟩=some (pt tb));have HT1:=uh T1;have hcl:=uh (Hcall.out _ _ T1);clear T1 HT7 hat Hcall;refine wp_region_noPanic ?_;refine wp_region_listed (S:=fun W'=>W'.cell? ⟨sb,0,none⟩=some (pt a) /\ W'.cell? ⟨sb,1,none⟩=some (pt tb)) 15 [false,false,false,false,false,false,false,false,false,false,false,false,false,false,false] rfl rfl (by kernel_rfl) ?_;refine tkA 0 23 hS1 ?_;refine tkA 1 24 hS1 ?_;refine tkA 2 25 hS1 ?_;refine tkB 3 26 hS1 (fun w hSw=>hSw.1) ?_;refine tkA 4 27 hS1 ?_;refine tkA 5 28 hS1 ?_;refine tkA 6 29 hS1 ?_;refine tkB 7 30 hS1 (fun w hSw=>hSw.2) ?_;refine tkA 8 31 hS1 ?_;refine rdyA 9 (fun K hK=>?_)
    go_simp
    cases hq:objq L W x with
    | none=>
     rw[hq]at hcl;refine hcl.out.mono ?_;rintro e w2 ⟨er,rfl,hne,hB2⟩;have T3:=HT1.out.call hB2;have hS2:=(⟨(HSp.out _ _ T3).c0,(HSp.out _ _ T3).c1⟩:w2.cell? ⟨sb,0,none⟩=some (pt a) /\ w2.cell? ⟨sb,1,none⟩=some (pt tb));have HT3:=uh ((T3.perm (l2:=lr5++(arBlks a aw W cw++(spBlk sb a tb bb::lb)++R)) po).drop);have ke:(er != 0)=true:=by rw[bne_iff_ne];exact hne
     clear T3 hB2 hS1 HT1 hcl;refine hK.out _ _ hS2 fun _=>?_;clear hK K;simp only[st0,st1,st2];refine tkA 10 22 hS2 ?_;refine tkA 11 33 hS2 ?_;refine tkA 12 34 hS2 ?_;refine tkA 13 8 hS2 ?_;refine tkA 14 9 hS2 ?_;refine wpAnyH_done (by kernel_rfl) ?_ _;refine NoPanic.normal ?_;clear hS2
     go_wp2_with fail
     go_ret;exact⟨rfl,HT3.out⟩
    | some h=>
     rw[hq]at hcl;refine hcl.out.mono ?_;rintro e w2 ⟨vb,rfl,T2⟩;have T3:=HT1.out.grow T2;have T4:=T3.perm (l2:=arBlks a aw W cw++(spBlk sb a tb bb::((vb,.cells (viewCells a x h (tyAt L h.typ)).toArray 238)::(lr5++(lb++R))))) po;have hS2:=(⟨(HSp.out _ _ T4).c0,(HSp.out _ _ T4).c1⟩:w2.cell? ⟨sb,0,none⟩=some (pt a) /\ w2.cell? ⟨sb,1,none⟩=some (pt tb));have HT3:=uh ((T3.perm (l2:=((vb,.cells (viewCells a x h (tyAt L h.typ)).toArray 238)::lr5)++(arBlks a aw W cw++(spBlk sb a tb bb::lb)++R)) po).drop)
     have q5:w2.cell? ⟨b5,os.length,none⟩=some (.int .i64 en):=by
      have h9:=(Hr5.out.src (R:=(vb,.cells (viewCells a x h (tyAt L h.typ)).toArray 238)::(arBlks a aw W cw++(spBlk sb a tb bb::(lb++R)))) (T3.has.perm po)).at_ _ rfl os.length _ Hlast.out;rw[add_lit,Nat.zero_add]at h9;exact h9
     have hlt9:=hbad h hq;have k1:decide (x<(en:Int))=true:=decide_eq_true hlt9;clear T2 T3 T4 hS1 HT1 hcl;refine hK.out _ _ hS2 fun _=>?_;clear hK K;simp only[st0,st1,st2];refine tkA 10 22 hS2 ?_;refine tkA 11 33 hS2 ?_;refine tkA 12 34 hS2 ?_;refine tkA 13 8 hS2 ?_;refine tkA 14 9 hS2 ?_;refine wpAnyH_done (by kernel_rfl) ?_ _;refine NoPanic.normal ?_;clear hS2
     go_wp2_with fail
     go_ret;exact⟨rfl,HT3.out⟩
end
section
open Go Go.RowKit Go.IntWalk
theorem el_type:Elem prog 22 49 3 24 (tyVal ⟨0,0,0⟩):=Elem.of underlying22 (by kernel_rfl) rfl
theorem tys_append (a b:List Ty):tys (a++b)=tys a++tys b:=by simp[tys]
def TabIs (tb:Nat)(L:List Ty)(l:List Blk):Prop:=∃ao cap lr,Row 49 3 ao L.length cap (tys L) lr /\ l=(tb,.cells #[.slice ao L.length cap] 228)::lr
theorem tput {l0 l R:List Blk}{w0:World}(w:World){tb:Nat}{L:List Ty}(hI:TabIs tb L l)(T:Turn l0 w0 (l++R) w)(hL:L.length <= 1000)(t:Ty):
  Calls prog 186 #[pt tb,tyVal t] w fun e w'=>e=.returned (.int .i64 (L.length+1:Nat)) /\ ∃l',TabIs tb (L++[t]) l' /\ Turn l0 w0 (l'++R) w':=by
 obtain⟨ao,cap,lr,hr,rfl⟩:=hI;obtain⟨k,m,mk⟩:=t;have T1:=T.alloc (.cells #[.int .u8 k,.int .i64 m,.int .u64 mk] 49);have c0:(w.alloc (.cells #[.int .u8 k,.int .i64 m,.int .u64 mk] 49)).cell? ⟨tb,0,none⟩=some (.slice ao L.length cap):=T1.has.cell (b:=tb) (c:=#[.slice ao L.length cap]) (e:=228) (f:=(0,0)) (by simp) 0;have f0:(w.alloc (.cells #[.int .u8 k,.int .i64 m,.int .u64 mk] 49)).frozen? ⟨tb,0,none⟩=false:=T1.has.free (b:=tb) (c:=#[.slice ao L.length cap]) (e:=228) (by simp) 0;have b0:=T1.cell1 0;have b1:=T1.cell1 1;have b2:=T1.cell1 2;have T00:=(T1.alloc (.cells #[.int .u8 k,.int .i64 m,.int .u64 mk] 49)).drew;rw[World.size_alloc]at T00;have T0:=T00.perm (l2:=lr++((w.heap.size+1,.cells #[.int .u8 k,.int .i64 m,.int .u64 mk] 49)::(tb,.cells #[.slice ao L.length cap] 228)::(w.heap.size,.cells #[.int .u8 k,.int .i64 m,.int .u64 mk] 49)::R)) po;have h63:L.length+1 <= maxLen:=by unfold maxLen;omega
 have hby:(L.length+1)*24 <= 140737488355328:=by omega
 have HT0:=uh T0
 have hnews:∀(j:Nat) (u:Value),([.int .u8 k,.int .i64 m,.int .u64 mk]:List Value)[j]?= some u -> ((w.alloc (.cells #[.int .u8 k,.int .i64 m,.int .u64 mk] 49)).drew.alloc (.cells #[.int .u8 k,.int .i64 m,.int .u64 mk] 49)).cell? ((⟨w.heap.size+1,0,none⟩:Addr).add j)=some u:=fun j u hj=>by
  have h:=T00.has.cell (b:=w.heap.size+1) (c:=#[.int .u8 k,.int .i64 m,.int .u64 mk]) (e:=49) (f:=(0,0)) (List.mem_cons_self ..) j;rw[add_lit,Nat.zero_add];exact h.trans (by rw[←Array.getElem?_toList];exact hj)
 have c0b:((w.alloc (.cells #[.int .u8 k,.int .i64 m,.int .u64 mk] 49)).alloc (.cells #[.int .u8 k,.int .i64 m,.int .u64 mk] 49)).cell? ⟨tb,0,none⟩=some (.slice ao L.length cap):=T00.has.cell (b:=tb) (c:=#[.slice ao L.length cap]) (e:=228) (f:=(0,0)) (by simp) 0;have b0b:((w.alloc (.cells #[.int .u8 k,.int .i64 m,.int .u64 mk] 49)).alloc (.cells #[.int .u8 k,.int .i64 m,.int .u64 mk] 49)).cell? ⟨w.heap.size,0,none⟩=some (.int .u8 k):=T00.has.cell (b:=w.heap.size) (c:=#[.int .u8 k,.int .i64 m,.int .u64 mk]) (e:=49) (f:=(0,0)) (by simp) 0;have b1b:((w.alloc (.cells #[.int .u8 k,.int .i64 m,.int .u64 mk] 49)).alloc (.cells #[.int .u8 k,.int .i64 m,.int .u64 mk] 49)).cell? ⟨w.heap.size,1,none⟩=some (.int .i64 m):=T00.has.cell (b:=w.heap.size) (c:=#[.int .u8 k,.int .i64 m,.int .u64 mk]) (e:=49) (f:=(0,0)) (by simp) 1;have b2b:((w.alloc (.cells #[.int .u8 k,.int .i64 m,.int .u64 mk] 49)).alloc (.cells #[.int .u8 k,.int .i64 m,.int .u64 mk] 49)).cell? ⟨w.heap.size,2,none⟩=some (.int .u64 mk):=T00.has.cell (b:=w.heap.size) (c:=#[.int .u8 k,.int .i64 m,.int .u64 mk]) (e:=49) (f:=(0,0)) (by simp) 2;have Hnews:=uh hnews;clear hnews T00;have Hr:=uh hr;clear T T1 T0 hr
 go_enter func186,ntmps186
 go_wp2_with fail
 go_region_law ((refine step_append_row (by rfl) _ _ (by rfl) el_type (by rfl) Hr.out HT0.out.has (by rfl) (news:=[.int .u8 k,.int .i64 m,.int .u64 mk]) (by rfl) Hnews.out (by simp[Value.oneCell']) h63 hby ?_;intro a' p' l' w1 hr1 T1 hno;have V1:=(HT0.out.trans T1).perm (l2:=(tb,.cells #[.slice ao L.length cap] 228)::((w.heap.size+1,.cells #[.int .u8 k,.int .i64 m,.int .u64 mk] 49)::(w.heap.size,.cells #[.int .u8 k,.int .i64 m,.int .u64 mk] 49)::(l'++R))) po;have d0:=V1.cell1 0;have e0:=V1.free1 0;have HV1:=uh V1;have Hr1:=uh hr1;clear V1 hr1 T1 hno))
 all_goals (have V2:=uh (HV1.out.setCell 0 (.slice a' (L.length+1:Nat) p')))
 all_goals (have c2:=V2.out.cell1 0)
 all_goals go_wp2
 all_goals go_ret
 all_goals (refine⟨?_,(tb,.cells #[.slice a' (L.length+1) p'] 228)::l',⟨a',p',l',?_,by rw[List.length_append];rfl⟩,?_⟩)
 all_goals first
  | rfl
  | (rw[List.length_append,tys_append];exact Hr1.out)
  | exact(((V2.out.swap.drop (a:=[_])).swap.drop (a:=[_])))
theorem tadd_no {l0 l R:List Blk}{w0:World}(w:World){tb:Nat}{L:List Ty}(hI:TabIs tb L l)(T:Turn l0 w0 (l++R) w)(hL:L.length <= 64)(t:Ty)(ht:TyIn t)(hno:¬(t.may /\ L.length<64)):
  Calls prog 124 #[pt tb,tyVal t] w fun e w'=>∃er:Int,e=.returned (.tuple #[.int .i64 0,.int .i64 er]) /\ er≠0 /\ Turn l0 w0 (l++R) w':=by
 have hszT:=sz_type;have Hk:=uh (fun W=>kcheck W t ht);have HI:=uh hI;obtain⟨ao,cap,lr,hr,rfl⟩:=hI;obtain⟨k,m,mk⟩:=t;have T1:=T.alloc (.cells #[.int .u8 k,.int .i64 m,.int .u64 mk] 49);have hr1:=T1.range1;have HT:=uh T1;clear T T1 hr ht
 by_cases hm:(Ty.mk k m mk).may
 · have hlen:L.length=64:=by
     rcases Nat.lt_or_ge L.length 64 with h|h
     ·exact absurd ⟨hm,h⟩ hno
     ·omega
   rw[if_pos hm]at Hk;clear hm hno
   go_enter func124,ntmps124
   go_wp2_with (first
    | (show lW 49;refine wpList_load_mid rfl 49 _ rfl w.heap.size 0 rfl [.int .u8 k,.int .i64 m,.int .u64 mk] _ hr1 underlying49 rfl hszT ?_)
    | (go_at_call 185;refine(Hk.out _).mono ?_;rintro e w2 ⟨rfl,hB2⟩;have HT2:=uh (HT.out.call hB2);have c2:w2.cell? ⟨tb,0,none⟩=some (.slice ao L.length cap):=HT2.out.cell2 0;clear hB2)
    | fail)
   go_ret2;exact⟨4,rfl,by decide,HT2.out.tail⟩
 · rw[if_neg hm]at Hk
   clear hm hno
   go_enter func124,ntmps124
   go_wp2_with (first
    | (show lW 49;refine wpList_load_mid rfl 49 _ rfl w.heap.size 0 rfl [.int .u8 k,.int .i64 m,.int .u64 mk] _ hr1 underlying49 rfl hszT ?_)
    | (go_at_call 185;refine(Hk.out _).mono ?_;rintro e w2 ⟨rfl,hB2⟩;have HT2:=uh (HT.out.call hB2);clear hB2)
    | fail)
   go_ret2;exact⟨2,rfl,by decide,HT2.out.tail⟩
theorem tadd {l0 l R:List Blk}{w0:World}(w:World){tb:Nat}{L:List Ty}(hI:TabIs tb L l)(T:Turn l0 w0 (l++R) w)(t:Ty)(ht:TyIn t)(hm:t.may)(hL:L.length<64):
  Calls prog 124 #[pt tb,tyVal t] w fun e w'=>e=.returned (.tuple #[.int .i64 (L.length+1:Nat),.int .i64 0]) /\ ∃l',TabIs tb (L++[t]) l' /\ Turn l0 w0 (l'++R) w':=by
 have hszT:=sz_type;have Hk:=uh (fun W=>kcheck W t ht);rw[if_pos hm]at Hk;have HPut:=uh (fun W (V:Turn l0 w0 (l++((w.heap.size,.cells #[.int .u8 t.kind,.int .i64 t.words,.int .u64 t.mask] 49)::R)) W)=>tput W hI V (by omega) t);obtain⟨ao,cap,lr,hr,rfl⟩:=hI;obtain⟨k,m,mk⟩:=t;have T1:=T.alloc (.cells #[.int .u8 k,.int .i64 m,.int .u64 mk] 49);have hr1:=T1.range1;have HT:=uh T1;have kl:decide ((64:Int) <= (L.length:Int))=false:=decide_eq_false (by omega);have kl2:¬(64:Int) <= (L.length:Int):=by omega
 have kl3:¬64 <= L.length:=by omega
 clear T T1 hr ht hm
 go_enter func124,ntmps124
 go_wp2_with (first
  | (show lW 49;refine wpList_load_mid rfl 49 _ rfl w.heap.size 0 rfl [.int .u8 k,.int .i64 m,.int .u64 mk] _ hr1 underlying49 rfl hszT ?_)
  | (go_at_call 185;refine(Hk.out _).mono ?_;rintro e w2 ⟨rfl,hB2⟩;have HT2:=uh (HT.out.call hB2);have c2:w2.cell? ⟨tb,0,none⟩=some (.slice ao L.length cap):=HT2.out.cell2 0;clear hB2)
  | fail)
 refine wp_abs (fun W'=>Turn l0 w0 ((w.heap.size,.cells #[.int .u8 k,.int .i64 m,.int .u64 mk] 49)::(tb,.cells #[.slice ao L.length cap] 228)::(lr++R)) W'.drew) HT2.out.drew fun W1 T1=>?_;clear HT HT2 c2;have hS:=T1.range1;have HT1:=uh (T1.perm (l2:=((tb,.cells #[.slice ao L.length cap] 228)::lr)++((w.heap.size,.cells #[.int .u8 k,.int .i64 m,.int .u64 mk] 49)::R)) po);clear T1;refine wp_region_noPanic ?_;refine wp_region_listed (S:=fun W'=>W'.rangeAt w.heap.size 0 [.int .u8 k,.int .i64 m,.int .u64 mk]) 7 [false,false,false,false,false,false,false] rfl rfl (by kernel_rfl) ?_;refine tkA 0 21 hS ?_;refine tkA 1 22 hS ?_;refine tkA 2 23 hS ?_;refine tkC 3 24 hS (fun w' hSw=>load_mid_run 49 _ rfl w.heap.size 0 rfl [.int .u8 k,.int .i64 m,.int .u64 mk] _ hSw underlying49 rfl hszT) ?_;refine rdyA 4 (fun K hK=>?_)
 go_simp
 refine(HPut.out _ HT1.out).mono ?_;rintro e W3 ⟨rfl,l',hI3,T3⟩;have hS3:W3.rangeAt w.heap.size 0 [.int .u8 k,.int .i64 m,.int .u64 mk]:=T3.has.range (b:=w.heap.size) (c:=#[.int .u8 k,.int .i64 m,.int .u64 mk]) (e:=49) (f:=(0,0)) (by simp);have HT3:=uh (T3.sub (l2:=l'++R) (List.Sublist.append (List.Sublist.refl l') (List.sublist_cons_self ..)));have HI3:=uh hI3;clear T3 HT1 hS hI3;refine hK.out _ _ hS3 fun _=>?_;clear hK K;simp only[st0,st1,st2];refine tkA 5 4 hS3 ?_;refine tkA 6 5 hS3 ?_;refine wpAnyH_done (by kernel_rfl) ?_ _;refine NoPanic.normal ?_;clear hS3
 go_wp2
 go_ret2;exact⟨rfl,l',HI3.out,HT3.out⟩
theorem tnew (w:World)(L:List Ty)(ao:Option Addr)(cap:Nat)(hS:Src w ao L.length cap 3 (tys L))(hTy:∀t∈L,TyIn t)(hL:L.length <= 1000)(Qp:Ending -> World -> Prop)
  (HY:Hid ((∀t∈L,t.may) /\ L.length <= 64 -> ∀w' l,TabIs w.heap.size L l -> Turn [] w l w' -> Qp (.returned (.tuple #[pt w.heap.size,.int .i64 0])) w'))
  (HN:Hid (¬((∀t∈L,t.may) /\ L.length <= 64) -> ∀(er:Int) w',er≠0 -> Below w.heap.size w w' -> Qp (.returned (.tuple #[.pointer none,.int .i64 er])) w')):
  Calls prog 47 #[.slice ao L.length cap] w Qp:=by
 have hszT:=sz_type;have T0:=(Turn.refl (Has.nil w)).alloc (.cells #[.slice none 0 0] 228);have HT0:=uh T0;have HS:=uh (fun w' (hB:Below w.heap.size w w')=>hS.below hB);have HL:=uh hL;clear T0 hS;have HF:=uh (fun(h:0<L.length)=>((HS.out w (Below.refl _ _)).form (by rw[tys_length];omega)))
 go_enter func47,ntmps47
 go_wp2
 go_loopw [13] (fun v13 wr=>∃(j:Nat) (l:List Blk),j <= L.length /\ j <= 64 /\ v13=.int .i64 j /\ TabIs w.heap.size (L.take j) l /\ Turn [] w (l++[]) wr /\ ∀t∈L.take j,t.may) (fun v13 _=>L.length-(intOf v13).toNat)
 case atStart=>exact⟨0,(w.heap.size,.cells #[.slice none 0 0] 228)::[],Nat.zero_le _,by omega,by go_num,⟨none,0,[],Row.nil _ _,rfl⟩,HT0.out,by simp⟩
 case round=>
  clear HT0;obtain⟨j,l,hj,h64,rfl,hI,T,hmay⟩:=hrel
  by_cases hlt:j<L.length
  · have hlt':(j:Int)<(L.length:Int):=by omega
    obtain⟨t,ht⟩:∃t,L[j]?= some t:=⟨L[j],List.getElem?_eq_getElem hlt⟩;have htm:t∈L:=List.mem_of_getElem? ht;have hti:=hTy t htm;obtain⟨b,off,rfl,-⟩:=HF.out (by omega);have hrg:=(HS.out wr T.below).ty ht;have htk:L.take (j+1)=L.take j++[t]:=(by rw[List.take_add_one,ht];rfl);have hlj:(L.take j).length=j:=(by rw[List.length_take];omega);have T1:=T.alloc zT;have hth:(wr.alloc zT).there wr.heap.size 0 3:=T1.there1;have T2:=T1.laid (tyCells t) rfl;have hr6:=T2.range1;have T3:=T2.perm (l2:=l++[(wr.heap.size,.cells (tyCells t).toArray 49)]) po;have hoT:=ty_one t;obtain⟨k,m,mk⟩:=t
    by_cases hm:(Ty.mk k m mk).may /\ j<64
    · have HA:=uh (tadd _ hI T3 _ hti hm.1 (by omega))
      rw[hlj,←htk]at HA
      have hm':∀t∈L.take (j+1),t.may:=by
       rw[htk];intro t ht;rcases List.mem_append.1 ht with h|h
       ·exact hmay t h
       ·rw[List.mem_singleton.1 h];exact hm.1
      have hj64:=hm.2;have Hm':=uh hm';clear T T1 T2 T3 hI hm hm' htk hlj hti htm ht hmay hTy
      go_wp2_with (first
       | (show wpList _ _ _ (⟨_,Op.load 49 (.tmp 15),_,_,_,_⟩::_) _ _;refine wpList_load_mid rfl 49 _ rfl b (off+j*3) rfl [.int .u8 k,.int .i64 m,.int .u64 mk] _ hrg underlying49 rfl hszT ?_;clear hrg)
       | (show sW 49;refine wpList_store_mid rfl 49 _ _ rfl _ 0 #[.int .u8 k,.int .i64 m,.int .u64 mk] rfl rfl hth hszT hoT ?_;clear hth)
       | (show wpList _ _ _ (⟨_,Op.load 49 (.tmp 6),_,_,_,_⟩::_) _ _;refine wpList_load_mid rfl 49 _ rfl wr.heap.size 0 rfl [.int .u8 k,.int .i64 m,.int .u64 mk] _ hr6 underlying49 rfl hszT ?_;clear hr6)
       | (go_at_call 124;refine HA.out.mono ?_;rintro e w2 ⟨rfl,l2,hI2,hT2⟩;have HT2:=uh hT2;have HI2:=uh hI2;clear hT2 hI2)
       | fail)
      go_roundw
      case rel=>exact⟨j+1,l2,by omega,by omega,by go_num,HI2.out,HT2.out.sub (List.sublist_append_left l2 _) |>.perm (by simp),Hm'.out⟩
      case measure=>simp[intOf];omega
    · have HA:=uh (tadd_no _ hI T3 (by omega) _ hti (by rw[hlj];exact hm))
      have HN2:=uh (HN.out (fun h=>hm ⟨h.1 _ htm,by omega⟩));clear T T1 T2 T3 hI hm htk hlj hti htm ht hmay hTy HY HN
      go_wp2_with (first
       | (show wpList _ _ _ (⟨_,Op.load 49 (.tmp 15),_,_,_,_⟩::_) _ _;refine wpList_load_mid rfl 49 _ rfl b (off+j*3) rfl [.int .u8 k,.int .i64 m,.int .u64 mk] _ hrg underlying49 rfl hszT ?_;clear hrg)
       | (show sW 49;refine wpList_store_mid rfl 49 _ _ rfl _ 0 #[.int .u8 k,.int .i64 m,.int .u64 mk] rfl rfl hth hszT hoT ?_;clear hth)
       | (show wpList _ _ _ (⟨_,Op.load 49 (.tmp 6),_,_,_,_⟩::_) _ _;refine wpList_load_mid rfl 49 _ rfl wr.heap.size 0 rfl [.int .u8 k,.int .i64 m,.int .u64 mk] _ hr6 underlying49 rfl hszT ?_;clear hr6)
       | (go_at_call 124;refine HA.out.mono ?_;rintro e w2 ⟨er,rfl,her,hT2⟩;have HT2:=uh hT2;clear hT2;have her2:(er != 0)=true:=by rw[bne_iff_ne];exact her)
       | fail)
      exact HN2.out er _ her (Turn.below HT2.out)
  · obtain rfl:j=L.length:=by omega
    rw[List.take_length]at hI hmay;have HY2:=uh (HY.out ⟨hmay,h64⟩ wr l hI (by rw[List.append_nil]at T;exact T));clear T hI hmay HY HN hTy
    go_wp2
    exact HY2.out
end
section
open Go Go.RowKit Go.Shelf Go.IntWalk
theorem snew_no (w:World)(tb:Nat)(n:Int)(h:¬mayWords n):
  Calls prog 48 #[.int .i64 n,pt tb] w fun e w'=>e=.returned (.tuple #[.pointer none,.int .i64 2]) /\ w'=w:=by
 have Ha:=uh (anew_no w n h);clear h
 go_enter func48,ntmps48
 go_wp2_with fail
 refine Ha.out.mono ?_;rintro e w1 ⟨rfl,hw⟩;subst hw
 go_wp2_with fail
 refine bodyPost_ret (results_tmp2 rfl _ _ _) rfl ?_;exact⟨rfl,rfl⟩
theorem TabIs.tab {w:World}{tb:Nat}{L:List Ty}{l R:List Blk}(h:TabIs tb L l)(hH:Has w (l++R)):∃ao cap,TabAt w tb ao cap L:=by
 obtain⟨ao,cap,lr,hr,rfl⟩:=h;exact⟨ao,cap,hH.cell (b:=tb) (c:=#[.slice ao L.length cap]) (e:=228) (f:=(0,0)) (by simp) 0,hr.src (R:=(tb,.cells #[.slice ao L.length cap] 228)::R) (hH.perm po)⟩
theorem results_tmp3 {fn:Func}{p q r:Tmp}(h:fn.results=#[.tmp p,.tmp q,.tmp r])(P:Program)(tmps:Array Value)(w:World):(results fn tmps).run P w=.ok (.tuple #[tmps.getD p undef,tmps.getD q undef,tmps.getD r undef]) w:=by
 simp[results,h]
theorem made_types (w:World)(L:List Ty)(lao:Option Addr)(lcap:Nat)(hS:Src w lao L.length lcap 3 (tys L))(hTy:∀t∈L,TyIn t)(hL:L.length <= 1000)(hno:¬((∀t∈L,t.may) /\ L.length <= 64))(n:Int):
  Calls prog 54 #[.int .i64 n,.slice lao L.length lcap] w fun e w'=>e=.returned (.tuple #[.pointer none,.pointer none,.bool true]) /\ Below w.heap.size w w':=by
 have HS:=uh hS;clear hS
 go_enter func54,ntmps54
 go_wp2_with fail
 refine tnew w L lao lcap HS.out hTy hL _ (uh (fun h=>absurd h hno)) (uh (fun _ er w1 hne hB=>?_));have ke:(er != 0)=true:=by rw[bne_iff_ne];exact hne
 clear hne hno HS hTy
 go_wp2_with fail
 refine bodyPost_ret (results_tmp3 rfl _ _ _) rfl ?_;exact⟨rfl,hB⟩
theorem made_few (w:World)(L:List Ty)(lao:Option Addr)(lcap:Nat)(hS:Src w lao L.length lcap 3 (tys L))(hTy:∀t∈L,TyIn t)(hL:L.length <= 1000)(hok:(∀t∈L,t.may) /\ L.length <= 64)(n:Int)(hn:¬mayWords n):
  Calls prog 54 #[.int .i64 n,.slice lao L.length lcap] w fun e w'=>e=.returned (.tuple #[.pointer none,.pointer none,.bool true]) /\ Below w.heap.size w w':=by
 have HS:=uh hS;have HN:=uh hn;have Hno:=uh (fun w' tb=>snew_no w' tb n hn)
 have hcase:n<16∨(¬n<16 /\ 65536<n)∨(¬n<16 /\ ¬65536<n /\ n%2≠0):=by
  unfold mayWords at hn;omega
 clear hS hn
 go_enter func54,ntmps54
 go_wp2_with fail
 refine tnew w L lao lcap HS.out hTy hL _ (uh (fun _ w1 lt hti T1=>?_)) (uh (fun h=>absurd hok h));have HB:=uh T1.below;clear T1 hti HS hTy hok
 go_wp2_with fail
 refine(Hno.out _ _).mono ?_;rintro e w2 ⟨rfl,hw⟩;subst hw;rcases hcase with h|⟨h1,h2⟩|⟨h1,h2,h3⟩
 case' inl=>(
  have k1:decide (n<16)=true:=decide_eq_true h
  go_wp2_with fail)
 case' inr.inl=>(
  have k1:decide (n<16)=false:=decide_eq_false (by omega);have k2:decide (65536<n)=true:=decide_eq_true h2
  go_wp2_with fail)
 case' inr.inr=>(
  have k1:decide (n<16)=false:=decide_eq_false (by omega);have k2:decide (65536<n)=false:=decide_eq_false (by omega);have k5:n.tmod 2=n%2:=Int.tmod_eq_emod_of_nonneg (by omega);have k4:(n%2 != 0)=true:=by rw[bne_iff_ne];exact h3
  have k6:¬n%2=0:=h3
  go_wp2_with fail)
 all_goals (
  refine bodyPost_ret (results_tmp3 rfl _ _ _) rfl ?_;exact⟨rfl,HB.out⟩)
theorem made_ok (w:World)(hF:Fields w)(L:List Ty)(lao:Option Addr)(lcap:Nat)(hS:Src w lao L.length lcap 3 (tys L))(hTy:∀t∈L,TyIn t)(hL:L.length <= 1000)(hok:(∀t∈L,t.may) /\ L.length <= 64)(n:Nat)(hn:mayWords n):
  Calls prog 54 #[.int .i64 n,.slice lao L.length lcap] w fun e w'=>∃(sb rb tb:Nat) (w1:World) (tao:Option Addr) (tcap:Nat) (ls lr:List Blk),e=.returned (.tuple #[pt sb,pt rb,.bool true]) /\
   Below w.heap.size w w1 /\ TabAt w1 tb tao tcap L /\ SpIs sb tb (lay (List.replicate n 0) 0 (n/2)) (List.replicate ((n/2+63)/64) 0) ls /\ RefIs rb lao L.length lcap (lay (List.replicate n 0) 0 (n/2)) lr /\ Turn [] w1 (lr++ls) w':=by
 have HS:=uh hS;have Hn:=uh hn;have HF:=uh hF;have⟨h1,h2,h3⟩:=hn;clear hS hn hF
 go_enter func54,ntmps54
 go_wp2_with fail
 refine tnew w L lao lcap HS.out hTy hL _ (uh (fun _ w1 lt hti T1=>?_)) (uh (fun h=>absurd hok h));obtain⟨tao,tcap,hTab⟩:=hti.tab (R:=[]) (by rw[List.append_nil];exact T1.has);have HTab:=uh hTab;have HB:=uh T1.below;have Hsn:=uh (snew w1 (range_below HF.out T1.below) w.heap.size n Hn.out);clear T1 hti HS hTy hok hTab
 go_wp2_with fail
 refine Hsn.out.mono ?_;rintro e w2 ⟨sb,ls,rfl,hsp,T2⟩;have HT2:=uh T2;have HSP:=uh hsp;have Hrn:=uh (rnew w2 n Hn.out lao L.length lcap);have k1:decide ((n:Int)<16)=false:=decide_eq_false (by omega);have k2:decide (n<16)=false:=decide_eq_false (by omega);have k3:decide ((65536:Int)<(n:Int))=false:=decide_eq_false (by omega);have k4:decide (65536<n)=false:=decide_eq_false (by omega);have k5:((n:Int)).tmod 2=0:=by rw[Int.tmod_eq_emod_of_nonneg (by omega)];omega
 have k6:(n:Int)%2=0:=by omega
 clear T2 hsp Hsn
 go_wp2_with fail
 refine Hrn.out.mono ?_;rintro e w3 ⟨rb,lr,rfl,hri,T3⟩;have HT3:=uh (HT2.out.grow T3);have HRI:=uh hri;obtain⟨a,aw,bb,c,lb,hbi,hls⟩:=HSP.out;have q0:w3.cell? ⟨sb,0,none⟩=some (pt a):=HT3.out.has.cell (b:=sb) (c:=#[pt a,pt w.heap.size,pt bb]) (e:=146) (f:=(0,0)) (by rw[hls];simp[spBlk]) 0;have Har:=uh (sarena w3 (a:=⟨a,0,none⟩) rfl q0);clear T3 hri Hrn HT2 hls hbi q0
 go_wp2_with fail
 refine Har.out.mono ?_;rintro e w4 ⟨rfl,hw⟩;subst hw
 go_wp2_with fail
 refine bodyPost_ret (results_tmp3 rfl _ _ _) rfl ?_;exact⟨sb,rb,w.heap.size,w1,tao,tcap,ls,lr,rfl,HB.out,HTab.out,HSP.out,HRI.out,HT3.out⟩
end
section
open Go Go.RowKit Go.IntWalk
structure Stp where
 dk:Int
 g:Int
 id:Int
 n:Int
 w:Nat
 ats:List Int
 ao:Option Addr
 cap:Nat
def stCells (s:Stp):List Value:=[.int .i64 s.dk,.int .i64 s.g,.int .i64 s.id,.int .i64 s.n,.int .u64 s.w,.slice s.ao s.ats.length s.cap]
def sts (ss:List Stp):List Value:=ss.flatMap stCells
theorem sts_get {ss:List Stp}{i:Nat}{s:Stp}(hi:ss[i]?= some s){j:Nat}(hj:j<6):(sts ss)[i*6+j]?= (stCells s)[j]? :=by
 induction ss generalizing i with
 | nil=>cases hi
 | cons a l ih=>
  show(stCells a++sts l)[i*6+j]?= _
  cases i with
  | zero=>
   have:a=s:=(by simpa using hi);subst this;rw[Nat.zero_mul,Nat.zero_add,List.getElem?_append_left (by exact hj)]
  | succ i=>
   rw[show(i+1)*6+j=6+(i*6+j)by omega,List.getElem?_append_right (by show 6 <= _;omega)];rw[show 6+(i*6+j)-(stCells a).length=i*6+j from Nat.add_sub_cancel_left ..];exact ih (by simpa using hi)
theorem sts_length (ss:List Stp):(sts ss).length=ss.length*6:=by
 induction ss with
 | nil=>rfl
 | cons a l ih=>
  show(stCells a++sts l).length=_
  rw[List.length_append,ih,List.length_cons];simp[stCells];omega
theorem Src.st {w:World}{b off n cap:Nat}{ss:List Stp}(h:Src w (some ⟨b,off,none⟩) n cap 6 (sts ss)){i:Nat}{s:Stp}(hi:ss[i]?= some s):w.rangeAt b (off+i*6) (stCells s):=by
 intro j v hv;have hj:j<6:=(List.getElem?_eq_some_iff.1 hv).1;have h1:=h.at_ _ rfl (i*6+j) v (by rw[sts_get hi hj];exact hv);rw[add_lit]at h1;rw[Nat.add_assoc];exact h1
def lens (ss:List Stp):Nat:=(ss.map fun s=>s.ats.length).sum
theorem lens_next {ss:List Stp}{i:Nat}{s:Stp}(h:ss[i]?= some s):lens (ss.take (i+1))=lens (ss.take i)+s.ats.length:=by
 rw[List.take_add_one,h];simp[lens]
theorem lens_le {N:Nat}{ss:List Stp}(h:∀s∈ss,s.ats.length <= N):∀i,lens (ss.take i) <= i*N
 | 0=>by simp[lens]
 | i+1=>by
  have h2:=lens_le h i;rw[Nat.succ_mul]
  cases hs:ss[i]? with
  | none=>
   have h1:ss.take (i+1)=ss.take i:=(by rw[List.take_add_one,hs,Option.toList_none,List.append_nil]);rw[h1];omega
  | some s=>
   rw[lens_next hs];have:=h s (List.mem_of_getElem? hs);omega
def heavy (words:Int)(nl:Nat)(ss:List Stp):Bool:=(decide (600<words) && decide (words <= 65536)) || decide (70<nl) || decide (60<ss.length) || decide (300<lens (ss.take 100))
theorem heavy9 (w:World)(words:Int)(lao:Option Addr)(nl lcap:Nat)(sao:Option Addr)(scap:Nat)(ss:List Stp)(hS:Src w sao ss.length scap 6 (sts ss))(hnl:nl <= maxLen)(hsl:ss.length <= maxLen)(hat:∀s∈ss,s.ats.length <= 17592186044416):
  Calls prog 8 #[.int .i64 words,.slice lao nl lcap,.slice sao ss.length scap] w fun e w'=>e=.returned (.bool (heavy words nl ss)) /\ w'=w:=by
 have HF:=uh (fun(h:0<ss.length)=>hS.form (by rw[sts_length];omega));have HS:=uh hS;have Hle:=uh (lens_le hat);unfold maxLen at hnl hsl;clear hS
 go_enter func8,ntmps8
 go_wp2_with fail
 go_loopw [7,8] (fun v7 v8 wr=>∃i:Nat,i <= ss.length /\ i <= 100 /\ v8=.int .i64 i /\ v7=.int .i64 (lens (ss.take i):Nat) /\ wr=w) (fun _ v8 _=>ss.length-(intOf v8).toNat)
 case atStart=>exact⟨0,Nat.zero_le _,Nat.zero_le _,by go_num,by simp[lens],rfl⟩
 case round=>
  obtain⟨i,hi,hi2,rfl,rfl,rfl⟩:=hrel;have hb:=Hle.out i
  by_cases hlt:i<ss.length /\ i<100
  · have hlt':(i:Int)<(ss.length:Int):=by omega
    have hlt2:(i:Int)<100:=(by omega);obtain⟨s,hs⟩:∃s,ss[i]?= some s:=⟨ss[i]'(by omega),List.getElem?_eq_getElem _⟩;obtain⟨b,off,rfl,-⟩:=HF.out (by omega);have q5:wr.cell? ⟨b,off+i*6+5,none⟩=some (.slice s.ao s.ats.length s.cap):=(HS.out.st hs) 5 _ rfl;have Hn:=uh (lens_next hs);have hsa:=hat s (List.mem_of_getElem? hs);generalize lens (ss.take i)=x at*;clear hs
    go_wp2_with fail
    go_roundw
    case rel=>exact⟨i+1,by omega,by omega,by go_num,by rw[Hn.out];go_num,trivial⟩
    case measure=>simp[intOf];omega
  · have hx:ss.take i=ss.take 100:=by
      by_cases h:i<ss.length
      ·rw[show i=100 by omega]
      ·rw[List.take_of_length_le (by omega),List.take_of_length_le (by omega)]
    have hres:heavy words nl ss=((decide (600<words) && decide (words <= 65536)) || decide (70<nl) || decide (60<ss.length) || decide (300<lens (ss.take i))):=(by rw[hx];rfl);have Hres:=uh hres;clear hres hx;generalize lens (ss.take i)=x at*;have hexit:¬((i:Int)<(ss.length:Int))∨((i:Int)<(ss.length:Int) /\ ¬(i:Int)<100):=(by omega);clear hlt HS HF hat Hle;rcases hexit with x1|⟨x1,x2⟩
    all_goals (
     by_cases c1:600<words
     · by_cases c2:words <= 65536
       · skip
         have k1:decide (600<words)=true:=decide_eq_true c1;have k2:decide (words <= 65536)=true:=decide_eq_true c2
         go_wp2_with fail
         go_ret;exact⟨by rw[Hres.out];simp[*],rfl⟩
       by_cases c3:70<nl
       · skip
         have k1:decide (600<words)=true:=decide_eq_true c1;have k2:decide (words <= 65536)=false:=decide_eq_false c2;have k3:decide (70<(nl:Int))=true:=decide_eq_true (by omega);have k3n:decide (70<nl)=true:=decide_eq_true c3
         go_wp2_with fail
         go_ret;exact⟨by rw[Hres.out];simp[*],rfl⟩
       by_cases c4:60<ss.length
       · skip
         have k1:decide (600<words)=true:=decide_eq_true c1;have k2:decide (words <= 65536)=false:=decide_eq_false c2;have k3:decide (70<(nl:Int))=false:=decide_eq_false (by omega);have k3n:decide (70<nl)=false:=decide_eq_false c3;have k4:decide (60<(ss.length:Int))=true:=decide_eq_true (by omega);have k4n:decide (60<ss.length)=true:=decide_eq_true c4
         go_wp2_with fail
         go_ret;exact⟨by rw[Hres.out];simp[*],rfl⟩
       by_cases c5:300<x
       · skip
         have k1:decide (600<words)=true:=decide_eq_true c1;have k2:decide (words <= 65536)=false:=decide_eq_false c2;have k3:decide (70<(nl:Int))=false:=decide_eq_false (by omega);have k3n:decide (70<nl)=false:=decide_eq_false c3;have k4:decide (60<(ss.length:Int))=false:=decide_eq_false (by omega);have k4n:decide (60<ss.length)=false:=decide_eq_false c4;have k5:decide (300<(x:Int))=true:=decide_eq_true (by omega);have k5n:decide (300<x)=true:=decide_eq_true c5
         go_wp2_with fail
         go_ret;exact⟨by rw[Hres.out];simp[*],rfl⟩
       have k1:decide (600<words)=true:=decide_eq_true c1;have k2:decide (words <= 65536)=false:=decide_eq_false c2;have k3:decide (70<(nl:Int))=false:=decide_eq_false (by omega);have k3n:decide (70<nl)=false:=decide_eq_false c3;have k4:decide (60<(ss.length:Int))=false:=decide_eq_false (by omega);have k4n:decide (60<ss.length)=false:=decide_eq_false c4;have k5:decide (300<(x:Int))=false:=decide_eq_false (by omega);have k5n:decide (300<x)=false:=decide_eq_false c5
       go_wp2_with fail
       go_ret;exact⟨by rw[Hres.out];simp[*],rfl⟩
     by_cases c3:70<nl
     · skip
       have k1:decide (600<words)=false:=decide_eq_false c1;have k3:decide (70<(nl:Int))=true:=decide_eq_true (by omega);have k3n:decide (70<nl)=true:=decide_eq_true c3
       go_wp2_with fail
       go_ret;exact⟨by rw[Hres.out];simp[*],rfl⟩
     by_cases c4:60<ss.length
     · skip
       have k1:decide (600<words)=false:=decide_eq_false c1;have k3:decide (70<(nl:Int))=false:=decide_eq_false (by omega);have k3n:decide (70<nl)=false:=decide_eq_false c3;have k4:decide (60<(ss.length:Int))=true:=decide_eq_true (by omega);have k4n:decide (60<ss.length)=true:=decide_eq_true c4
       go_wp2_with fail
       go_ret;exact⟨by rw[Hres.out];simp[*],rfl⟩
     by_cases c5:300<x
     · skip
       have k1:decide (600<words)=false:=decide_eq_false c1;have k3:decide (70<(nl:Int))=false:=decide_eq_false (by omega);have k3n:decide (70<nl)=false:=decide_eq_false c3;have k4:decide (60<(ss.length:Int))=false:=decide_eq_false (by omega);have k4n:decide (60<ss.length)=false:=decide_eq_false c4;have k5:decide (300<(x:Int))=true:=decide_eq_true (by omega);have k5n:decide (300<x)=true:=decide_eq_true c5
       go_wp2_with fail
       go_ret;exact⟨by rw[Hres.out];simp[*],rfl⟩
     have k1:decide (600<words)=false:=decide_eq_false c1;have k3:decide (70<(nl:Int))=false:=decide_eq_false (by omega);have k3n:decide (70<nl)=false:=decide_eq_false c3;have k4:decide (60<(ss.length:Int))=false:=decide_eq_false (by omega);have k4n:decide (60<ss.length)=false:=decide_eq_false c4;have k5:decide (300<(x:Int))=false:=decide_eq_false (by omega);have k5n:decide (300<x)=false:=decide_eq_false c5
     go_wp2_with fail
     go_ret;exact⟨by rw[Hres.out];simp[*],rfl⟩)
end
section
structure Pl (L:List Ty)(W B:List Nat)(cs:List Ce):Prop where
 good:Good L W cs
 touch:noTouch cs
 bl:B.length=(W.length/2+63)/64
 bu:u64ok B
 bits:bitsOf B (W.length/2) (objs cs)
theorem bitAt_zeros (n i:Nat):bitAt (List.replicate n 0) i=false:=by
 unfold bitAt;rw[List.getD_eq_getElem?_getD]
 cases h:(List.replicate n 0)[i/64]? with
 | none=>simp
 | some v=>
  rw[List.eq_of_mem_replicate (List.mem_of_getElem? h)];simp
theorem objs_gap (g n:Nat):objs [(g,gapHd n)]=[]:=by
 unfold objs;rw[List.filter_cons_of_neg (by rw[isObj_iff];exact gapHd_tag n)]
 rfl
theorem Pl.new {L:List Ty}{n:Nat}(h1:∀t∈L,t.may)(h2:L.length <= 64)(h3:n <= 600)(h4:16 <= n)(h5:n%2=0):Pl L (lay (List.replicate n 0) 0 (n/2)) (List.replicate ((n/2+63)/64) 0) [(0,gapHd (n/2))]:=by
 have hl:(lay (List.replicate n 0) 0 (n/2)).length=n:=by rw[lay_len,List.length_replicate]
 refine⟨.new h1 h2 h3 h4 h5,trivial,by rw[hl,List.length_replicate],fun v hv=>by rw[List.eq_of_mem_replicate hv];omega,fun i _=>?_⟩;rw[bitAt_zeros,objs_gap];simp
theorem Pl.put {L:List Ty}{W B B':List Nat}{a b:List Ce}{c:Ce}(h:Pl L W B (a++c::b)){g:Nat}{hd:Hd}(hf:fits L hd)(hh:hd.tag=1)(ht:takes c g hd.size)(hs:SetIn B B' g 1):Pl L (putW W c g hd) B' (a++putC c g hd++b):=by
 obtain⟨h1,h2,-,h4⟩:=ht;refine⟨h.good.put hf h2 h4,h.touch.put h1 hh,by rw[hs.1,h.bl,putW_len],hs.2.1,fun i hi=>?_⟩;rw[putW_len]at hi
 have ho:objs (a++c::b)=objs a++objs b:=by
  rw[objs_append]
  congr 1
  unfold objs;rw[List.filter_cons_of_neg (by rw[isObj_iff];exact h1)]
 have hb:=h.bits i hi;rw[ho]at hb;rw[objs_put hh,hs.2.2 i,Bool.or_eq_true,hb,Bool.and_eq_true,decide_eq_true_eq,decide_eq_true_eq]
 constructor
 · rintro(⟨d,hd,he⟩|h1)
   · refine⟨d,?_,he⟩
     simp only[List.mem_append,List.mem_cons]at hd ⊢;rcases hd with hd|hd
     ·exact .inl hd
     ·exact .inr (.inr hd)
   ·exact⟨(g,hd),by simp,by show g=i;omega⟩
 · rintro⟨d,hd,he⟩
   simp only[List.mem_append,List.mem_cons]at hd;rcases hd with hd|rfl|hd
   ·exact .inl ⟨d,by simp[hd],he⟩
   ·exact .inr (by simp only at he;omega)
   ·exact .inl ⟨d,by simp[hd],he⟩
theorem mem_objs {cs:List Ce}{d:Ce}(h:d∈cs)(ht:d.2.tag=1):d∈objs cs:=by
 unfold objs;rw[List.mem_filter,isObj_iff];exact⟨h,ht⟩
theorem Pl.drop {L:List Ty}{W B B':List Nat}{pre post:List Ce}{c:Ce}(h:Pl L W B (pre++c::post))(ht:c.2.tag=1)(hs:ClrIn B B' c.1 1):∃cs',Pl L (dropW W pre c post) B' cs' /\ objs cs'=objs pre++objs post:=by
 obtain⟨cs',h1,h2,h3⟩:=h.good.drop_all h.touch;have hl:(dropW W pre c post).length=W.length:=by unfold dropW;rw[lay_len]
 refine⟨cs',⟨h1,h2,by rw[hs.1,h.bl,hl],hs.2.1,fun i hi=>?_⟩,h3⟩;rw[hl]at hi;obtain⟨ch1,hst,ch2⟩:=h.good.chain.split;have hpos:=hst.pos
 have hno:∀d∈objs pre++objs post,d.1≠c.1:=by
  intro d hd;rcases List.mem_append.1 hd with hd|hd
  · have h5:=ch1.mem d (objs_mem hd).1
    have:=h5.2.2.pos;omega
  · have h5:=ch2.mem d (objs_mem hd).1
    omega
 have ho:objs (pre++c::post)=objs pre++c::objs post:=by
  rw[objs_append]
  congr 1
  unfold objs;rw[List.filter_cons_of_pos (by rw[isObj_iff];exact ht)]
 have hb:=h.bits i hi;rw[ho]at hb;rw[h3,hs.2.2 i,Bool.and_eq_true,hb,Bool.not_eq_true',Bool.and_eq_false_iff,decide_eq_false_iff_not,decide_eq_false_iff_not]
 constructor
 · rintro⟨⟨d,hd,he⟩,hx⟩
   refine⟨d,?_,he⟩;simp only[List.mem_append,List.mem_cons]at hd ⊢;rcases hd with hd|rfl|hd
   ·exact .inl hd
   ·omega
   ·exact .inr hd
 · rintro⟨d,hd,he⟩
   have:=hno d hd;refine⟨⟨d,?_,he⟩,by omega⟩;simp only[List.mem_append,List.mem_cons]at hd ⊢;rcases hd with hd|hd
   ·exact .inl hd
   ·exact .inr (.inr hd)
theorem rises_tags {L:List Ty}{W:List Nat}:∀{os:List Ce} {e:Nat},rises L W e os -> ∀c∈os,c.2.tag=1
 | d::os,e,h,c,hc=>by
  rcases List.mem_cons.1 hc with rfl|hc
  ·exact h.2.2.1
  ·exact rises_tags h.2.2.2 c hc
theorem Pl.settle {L:List Ty}{W B B':List Nat}{cs:List Ce}(h:Pl L W B cs){os:List Ce}(hr:rises L W 0 os)(hl:B'.length=B.length)(hu:u64ok B')(hb:bitsOf B' (W.length/2) os):Pl L (settleW (W.length/2) W os 0) B' (settleC (W.length/2) os 0):=by
 have ht:=rises_tags hr;refine⟨h.good.settle hr,noTouch_settleC _ _ _ ht,by rw[hl,h.bl,settleW_len],hu,?_⟩;rw[settleW_len,objs_settleC _ _ _ ht];exact hb
theorem Pl.slot {L:List Ty}{W B:List Nat}{cs:List Ce}(h:Pl L W B cs){c:Ce}(hc:c∈cs){j v:Nat}(h1:2*c.1<j)(h2:j<2*(c.1+c.2.size))(hv:v<18446744073709551616):Pl L (W.set j v) B cs:=
 ⟨h.good.slot hc h1 h2 hv,h.touch,by rw[List.length_set];exact h.bl,h.bu,by rw[List.length_set];exact h.bits⟩
theorem Pl.bit {L:List Ty}{W B:List Nat}{cs:List Ce}(h:Pl L W B cs){g:Nat}(hg:g<W.length/2)(hb:bitAt B g=true):∃c∈cs,c.1=g /\ c.2.tag=1:=by
 obtain⟨c,hc,he⟩:=(h.bits g hg).1 hb;exact⟨c,(objs_mem hc).1,he,(objs_mem hc).2⟩
theorem Pl.bit_of {L:List Ty}{W B:List Nat}{cs:List Ce}(h:Pl L W B cs){c:Ce}(hc:c∈cs)(ht:c.2.tag=1):bitAt B c.1=true:=by
 have h1:=h.good.chain.mem c hc;have:=h1.2.2.pos;exact(h.bits c.1 (by omega)).2 ⟨c,mem_objs hc ht,rfl⟩
theorem stands_slots {L:List Ty}{W:List Nat}{g:Nat}{h:Hd}(hs:stands L W g h)(ht:h.tag=1):(tyAt L h.typ).slots h.len+1 <= 2*h.size /\ 2*h.size <= (tyAt L h.typ).slots h.len+2:=by
 have h1:=(fit_iff L h).2 hs.2.1;unfold fitErr at h1;rw[if_neg (by simpa using hs.2.1.1),if_neg (by simpa using ht)]at h1
 have h2:tyErr L h.typ h.len=0 /\ tySize L h.typ h.len=h.size:=by
  by_cases h9:tyErr L h.typ h.len=0 /\ tySize L h.typ h.len=h.size
  ·exact h9
  ·rw[if_neg h9]at h1;exact absurd h1 (by decide)
 unfold tyErr tySize at h2;unfold tyAt
 cases hg:getTy L h.typ with
 | none=>rw[hg]at h2;exact absurd h2.1 (by simp)
 | some t=>
  rw[hg]at h2;simp only at h2;rw[if_pos h2.1,Int.toNat_natCast]at h2;have:=h2.2;unfold Ty.size at this;simp only[Option.getD_some];omega
end
section
open Go Go.RowKit Go.IntWalk
theorem settle9_err {w0:World}(w:World){rb lcap:Nat}{lao:Option Addr}{W:List Nat}{L:List Ty}{l R:List Blk}(hI:RefIs rb lao L.length lcap W l)(T:Turn [] w0 (l++R) w)(hS:Src w0 lao L.length lcap 3 (tys L))(hTy:∀t∈L,TyIn t)(hL:L.length <= 1000)(hf:W.length <= 65536)
  (hu:∀v∈W,v<18446744073709551616)(ats:List Int)(os:List Ce)(hr:rises L W 0 os)(x:Int)(hx:ats[os.length]?= some x)(hpre:∀(i:Nat) (c:Ce),os[i]?= some c -> ats[i]?= some (c.1:Int))(hbad:∀h,objq L W x=some h -> x<(endOf 0 os:Nat))(hlen:ats.length <= 65536)(aa:Option Addr)(acap:Nat)(hA:Src w0 aa ats.length acap 1 (ints ats)):
  Calls prog 139 #[pt rb,.slice aa ats.length acap] w fun e w'=>e=.returned (.int .i64 2) /\ Turn [] w0 (l++R) w':=by
 have hol:os.length<ats.length:=(List.getElem?_eq_some_iff.1 hx).1;obtain⟨ao,cap,lr,hrow,rfl⟩:=hI;have hl0:=rises_len hr (Nat.zero_le _);have hzb:W.length/2 <= 32768:=by omega
 have HS0 := uh (fun w' (lr5 Y : List Blk) (V : Turn [] w0 (Y ++ (lr5 ++ ((rb, rN ao W cap lao L.length lcap) :: lr ++ R))) w') =>
         (⟨V.has.cell (b:=rb) (c:=#[.slice ao W.length cap,.slice lao L.length lcap]) (e:=109) (f:=(0,0)) (by simp) 0,V.has.cell (b:=rb) (c:=#[.slice ao W.length cap,.slice lao L.length lcap]) (e:=109) (f:=(0,0)) (by simp) 1⟩:w'.cell? ⟨rb,0,none⟩=some (.slice ao W.length cap) /\ w'.cell? ⟨rb,1,none⟩=some (.slice lao L.length lcap)))
 have Hof0:=uh (fun w' (lr5 Y:List Blk) (V:Turn [] w0 (Y++(lr5++((rb,rN ao W cap lao L.length lcap)::lr++R))) w')=>of8 w' ao cap (hrow.src (R:=(Y++lr5)++((rb,rN ao W cap lao L.length lcap)::R)) (V.has.perm po)) hf hu L hTy hL lao lcap (hS.below V.below));have hszH:=sz_head;have hszT:=sz_type;have Hr:=uh (fun i c=>rises_at hr (i:=i) (c:=c));have Hle:=uh (endOf_take_le hr);have HT:=uh T;have HA0:=uh (hA.form (by rw[ints_len];omega));clear T hS hu hrow hA
 go_enter func139,ntmps139
 go_wp2_with fail
 go_loopw [5,6,7] (fun v5 v6 v7 wr=>∃(i:Nat) (a5:Option Addr) (p5:Nat) (lr5:List Blk),i <= os.length /\ v7=.int .i64 i /\ v6=.int .i64 (endOf 0 (os.take i):Nat) /\ v5=.slice a5 i p5 /\ Row 3 1 a5 i p5 (nats (sizesOf (os.take i))) lr5 /\ Turn [] w0 (lr5++((rb,rN ao W cap lao L.length lcap)::lr++R)) wr) (fun _ _ v7 _=>ats.length-(intOf v7).toNat)
 case atStart=>exact⟨0,none,0,[],Nat.zero_le _,rfl,rfl,rfl,Row.nil _ _,HT.out⟩
 case round=>
  clear HT;obtain⟨i,a5,p5,lr5,hi,rfl,rfl,rfl,hr5,T⟩:=hrel
  by_cases hlt:i<os.length
  · have hlt':(i:Int)<(os.length:Int):=by omega
    obtain⟨c,hc⟩:∃c,os[i]?= some c:=⟨os[i],List.getElem?_eq_getElem hlt⟩;obtain⟨hce,hst,hct⟩:=Hr.out i c hc;have hoq:=objq_of hst hct;have hte:=stands_ty hst hct hTy;have Hof:=uh (fun w' Y V=>Hof0.out w' lr5 Y V (c.1:Int));rw[hoq]at Hof;simp only at Hof;have Hs1:=uh (sizesOf_next hc);have He1:=uh (endOf_next hc);have hroom:=hst.2.2;have Hat0:=uh (hpre i c hc);obtain⟨ab,aoff,rfl,hat0⟩:=HA0.out;have Hat:=uh (fun w' (hB:Below w0.heap.size w0 w')=>(hB.cell (p:=⟨ab,aoff+i,none⟩) (World.block_lt_of_cell? w0 _ (hat0 i _ (ints_get Hat0.out)))).trans (hat0 i _ (ints_get Hat0.out)));have HS:=uh (fun w' Y (V:Turn [] w0 (Y++(lr5++((rb,rN ao W cap lao L.length lcap)::lr++R))) w')=>(⟨(HS0.out w' lr5 Y V).1,(HS0.out w' lr5 Y V).2,Hat.out w' V.below⟩:w'.cell? ⟨rb,0,none⟩=some (.slice ao W.length cap) /\ w'.cell? ⟨rb,1,none⟩=some (.slice lao L.length lcap) /\ w'.cell? ⟨ab,aoff+i,none⟩=some (.int .i64 c.1)));generalize tyAt L c.2.typ=t at*;obtain⟨tk,tw,tm⟩:=t;obtain⟨cg,⟨ca,cb,cc,cd⟩⟩:=c;simp only at hct Hof HS Hat He1 Hs1 hce hroom;subst hct;have hoH:=hd_one ⟨1,cb,cc,cd⟩;have hoT:=ty_one ⟨tk,tw,tm⟩;simp only at hoH hoT;generalize endOf 0 (os.take i)=en at*;have k1:decide ((cg:Int)<(en:Int))=false:=decide_eq_false (by omega);have k2:decide (cg<en)=false:=decide_eq_false (by omega);have HT2:=uh T.drew;have Hr5:=uh hr5;have h63:i+1 <= maxLen:=(by unfold maxLen;omega);have hby:(i+1)*8 <= 140737488355328:=(by omega)
    clear T hr5 hst hoq hte hc hat0 HA0 Hat0 hpre hbad hx
    go_upto_region 6 with fail
    refine wp_abs (fun W'=>Turn [] w0 (lr5++((rb,rN ao W cap lao L.length lcap)::lr++R)) W'.drew) HT2.out fun W1 T1=>?_;have HT1:Hid (Turn [] w0 (lr5++((rb,rN ao W cap lao L.length lcap)::lr++R)) W1.drew):=uh T1;clear T1 HT2
    apply wp_mid (I:=fun bh bt w=>Turn [] w0 ((bh,.cells #[.int .u8 1,.int .i64 cb,.int .i64 cc,.int .i64 cd] 79)::(bt,.cells #[.int .u8 tk,.int .i64 tw,.int .u64 tm] 49)::(lr5++((rb,rN ao W cap lao L.length lcap)::lr++R))) w)
    case h=>
     have hS1:=HS.out _ [] HT1.out;refine wp_region_noPanic ?_;refine wp_region_listed (S:=fun W'=>W'.cell? ⟨rb,0,none⟩=some (.slice ao W.length cap) /\ W'.cell? ⟨rb,1,none⟩=some (.slice lao L.length lcap) /\ W'.cell? ⟨ab,aoff+i,none⟩=some (.int .i64 cg)) 22 [false,false,false,false,false,false,false,false,false,false,false,false,false,false,false,false,false,false,false,false,false,false] rfl rfl (by kernel_rfl) ?_;refine tkA 0 19 hS1 ?_;refine tkA 1 20 hS1 ?_;refine tkA 2 21 hS1 ?_;refine tkB 3 22 hS1 (fun w hSw=>hSw.1) ?_;refine tkA 4 23 hS1 ?_;refine tkA 5 24 hS1 ?_;refine tkA 6 25 hS1 ?_;refine tkB 7 26 hS1 (fun w hSw=>hSw.2.1) ?_;refine tkA 8 27 hS1 ?_;refine tkA 9 28 hS1 ?_;refine tkA 10 29 hS1 ?_;refine tkB 11 30 hS1 (fun w hSw=>hSw.2.2) ?_;have T0:Turn [] w0 ([]++(lr5++((rb,rN ao W cap lao L.length lcap)::lr++R))) W1.drew:=HT1.out;clear hS1;generalize W1.drew=V0 at T0 ⊢;have HT0h:=uh T0;clear T0
     apply any_mid (I:=fun bh bt V=>Turn [] w0 ((bh,zH)::(bt,zT)::(lr5++((rb,rN ao W cap lao L.length lcap)::lr++R))) V)
     case h1=>
      intro hG;have T0:=HT0h.out;refine wpAnyH_ready (rs:=[12,17,18]) (by kernel_rfl) (by simp) (AllReadyH.cons rfl (fun K hK=>?_) (AllReadyH.cons rfl (fun K hK=>?_) (AllReadyH.cons rfl (fun K hK=>?_) AllReadyH.nil)))
      · go_simp
        refine(Hof.out _ [] T0).mono ?_;rintro e V1 ⟨rfl,hB⟩;have T1:=T0.call hB;refine hK.out _ _ (HS.out _ [] T1) fun _=>?_;clear hK K hB T0;simp only[st0,st1,st2];have hS1:=HS.out _ [] T1;refine tkA 13 18 hS1 ?_;refine tkA 14 32 hS1 ?_;refine tkA 15 33 hS1 ?_;refine tkA 16 34 hS1 ?_;clear hS1;refine wpAnyH_ready (rs:=[17,18]) (by kernel_rfl) (by simp) (AllReadyH.cons rfl (fun K hK=>?_) (AllReadyH.cons rfl (fun K hK=>?_) AllReadyH.nil))
        · go_simp
          have T2:=T1.alloc zH;refine hK.out _ _ (HS.out _ [_] T2) fun _=>?_;clear hK K T1;simp only[st0,st1,st2];generalize V1.alloc _=V2 at*;generalize V1.heap.size=bh at*;refine rdyA 18 (fun K hK=>?_)
          · go_simp
            have T3:=T2.alloc zT;refine hK.out _ _ (HS.out _ [_,_] T3) fun _=>?_;clear hK K T2;simp only[st0,st1,st2];generalize V2.alloc _=V3 at*;generalize V2.heap.size=bt at*;exact hG.out bh bt V3 (T3.perm po)
        · go_simp
          have T2:=T1.alloc zT;refine hK.out _ _ (HS.out _ [_] T2) fun _=>?_;clear hK K T1;simp only[st0,st1,st2];generalize V1.alloc _=V2 at*;generalize V1.heap.size=bt at*;refine rdyA 17 (fun K hK=>?_)
          · go_simp
            have T3:=T2.alloc zH;refine hK.out _ _ (HS.out _ [_,_] T3) fun _=>?_;clear hK K T2;simp only[st0,st1,st2];generalize V2.alloc _=V3 at*;generalize V2.heap.size=bh at*;exact hG.out bh bt V3 (T3.perm po)
      · go_simp
        have T1:=T0.alloc zH;refine hK.out _ _ (HS.out _ [_] T1) fun _=>?_;clear hK K T0;simp only[st0,st1,st2];generalize V0.alloc _=V1 at*;generalize V0.heap.size=bh at*;refine wpAnyH_ready (rs:=[12,18]) (by kernel_rfl) (by simp) (AllReadyH.cons rfl (fun K hK=>?_) (AllReadyH.cons rfl (fun K hK=>?_) AllReadyH.nil))
        · go_simp
          refine(Hof.out _ [_] T1).mono ?_;rintro e V2 ⟨rfl,hB⟩;have T2:=T1.call hB;refine hK.out _ _ (HS.out _ [_] T2) fun _=>?_;clear hK K hB T1;simp only[st0,st1,st2];have hS2:=HS.out _ [_] T2;refine tkA 13 18 hS2 ?_;refine tkA 14 32 hS2 ?_;refine tkA 15 33 hS2 ?_;refine tkA 16 34 hS2 ?_;clear hS2;refine rdyA 18 (fun K hK=>?_)
          · go_simp
            have T3:=T2.alloc zT;refine hK.out _ _ (HS.out _ [_,_] T3) fun _=>?_;clear hK K T2;simp only[st0,st1,st2];generalize V2.alloc _=V3 at*;generalize V2.heap.size=bt at*;exact hG.out bh bt V3 (T3.perm po)
        · go_simp
          have T2:=T1.alloc zT;refine hK.out _ _ (HS.out _ [_,_] T2) fun _=>?_;clear hK K T1;simp only[st0,st1,st2];generalize V1.alloc _=V2 at*;generalize V1.heap.size=bt at*;refine rdyA 12 (fun K hK=>?_)
          · go_simp
            refine(Hof.out _ [_,_] T2).mono ?_;rintro e V3 ⟨rfl,hB⟩;have T3:=T2.call hB;refine hK.out _ _ (HS.out _ [_,_] T3) fun _=>?_;clear hK K hB T2;simp only[st0,st1,st2];have hS3:=HS.out _ [_,_] T3;refine tkA 13 18 hS3 ?_;refine tkA 14 32 hS3 ?_;refine tkA 15 33 hS3 ?_;refine tkA 16 34 hS3 ?_;clear hS3;exact hG.out bh bt V3 (T3.perm po)
      · go_simp
        have T1:=T0.alloc zT;refine hK.out _ _ (HS.out _ [_] T1) fun _=>?_;clear hK K T0;simp only[st0,st1,st2];generalize V0.alloc _=V1 at*;generalize V0.heap.size=bt at*;refine wpAnyH_ready (rs:=[12,17]) (by kernel_rfl) (by simp) (AllReadyH.cons rfl (fun K hK=>?_) (AllReadyH.cons rfl (fun K hK=>?_) AllReadyH.nil))
        · go_simp
          refine(Hof.out _ [_] T1).mono ?_;rintro e V2 ⟨rfl,hB⟩;have T2:=T1.call hB;refine hK.out _ _ (HS.out _ [_] T2) fun _=>?_;clear hK K hB T1;simp only[st0,st1,st2];have hS2:=HS.out _ [_] T2;refine tkA 13 18 hS2 ?_;refine tkA 14 32 hS2 ?_;refine tkA 15 33 hS2 ?_;refine tkA 16 34 hS2 ?_;clear hS2;refine rdyA 17 (fun K hK=>?_)
          · go_simp
            have T3:=T2.alloc zH;refine hK.out _ _ (HS.out _ [_,_] T3) fun _=>?_;clear hK K T2;simp only[st0,st1,st2];generalize V2.alloc _=V3 at*;generalize V2.heap.size=bh at*;exact hG.out bh bt V3 (T3.perm po)
        · go_simp
          have T2:=T1.alloc zH;refine hK.out _ _ (HS.out _ [_,_] T2) fun _=>?_;clear hK K T1;simp only[st0,st1,st2];generalize V1.alloc _=V2 at*;generalize V1.heap.size=bh at*;refine rdyA 12 (fun K hK=>?_)
          · go_simp
            refine(Hof.out _ [_,_] T2).mono ?_;rintro e V3 ⟨rfl,hB⟩;have T3:=T2.call hB;refine hK.out _ _ (HS.out _ [_,_] T3) fun _=>?_;clear hK K hB T2;simp only[st0,st1,st2];have hS3:=HS.out _ [_,_] T3;refine tkA 13 18 hS3 ?_;refine tkA 14 32 hS3 ?_;refine tkA 15 33 hS3 ?_;refine tkA 16 34 hS3 ?_;clear hS3;exact hG.out bh bt V3 (T3.perm po)
     case h2=>
      intro bh bt V0 U0;refine rdyA 19 (fun K hK=>?_);have hth0:=U0.there1;have U1:=U0.laid [.int .u8 1,.int .i64 cb,.int .i64 cc,.int .i64 cd] rfl;refine step_store rfl rfl 79 _ _ rfl _ 0 #[.int .u8 1,.int .i64 cb,.int .i64 cc,.int .i64 cd] rfl rfl hth0 hszH hoH ?_;refine hK.out _ _ (HS.out _ [_,_] U1) fun _=>?_;clear hK K hth0;simp only[st0,st1,st2];generalize V0.setCells bh 0 _=V9 at*;refine rdyA 20 (fun K hK=>?_);have hth1:=U1.there2;have U2:=U1.laid2 [.int .u8 tk,.int .i64 tw,.int .u64 tm] rfl;refine step_store rfl rfl 49 _ _ rfl _ 0 #[.int .u8 tk,.int .i64 tw,.int .u64 tm] rfl rfl hth1 hszT hoT ?_;refine hK.out _ _ (HS.out _ [_,_] U2) fun _=>?_;clear hK K hth1;simp only[st0,st1,st2];have hSz:=HS.out _ [_,_] U2;refine tkA 21 10 hSz ?_;clear hSz;refine wpAnyH_done (by kernel_rfl) ?_ _;refine NoPanic.normal ?_;exact⟨rfl,bh,bt,rfl,U2⟩
    case hq=>
     intro bh bt w5 T5;have c3:=T5.cell1 3;have hat:=Hat.out w5 T5.below;have HT5:=uh T5;clear T5 HS Hof
     go_wp2_with (first
      | (at_builtin;refine wpList_append_row rfl _ _ rfl el_int rfl Hr5.out (R:=(w5.heap.size,.cells #[.int .i64 cd] 3)::(bh,.cells #[.int .u8 1,.int .i64 cb,.int .i64 cc,.int .i64 cd] 79)::(bt,.cells #[.int .u8 tk,.int .i64 tw,.int .u64 tm] 49)::((rb,rN ao W cap lao L.length lcap)::lr++R)) ((HT5.out.alloc (.cells #[.int .i64 cd] 3)).perm po).has rfl (news:=[.int .i64 cd]) rfl (news_of (heap_alloc_new _ _)) (by simp[Value.oneCell']) h63 hby ?_;intro a9 p9 l9 w9 hr9 V9 hno;have HT9:=uh (((HT5.out.alloc (.cells #[.int .i64 cd] 3)).perm (l2:=lr5++((w5.heap.size,.cells #[.int .i64 cd] 3)::(bh,.cells #[.int .u8 1,.int .i64 cb,.int .i64 cc,.int .i64 cd] 79)::(bt,.cells #[.int .u8 tk,.int .i64 tw,.int .u64 tm] 49)::((rb,rN ao W cap lao L.length lcap)::lr++R))) po).trans V9);have Hr9:=uh hr9;clear hr9 V9 hno)
      | fail)
     have hat9:=Hat.out _ HT9.out.below;have c39:w9.cell? ⟨bh,3,none⟩=some (.int .i64 cd):=HT9.out.has.cell (b:=bh) (c:=#[.int .u8 1,.int .i64 cb,.int .i64 cc,.int .i64 cd]) (e:=79) (f:=(0,0)) (by simp) 3;have HT8:=uh ((HT9.out.perm (l2:=[(w5.heap.size,.cells #[.int .i64 cd] 3),(bh,.cells #[.int .u8 1,.int .i64 cb,.int .i64 cc,.int .i64 cd] 79),(bt,.cells #[.int .u8 tk,.int .i64 tw,.int .u64 tm] 49)]++(l9++((rb,rN ao W cap lao L.length lcap)::lr++R))) po).drop);clear HT9 HT5 c3 hat
     go_quiet (fail)
     go_wp2_with fail
     go_roundw
     case rel=>exact⟨i+1,a9,p9,l9,by omega,by go_num,by rw[He1.out];go_num,rfl,by rw[Hs1.out,nats_append];exact Hr9.out,HT8.out.drewN _⟩
     case measure=>simp[intOf];omega
  · obtain rfl:i=os.length:=by omega
    have hlt':((os.length:Nat):Int)<(ats.length:Int):=(by omega);rw[List.take_length]
    obtain⟨h,t,er,hofx,hdec⟩:∃(h:Hd) (t:Ty) (er:Int),(∀w' Y,Turn [] w0 (Y++(lr5++((rb,rN ao W cap lao L.length lcap)::lr++R))) w' -> Calls prog 194 #[.slice ao W.length cap,.slice lao L.length lcap,.int .i64 x] w' fun e w''=>e=.returned (.tuple #[hdVal h,tyVal t,.int .i64 er]) /\ Below w'.heap.size w' w'') /\ (er≠0∨(er=0 /\ x<(endOf 0 os:Nat))):=by
     cases hq:objq L W x with
     | none=>
      refine⟨hd0,⟨0,0,0⟩,ofErr W x,fun w' Y V=>?_,.inl ofErr_ne⟩;have h:=Hof0.out w' lr5 Y V x;rw[hq]at h;exact h
     | some h=>
      refine⟨h,tyAt L h.typ,0,fun w' Y V=>?_,.inr ⟨rfl,hbad h hq⟩⟩;have h:=Hof0.out w' lr5 Y V x;rw[hq]at h;exact h
    have Hof:=uh hofx;obtain⟨ab,aoff,rfl,hat0⟩:=HA0.out;have Hat:=uh (fun w' (hB:Below w0.heap.size w0 w')=>(hB.cell (p:=⟨ab,aoff+os.length,none⟩) (World.block_lt_of_cell? w0 _ (hat0 os.length _ (ints_get hx)))).trans (hat0 os.length _ (ints_get hx)));have HS:=uh (fun w' Y (V:Turn [] w0 (Y++(lr5++((rb,rN ao W cap lao L.length lcap)::lr++R))) w')=>(⟨(HS0.out w' lr5 Y V).1,(HS0.out w' lr5 Y V).2,Hat.out w' V.below⟩:w'.cell? ⟨rb,0,none⟩=some (.slice ao W.length cap) /\ w'.cell? ⟨rb,1,none⟩=some (.slice lao L.length lcap) /\ w'.cell? ⟨ab,aoff+os.length,none⟩=some (.int .i64 x)));obtain⟨ha,hb,hc,hd⟩:=h;obtain⟨tk,tw,tm⟩:=t;have hoH:=hd_one ⟨ha,hb,hc,hd⟩;have hoT:=ty_one ⟨tk,tw,tm⟩;simp only at hoH hoT Hof;generalize endOf 0 os=en at*;have HT2:=uh T.drew;clear T hr5 hat0 HA0 hpre hbad hx hofx
    go_upto_region 6 with fail
    refine wp_abs (fun W'=>Turn [] w0 (lr5++((rb,rN ao W cap lao L.length lcap)::lr++R)) W'.drew) HT2.out fun W1 T1=>?_;have HT1:Hid (Turn [] w0 (lr5++((rb,rN ao W cap lao L.length lcap)::lr++R)) W1.drew):=uh T1;clear T1 HT2
    apply wp_mid (I:=fun bh bt w=>Turn [] w0 ((bh,.cells #[.int .u8 ha,.int .i64 hb,.int .i64 hc,.int .i64 hd] 79)::(bt,.cells #[.int .u8 tk,.int .i64 tw,.int .u64 tm] 49)::(lr5++((rb,rN ao W cap lao L.length lcap)::lr++R))) w)
    case h=>
     have hS1:=HS.out _ [] HT1.out;refine wp_region_noPanic ?_;refine wp_region_listed (S:=fun W'=>W'.cell? ⟨rb,0,none⟩=some (.slice ao W.length cap) /\ W'.cell? ⟨rb,1,none⟩=some (.slice lao L.length lcap) /\ W'.cell? ⟨ab,aoff+os.length,none⟩=some (.int .i64 x)) 22 [false,false,false,false,false,false,false,false,false,false,false,false,false,false,false,false,false,false,false,false,false,false] rfl rfl (by kernel_rfl) ?_;refine tkA 0 19 hS1 ?_;refine tkA 1 20 hS1 ?_;refine tkA 2 21 hS1 ?_;refine tkB 3 22 hS1 (fun w hSw=>hSw.1) ?_;refine tkA 4 23 hS1 ?_;refine tkA 5 24 hS1 ?_;refine tkA 6 25 hS1 ?_;refine tkB 7 26 hS1 (fun w hSw=>hSw.2.1) ?_;refine tkA 8 27 hS1 ?_;refine tkA 9 28 hS1 ?_;refine tkA 10 29 hS1 ?_;refine tkB 11 30 hS1 (fun w hSw=>hSw.2.2) ?_;have T0:Turn [] w0 ([]++(lr5++((rb,rN ao W cap lao L.length lcap)::lr++R))) W1.drew:=HT1.out;clear hS1;generalize W1.drew=V0 at T0 ⊢;have HT0h:=uh T0;clear T0
     apply any_mid (I:=fun bh bt V=>Turn [] w0 ((bh,zH)::(bt,zT)::(lr5++((rb,rN ao W cap lao L.length lcap)::lr++R))) V)
     case h1=>
      intro hG;have T0:=HT0h.out;refine wpAnyH_ready (rs:=[12,17,18]) (by kernel_rfl) (by simp) (AllReadyH.cons rfl (fun K hK=>?_) (AllReadyH.cons rfl (fun K hK=>?_) (AllReadyH.cons rfl (fun K hK=>?_) AllReadyH.nil)))
      · go_simp
        refine(Hof.out _ [] T0).mono ?_;rintro e V1 ⟨rfl,hB⟩;have T1:=T0.call hB;refine hK.out _ _ (HS.out _ [] T1) fun _=>?_;clear hK K hB T0;simp only[st0,st1,st2];have hS1:=HS.out _ [] T1;refine tkA 13 18 hS1 ?_;refine tkA 14 32 hS1 ?_;refine tkA 15 33 hS1 ?_;refine tkA 16 34 hS1 ?_;clear hS1;refine wpAnyH_ready (rs:=[17,18]) (by kernel_rfl) (by simp) (AllReadyH.cons rfl (fun K hK=>?_) (AllReadyH.cons rfl (fun K hK=>?_) AllReadyH.nil))
        · go_simp
          have T2:=T1.alloc zH;refine hK.out _ _ (HS.out _ [_] T2) fun _=>?_;clear hK K T1;simp only[st0,st1,st2];generalize V1.alloc _=V2 at*;generalize V1.heap.size=bh at*;refine rdyA 18 (fun K hK=>?_)
          · go_simp
            have T3:=T2.alloc zT;refine hK.out _ _ (HS.out _ [_,_] T3) fun _=>?_;clear hK K T2;simp only[st0,st1,st2];generalize V2.alloc _=V3 at*;generalize V2.heap.size=bt at*;exact hG.out bh bt V3 (T3.perm po)
        · go_simp
          have T2:=T1.alloc zT;refine hK.out _ _ (HS.out _ [_] T2) fun _=>?_;clear hK K T1;simp only[st0,st1,st2];generalize V1.alloc _=V2 at*;generalize V1.heap.size=bt at*;refine rdyA 17 (fun K hK=>?_)
          · go_simp
            have T3:=T2.alloc zH;refine hK.out _ _ (HS.out _ [_,_] T3) fun _=>?_;clear hK K T2;simp only[st0,st1,st2];generalize V2.alloc _=V3 at*;generalize V2.heap.size=bh at*;exact hG.out bh bt V3 (T3.perm po)
      · go_simp
        have T1:=T0.alloc zH;refine hK.out _ _ (HS.out _ [_] T1) fun _=>?_;clear hK K T0;simp only[st0,st1,st2];generalize V0.alloc _=V1 at*;generalize V0.heap.size=bh at*;refine wpAnyH_ready (rs:=[12,18]) (by kernel_rfl) (by simp) (AllReadyH.cons rfl (fun K hK=>?_) (AllReadyH.cons rfl (fun K hK=>?_) AllReadyH.nil))
        · go_simp
          refine(Hof.out _ [_] T1).mono ?_;rintro e V2 ⟨rfl,hB⟩;have T2:=T1.call hB;refine hK.out _ _ (HS.out _ [_] T2) fun _=>?_;clear hK K hB T1;simp only[st0,st1,st2];have hS2:=HS.out _ [_] T2;refine tkA 13 18 hS2 ?_;refine tkA 14 32 hS2 ?_;refine tkA 15 33 hS2 ?_;refine tkA 16 34 hS2 ?_;clear hS2;refine rdyA 18 (fun K hK=>?_)
          · go_simp
            have T3:=T2.alloc zT;refine hK.out _ _ (HS.out _ [_,_] T3) fun _=>?_;clear hK K T2;simp only[st0,st1,st2];generalize V2.alloc _=V3 at*;generalize V2.heap.size=bt at*;exact hG.out bh bt V3 (T3.perm po)
        · go_simp
          have T2:=T1.alloc zT;refine hK.out _ _ (HS.out _ [_,_] T2) fun _=>?_;clear hK K T1;simp only[st0,st1,st2];generalize V1.alloc _=V2 at*;generalize V1.heap.size=bt at*;refine rdyA 12 (fun K hK=>?_)
          · go_simp
            refine(Hof.out _ [_,_] T2).mono ?_;rintro e V3 ⟨rfl,hB⟩;have T3:=T2.call hB;refine hK.out _ _ (HS.out _ [_,_] T3) fun _=>?_;clear hK K hB T2;simp only[st0,st1,st2];have hS3:=HS.out _ [_,_] T3;refine tkA 13 18 hS3 ?_;refine tkA 14 32 hS3 ?_;refine tkA 15 33 hS3 ?_;refine tkA 16 34 hS3 ?_;clear hS3;exact hG.out bh bt V3 (T3.perm po)
      · go_simp
        have T1:=T0.alloc zT;refine hK.out _ _ (HS.out _ [_] T1) fun _=>?_;clear hK K T0;simp only[st0,st1,st2];generalize V0.alloc _=V1 at*;generalize V0.heap.size=bt at*;refine wpAnyH_ready (rs:=[12,17]) (by kernel_rfl) (by simp) (AllReadyH.cons rfl (fun K hK=>?_) (AllReadyH.cons rfl (fun K hK=>?_) AllReadyH.nil))
        · go_simp
          refine(Hof.out _ [_] T1).mono ?_;rintro e V2 ⟨rfl,hB⟩;have T2:=T1.call hB;refine hK.out _ _ (HS.out _ [_] T2) fun _=>?_;clear hK K hB T1;simp only[st0,st1,st2];have hS2:=HS.out _ [_] T2;refine tkA 13 18 hS2 ?_;refine tkA 14 32 hS2 ?_;refine tkA 15 33 hS2 ?_;refine tkA 16 34 hS2 ?_;clear hS2;refine rdyA 17 (fun K hK=>?_)
          · go_simp
            have T3:=T2.alloc zH;refine hK.out _ _ (HS.out _ [_,_] T3) fun _=>?_;clear hK K T2;simp only[st0,st1,st2];generalize V2.alloc _=V3 at*;generalize V2.heap.size=bh at*;exact hG.out bh bt V3 (T3.perm po)
        · go_simp
          have T2:=T1.alloc zH;refine hK.out _ _ (HS.out _ [_,_] T2) fun _=>?_;clear hK K T1;simp only[st0,st1,st2];generalize V1.alloc _=V2 at*;generalize V1.heap.size=bh at*;refine rdyA 12 (fun K hK=>?_)
          · go_simp
            refine(Hof.out _ [_,_] T2).mono ?_;rintro e V3 ⟨rfl,hB⟩;have T3:=T2.call hB;refine hK.out _ _ (HS.out _ [_,_] T3) fun _=>?_;clear hK K hB T2;simp only[st0,st1,st2];have hS3:=HS.out _ [_,_] T3;refine tkA 13 18 hS3 ?_;refine tkA 14 32 hS3 ?_;refine tkA 15 33 hS3 ?_;refine tkA 16 34 hS3 ?_;clear hS3;exact hG.out bh bt V3 (T3.perm po)
     case h2=>
      intro bh bt V0 U0;refine rdyA 19 (fun K hK=>?_);have hth0:=U0.there1;have U1:=U0.laid [.int .u8 ha,.int .i64 hb,.int .i64 hc,.int .i64 hd] rfl;refine step_store rfl rfl 79 _ _ rfl _ 0 #[.int .u8 ha,.int .i64 hb,.int .i64 hc,.int .i64 hd] rfl rfl hth0 hszH hoH ?_;refine hK.out _ _ (HS.out _ [_,_] U1) fun _=>?_;clear hK K hth0;simp only[st0,st1,st2];generalize V0.setCells bh 0 _=V9 at*;refine rdyA 20 (fun K hK=>?_);have hth1:=U1.there2;have U2:=U1.laid2 [.int .u8 tk,.int .i64 tw,.int .u64 tm] rfl;refine step_store rfl rfl 49 _ _ rfl _ 0 #[.int .u8 tk,.int .i64 tw,.int .u64 tm] rfl rfl hth1 hszT hoT ?_;refine hK.out _ _ (HS.out _ [_,_] U2) fun _=>?_;clear hK K hth1;simp only[st0,st1,st2];have hSz:=HS.out _ [_,_] U2;refine tkA 21 10 hSz ?_;clear hSz;refine wpAnyH_done (by kernel_rfl) ?_ _;refine NoPanic.normal ?_;exact⟨rfl,bh,bt,rfl,U2⟩
    case hq=>
     intro bh bt w5 T5;have hat:=Hat.out w5 T5.below;have HT5:=uh ((T5.perm (l2:=((bh,.cells #[.int .u8 ha,.int .i64 hb,.int .i64 hc,.int .i64 hd] 79)::(bt,.cells #[.int .u8 tk,.int .i64 tw,.int .u64 tm] 49)::lr5)++(((rb,rN ao W cap lao L.length lcap)::lr)++R)) po).drop);clear T5 HS Hof;rcases hdec with hne|⟨rfl,hlt9⟩
     · have ke:(er != 0)=true:=by rw[bne_iff_ne];exact hne
       go_wp2_with fail
       go_ret;exact⟨rfl,HT5.out⟩
     · have k1:decide (x<(en:Int))=true:=decide_eq_true hlt9
       go_wp2_with fail
       go_ret;exact⟨rfl,HT5.out⟩
structure PlBase (w1:World)(tb:Nat)(L:List Ty)(lao:Option Addr)(lcap:Nat):Prop where
 tab:∃tao tcap,TabAt w1 tb tao tcap L
 fields:Fields w1
 src:Src w1 lao L.length lcap 3 (tys L)
 ty:∀t∈L,TyIn t
def PlAt (w1 w:World)(sb tb rb:Nat)(lao:Option Addr)(lcap:Nat)(L:List Ty)(W B Wr:List Nat)(X:List Blk):Prop:=
 ∃ls lr,SpIs sb tb W B ls /\ RefIs rb lao L.length lcap Wr lr /\ (∀x∈X,x.2.isCells=true) /\ Turn [] w1 (ls++(lr++X)) w
theorem PlAt.call {w1 w w':World}{sb tb rb lcap:Nat}{lao:Option Addr}{L:List Ty}{W B Wr:List Nat}{X:List Blk}(h:PlAt w1 w sb tb rb lao lcap L W B Wr X)(hB:Below w.heap.size w w'):PlAt w1 w' sb tb rb lao lcap L W B Wr X:=by
 obtain⟨ls,lr,h1,h2,h3,T⟩:=h;exact⟨ls,lr,h1,h2,h3,T.call hB⟩
theorem PlAt.drew {w1 w:World}{sb tb rb lcap:Nat}{lao:Option Addr}{L:List Ty}{W B Wr:List Nat}{X:List Blk}(h:PlAt w1 w sb tb rb lao lcap L W B Wr X):PlAt w1 w.drew sb tb rb lao lcap L W B Wr X:=by
 obtain⟨ls,lr,h1,h2,h3,T⟩:=h;exact⟨ls,lr,h1,h2,h3,T.drew⟩
theorem PlAt.below {w1 w:World}{sb tb rb lcap:Nat}{lao:Option Addr}{L:List Ty}{W B Wr:List Nat}{X:List Blk}(h:PlAt w1 w sb tb rb lao lcap L W B Wr X):Below w1.heap.size w1 w:=by
 obtain⟨ls,lr,-,-,-,T⟩:=h;exact T.below
theorem PlAt.has {w1 w:World}{sb tb rb lcap:Nat}{lao:Option Addr}{L:List Ty}{W B Wr:List Nat}{X:List Blk}(h:PlAt w1 w sb tb rb lao lcap L W B Wr X):Has w X:=by
 obtain⟨ls,lr,-,-,-,T⟩:=h;exact(T.drop.drop).has
theorem PlAt.alloc {w1 w:World}{sb tb rb lcap:Nat}{lao:Option Addr}{L:List Ty}{W B Wr:List Nat}{X:List Blk}(h:PlAt w1 w sb tb rb lao lcap L W B Wr X)(o:Obj)(ho:o.isCells=true):PlAt w1 (w.alloc o) sb tb rb lao lcap L W B Wr ((w.heap.size,o)::X):=by
 obtain⟨ls,lr,h1,h2,h3,T⟩:=h;refine⟨ls,lr,h1,h2,?_,(T.alloc o).perm po⟩;intro x hx;rcases List.mem_cons.1 hx with rfl|hx
 ·exact ho
 ·exact h3 x hx
theorem PlAt.sub {w1 w:World}{sb tb rb lcap:Nat}{lao:Option Addr}{L:List Ty}{W B Wr:List Nat}{X Y:List Blk}(h:PlAt w1 w sb tb rb lao lcap L W B Wr X)(s:Y.Sublist X):PlAt w1 w sb tb rb lao lcap L W B Wr Y:=by
 obtain⟨ls,lr,h1,h2,h3,T⟩:=h;exact⟨ls,lr,h1,h2,fun x hx=>h3 x (s.subset hx),T.sub ((List.Sublist.refl ls).append ((List.Sublist.refl lr).append s))⟩
theorem PlAt.grow {w1 w w':World}{sb tb rb lcap:Nat}{lao:Option Addr}{L:List Ty}{W B Wr:List Nat}{X Y:List Blk}(h:PlAt w1 w sb tb rb lao lcap L W B Wr X)(T':Turn [] w Y w')(hY:∀x∈Y,x.2.isCells=true):PlAt w1 w' sb tb rb lao lcap L W B Wr (Y++X):=by
 obtain⟨ls,lr,h1,h2,h3,T⟩:=h;refine⟨ls,lr,h1,h2,?_,(T.grow T').perm po⟩;intro x hx;rcases List.mem_append.1 hx with hx|hx
 ·exact hY x hx
 ·exact h3 x hx
theorem RefIs.cells {rb ln lcap:Nat}{lao:Option Addr}{W:List Nat}{l:List Blk}(h:RefIs rb lao ln lcap W l):∀x∈l,x.2.isCells=true:=by
 obtain⟨ao,cap,lr,hr,rfl⟩:=h;intro x hx;rcases List.mem_cons.1 hx with rfl|hx
 ·rfl
 ·exact hr.cells x hx
theorem spAt_of {w1 w:World}{sb a aw tb bb:Nat}{W:List Nat}{lb R:List Blk}{cw:Int}{tao:Option Addr}{tcap:Nat}{L:List Ty}(T:Turn [] w1 (arBlks a aw W cw++(spBlk sb a tb bb::lb)++R) w)(hTab:TabAt w1 tb tao tcap L)(hF:Fields w1)(hf:W.length <= 65536):SpAt w sb a aw tb W tao tcap L:=by
 have T':Turn [] w1 (arBlks a aw W cw++(spBlk sb a tb bb::(lb++R))) w:=by
  have e:arBlks a aw W cw++(spBlk sb a tb bb::lb)++R=arBlks a aw W cw++(spBlk sb a tb bb::(lb++R)):=by simp
  rw[←e];exact T
 exact⟨T'.has.cell (b:=sb) (c:=#[pt a,pt tb,pt bb]) (e:=146) (f:=(0,0)) (by simp[spBlk]) 0,
  T'.has.cell (b:=sb) (c:=#[pt a,pt tb,pt bb]) (e:=146) (f:=(0,0)) (by simp[spBlk]) 1,arBlks_at T'.has hf,hTab.below T.below,range_below hF T.below⟩
theorem new_may {L:List Ty}{id n:Int}(he:tyErr L id n=0)(hl:L.length <= 64):1 <= id /\ id <= L.length /\ 0 <= n /\ (Hd.mk 1 id.toNat n.toNat (tySize L id n)).may:=by
 unfold tyErr at he;unfold tySize
 cases hg:getTy L id with
 | none=>rw[hg]at he;exact absurd he (by simp)
 | some t=>
  rw[hg]at he;simp only at he ⊢;obtain⟨k,h1,h2,h3⟩:=getTy_some hg;obtain⟨hm,h4,h5,-⟩:=err_ok.1 he;rw[if_pos he];have h6:=slots_most hm (n:=n.toNat) (by omega);unfold Ty.size;refine⟨by omega,by omega,h4,?_⟩;unfold Hd.may;exact⟨by show 1 <= _;simp only;omega,by simp only;omega,by simp only;omega,.inl ⟨rfl,by simp only;omega,by simp only;omega⟩⟩
theorem new_fits {L:List Ty}{id n:Int}(he:tyErr L id n=0)(hl:L.length <= 64):fits L ⟨1,id.toNat,n.toNat,tySize L id n⟩:=by
 obtain⟨h1,-,h2,h3⟩:=new_may he hl;refine(fit_iff L _).1 ?_;unfold fitErr;rw[if_neg (by simpa using h3),if_neg (by simp)];have e1:((id.toNat:Nat):Int)=id:=by omega
 have e2:((n.toNat:Nat):Int)=n:=by omega
 simp only[e1,e2];rw[if_pos ⟨he,trivial⟩]
theorem one_cell {L:List Ty}{W:List Nat}{cs:List Ce}{e:Nat}(hC:Chain L W 0 cs e){c d:Ce}(hc:c∈cs)(hd:d∈cs){g:Nat}(h1:c.1 <= g)(h2:g<c.1+c.2.size)(h3:d.1 <= g)(h4:g<d.1+d.2.size):c=d:=by
 obtain⟨a,b,rfl⟩:=List.append_of_mem hc;obtain⟨k1,k2,k3⟩:=hC.split;rcases List.mem_append.1 hd with hd|hd
 · have:=k1.mem d hd
   omega
 · rcases List.mem_cons.1 hd with rfl|hd
   ·rfl
   · have:=k3.mem d hd
     omega
def PutRes (L:List Ty)(W B:List Nat)(cs:List Ce)(g id n er:Int)(W' B':List Nat)(cs':List Ce):Prop:=
 (er≠0 /\ W'=W /\ B'=B /\ cs'=cs /\ ((tyErr L id n≠0∨g<0∨((W.length/2:Nat):Int) <= g) /\ er=(if tyErr L id n≠0 then tyErr L id n else 2)∨
   tyErr L id n=0 /\ 0 <= g /\ g<(W.length/2:Nat) /\ er=3 /\ ∀c∈cs,¬takes c g.toNat (tySize L id n)))∨
 (er=0 /\ tyErr L id n=0 /\ 0 <= g /\ g<(W.length/2:Nat) /\ ∃a c b,cs=a++c::b /\ takes c g.toNat (tySize L id n) /\ W'=putW W c g.toNat ⟨1,id.toNat,n.toNat,tySize L id n⟩ /\ cs'=a++putC c g.toNat ⟨1,id.toNat,n.toNat,tySize L id n⟩++b)
theorem sput_all {w1:World}(w:World){sb tb rb lcap:Nat}{lao:Option Addr}{L:List Ty}{W B Wr:List Nat}{X:List Blk}{cs:List Ce}(hb:PlBase w1 tb L lao lcap)(hP:PlAt w1 w sb tb rb lao lcap L W B Wr X)(h:Pl L W B cs)(g id n:Int):
  Calls prog 16 #[pt sb,.int .i64 g,.int .i64 id,.int .i64 n] w fun e w'=>∃(er:Int) (W' B':List Nat) (cs':List Ce),e=.returned (.int .i64 er) /\ PutRes L W B cs g id n er W' B' cs' /\ Pl L W' B' cs' /\ PlAt w1 w' sb tb rb lao lcap L W' B' Wr X:=by
 obtain⟨tao,tcap,hTab⟩:=hb.tab;have hsm:=h.good.small;have hfew:=h.good.few;have hP':=hP;obtain⟨ls,lr,⟨a,aw,bb,cw,lb,hbit,rfl⟩,hR,hX,T⟩:=hP';have hA:=spAt_of T hTab hb.fields (by omega)
 by_cases hno:tyErr L id n≠0∨g<0∨((W.length/2:Nat):Int) <= g
 · refine(callsIn_wide.1 (sput_err_in 3 w sb a aw tb tao tcap L hA (by omega) hb.ty (by omega) g id n hno (by omega))).mono ?_
   rintro e w' ⟨rfl,hB⟩;refine⟨_,W,B,cs,rfl,.inl ⟨?_,rfl,rfl,rfl,.inl ⟨hno,rfl⟩⟩,h,hP.call hB⟩
   split
   ·assumption
   ·decide
 · have he:tyErr L id n=0:=by
     by_cases h0:tyErr L id n=0
     ·exact h0
     ·exact absurd (.inl h0) hno
   have hg0:0 <= g:=(by omega);have hg1:g<(W.length/2:Nat):=(by omega);obtain⟨h1,h2,h3,hmay⟩:=new_may he hfew;have hfit:=new_fits he hfew;obtain⟨gn,rfl⟩:∃k:Nat,g=k:=⟨g.toNat,by omega⟩;obtain⟨idn,rfl⟩:∃k:Nat,id=k:=⟨id.toNat,by omega⟩;obtain⟨nn,rfl⟩:∃k:Nat,n=k:=⟨n.toNat,by omega⟩;rw[Int.toNat_natCast,Int.toNat_natCast]at hmay hfit;refine(callsIn_wide.1 (sput_in 5 (by omega) w sb a aw tb bb tao tcap L hA hbit h.bu (Nat.le_of_eq h.bl.symm) (fun x hx=>?_) T hTab hb.fields (by omega) h.good.u64 hb.ty (by omega) cs h.good.chain gn idn nn _ he rfl hmay (by omega))).mono ?_
   · rcases List.mem_append.1 hx with hx|hx
     ·exact hR.cells x hx
     ·exact hX x hx
   · rintro e w' ⟨er,l',rfl,T',hE⟩
     rcases hE with⟨rfl,rfl,hno2⟩|⟨rfl,c,hc,ht,B',lb',cw',hset,hbit',rfl⟩
     ·exact⟨3,W,B,cs,rfl,.inl ⟨by decide,rfl,rfl,rfl,.inr ⟨he,hg0,hg1,rfl,hno2⟩⟩,h,_,lr,⟨a,aw,bb,cw,lb,hbit,rfl⟩,hR,hX,T'⟩
     · obtain⟨p,q,rfl⟩:=List.append_of_mem hc
       refine⟨0,_,B',_,rfl,.inr ⟨rfl,he,hg0,hg1,p,c,q,rfl,ht,rfl,rfl⟩,h.put hfit rfl ht hset,_,lr,⟨a,aw,bb,cw',lb',?_,rfl⟩,hR,hX,T'⟩;rw[putW_len];exact hbit'
theorem rput_all {w1:World}(w:World){sb tb rb lcap:Nat}{lao:Option Addr}{L:List Ty}{W B Ws Bs W' B':List Nat}{X:List Blk}{cs cs':List Ce}(hb:PlBase w1 tb L lao lcap)(h:Pl L W B cs)(hP:PlAt w1 w sb tb rb lao lcap L Ws Bs W X)(g id n er:Int)(hr:PutRes L W B cs g id n er W' B' cs'):
  Calls prog 135 #[pt rb,.int .i64 g,.int .i64 id,.int .i64 n] w fun e w'=>e=.returned (.int .i64 er) /\ PlAt w1 w' sb tb rb lao lcap L Ws Bs W' X:=by
 have hsm:=h.good.small;have hfew:=h.good.few;obtain⟨ls,lr,hS,hR,hX,T⟩:=hP;have T':Turn [] w1 (lr++(ls++X)) w:=T.perm po;have hback:∀(w':World) (lr':List Blk),Turn [] w1 (lr'++(ls++X)) w' -> Turn [] w1 (ls++(lr'++X)) w':=fun w' lr' V=>V.perm po;rcases hr with⟨-,rfl,-,-,⟨hno,rfl⟩|⟨he,hg0,hg1,rfl,hno⟩⟩|⟨rfl,he,hg0,hg1,p,c,q,rfl,ht,rfl,-⟩
 · refine(put9_err w hR T' hb.src hb.ty (by omega) (by omega) g id n hno).mono ?_
   rintro e w' ⟨rfl,V⟩;exact⟨rfl,ls,lr,hS,hR,hX,hback _ _ V⟩
 · obtain⟨h1,h2,h3,hmay⟩:=new_may he hfew
   obtain⟨gn,rfl⟩:∃k:Nat,g=k:=⟨g.toNat,by omega⟩;obtain⟨idn,rfl⟩:∃k:Nat,id=k:=⟨id.toNat,by omega⟩;obtain⟨nn,rfl⟩:∃k:Nat,n=k:=⟨n.toNat,by omega⟩;rw[Int.toNat_natCast,Int.toNat_natCast]at hmay;rw[Int.toNat_natCast]at hno;refine put9 w hR T' hb.src hb.ty (by omega) (by omega) h.good.u64 cs h.good.chain gn idn nn _ he rfl hmay (by omega) _ (uh fun c hc ht=>absurd ht (hno c hc)) (uh fun _ w' V=>?_);exact⟨rfl,ls,lr,hS,hR,hX,hback _ _ V⟩
 · obtain⟨h1,h2,h3,hmay⟩:=new_may he hfew
   obtain⟨gn,rfl⟩:∃k:Nat,g=k:=⟨g.toNat,by omega⟩;obtain⟨idn,rfl⟩:∃k:Nat,id=k:=⟨id.toNat,by omega⟩;obtain⟨nn,rfl⟩:∃k:Nat,n=k:=⟨n.toNat,by omega⟩;rw[Int.toNat_natCast,Int.toNat_natCast]at hmay;rw[Int.toNat_natCast]at ht;simp only[Int.toNat_natCast];refine put9 w hR T' hb.src hb.ty (by omega) (by omega) h.good.u64 (p++c::q) h.good.chain gn idn nn _ he rfl hmay (by omega) _ (uh fun d hd ht' w' l' hR' V=>?_) (uh fun hno=>absurd ht (hno c (by simp)));have hdc:d=c:=one_cell h.good.chain hd (by simp) ht'.2.1 ht'.2.2.1 ht.2.1 ht.2.2.1;subst hdc;exact⟨rfl,ls,l',hS,hR',hX,hback _ _ V⟩
def DropRes (W B:List Nat)(cs:List Ce)(g er:Int)(W' B':List Nat)(cs':List Ce):Prop:=
 (er=3 /\ W'=W /\ B'=B /\ cs'=cs /\ ∀c∈cs,¬((c.1:Int)=g /\ c.2.tag=1))∨
 (er=0 /\ ∃pre c post,cs=pre++c::post /\ (c.1:Int)=g /\ c.2.tag=1 /\ W'=dropW W pre c post /\ objs cs'=objs pre++objs post)
theorem sdrop_all {w1:World}(w:World){sb tb rb lcap:Nat}{lao:Option Addr}{L:List Ty}{W B Wr:List Nat}{X:List Blk}{cs:List Ce}(hb:PlBase w1 tb L lao lcap)(hP:PlAt w1 w sb tb rb lao lcap L W B Wr X)(h:Pl L W B cs)(g:Int):
  Calls prog 22 #[pt sb,.int .i64 g] w fun e w'=>∃(er:Int) (W' B':List Nat) (cs':List Ce),e=.returned (.int .i64 er) /\ DropRes W B cs g er W' B' cs' /\ Pl L W' B' cs' /\ PlAt w1 w' sb tb rb lao lcap L W' B' Wr X:=by
 obtain⟨tao,tcap,hTab⟩:=hb.tab;have hsm:=h.good.small;have hfew:=h.good.few;obtain⟨ls,lr,⟨a,aw,bb,cw,lb,hbit,rfl⟩,hR,hX,T⟩:=hP
 by_cases hno:∀c∈cs,¬((c.1:Int)=g /\ c.2.tag=1)
 · refine(sdrop_none w sb a aw tb bb hbit h.bu (Nat.le_of_eq h.bl.symm) T (by omega) g ?_).mono ?_
   · by_cases h1:g<0
     ·exact .inl h1
     · by_cases h2:((W.length/2:Nat):Int) <= g
       ·exact .inr (.inl h2)
       · refine .inr (.inr ?_)
         cases hbt:bitAt B g.toNat with
         | false=>rfl
         | true=>
          obtain⟨c,hc,h3,h4⟩:=h.bit (by omega) hbt;exact absurd ⟨by omega,h4⟩ (hno c hc)
   · rintro e w' ⟨rfl,V⟩
     exact⟨3,W,B,cs,rfl,.inl ⟨rfl,rfl,rfl,rfl,hno⟩,h,_,lr,⟨a,aw,bb,cw,lb,hbit,rfl⟩,hR,hX,V⟩
 · simp only[Classical.not_forall,Classical.not_not]at hno
   obtain⟨c,hc,rfl,ht⟩:=hno;have hbt:=h.bit_of hc ht;obtain⟨p,q,rfl⟩:=List.append_of_mem hc;refine(callsIn_wide.1 (sdrop_in 5 (by omega) w sb a aw tb bb tao tcap L hbit h.bu (Nat.le_of_eq h.bl.symm) (fun x hx=>?_) T hTab hb.fields (by omega) h.good.u64 hb.ty (by omega) p q c h.good.chain hbt)).mono ?_
   · rcases List.mem_append.1 hx with hx|hx
     ·exact hR.cells x hx
     ·exact hX x hx
   · rintro e w' ⟨B',lb',cw',rfl,hclr,hbit',V⟩
     obtain⟨cs',h1,h2⟩:=h.drop ht hclr;refine⟨0,_,B',cs',rfl,.inr ⟨rfl,p,c,q,rfl,rfl,ht,rfl,h2⟩,h1,_,lr,⟨a,aw,bb,cw',lb',?_,rfl⟩,hR,hX,V⟩;unfold dropW;rw[lay_len];exact hbit'
theorem rdrop_all {w1:World}(w:World){sb tb rb lcap:Nat}{lao:Option Addr}{L:List Ty}{W B Ws Bs W' B':List Nat}{X:List Blk}{cs cs':List Ce}(hb:PlBase w1 tb L lao lcap)(h:Pl L W B cs)(hP:PlAt w1 w sb tb rb lao lcap L Ws Bs W X)(g er:Int)(hr:DropRes W B cs g er W' B' cs'):
  Calls prog 136 #[pt rb,.int .i64 g] w fun e w'=>e=.returned (.int .i64 er) /\ PlAt w1 w' sb tb rb lao lcap L Ws Bs W' X:=by
 have hsm:=h.good.small;have hfew:=h.good.few;obtain⟨ls,lr,hS,hR,hX,T⟩:=hP;have T':Turn [] w1 (lr++(ls++X)) w:=T.perm po;have hback:∀(w':World) (lr':List Blk),Turn [] w1 (lr'++(ls++X)) w' -> Turn [] w1 (ls++(lr'++X)) w':=fun w' lr' V=>V.perm po;rcases hr with⟨rfl,rfl,-,-,hno⟩|⟨rfl,p,c,q,rfl,rfl,ht,rfl,-⟩
 · refine(drop9_none w hR T' hb.src hb.ty (by omega) (by omega) h.good.u64 cs h.good.chain g hno).mono ?_
   rintro e w' ⟨rfl,V⟩;exact⟨rfl,ls,lr,hS,hR,hX,hback _ _ V⟩
 · refine(drop9 w hR T' hb.src hb.ty (by omega) (by omega) h.good.u64 p q c h.good.chain ht).mono ?_
   rintro e w' ⟨rfl,l',hR',V⟩;exact⟨rfl,ls,l',hS,hR',hX,hback _ _ V⟩
theorem settle_cases (L:List Ty)(W:List Nat)(ats:List Int):(∃os,rises L W 0 os /\ ats=cesAt os)∨
  (∃os x,rises L W 0 os /\ ats[os.length]?= some x /\ (∀(i:Nat) (c:Ce),os[i]?= some c -> ats[i]?= some (c.1:Int)) /\ ∀h,objq L W x=some h -> x<(endOf 0 os:Nat)):=by
 have key:∀k,k <= ats.length -> (∃os:List Ce,os.length=k /\ rises L W 0 os /\ ∀(i:Nat) (c:Ce),os[i]?= some c -> ats[i]?= some (c.1:Int))∨
   (∃os x,rises L W 0 os /\ ats[os.length]?= some x /\ (∀(i:Nat) (c:Ce),os[i]?= some c -> ats[i]?= some (c.1:Int)) /\ ∀h,objq L W x=some h -> x<(endOf 0 os:Nat)):=by
  intro k
  induction k with
  | zero=>exact fun _=>.inl ⟨[],rfl,trivial,fun i c h=>by simp at h⟩
  | succ k ih=>
   intro hk;rcases ih (by omega)with⟨os,hl,hr,hat⟩|h
   · obtain⟨x,hx⟩:∃x,ats[k]?= some x:=⟨ats[k]'(by omega),List.getElem?_eq_getElem _⟩
     by_cases hbad:∀h,objq L W x=some h -> x<(endOf 0 os:Nat)
     ·exact .inr ⟨os,x,hr,by rw[hl];exact hx,hat,hbad⟩
     · simp only[Classical.not_forall,Int.not_lt]at hbad
       obtain⟨h,ho,hle⟩:=hbad;obtain⟨h0,hst,ht⟩:=objq_some ho;refine .inl ⟨os++[(x.toNat,h)],by simp[hl],rises_snoc.2 ⟨hr,by show endOf 0 os <= x.toNat;omega,hst,ht⟩,fun i c hc=>?_⟩
       by_cases hi:i<os.length
       · rw[List.getElem?_append_left hi]at hc
         exact hat i c hc
       · have:i=os.length:=by
           have:=(List.getElem?_eq_some_iff.1 hc).1;rw[List.length_append,List.length_singleton]at this;omega
         subst this;rw[List.getElem?_append_right (Nat.le_refl _),Nat.sub_self]at hc;obtain rfl:(x.toNat,h)=c:=(by simpa using hc);rw[hl,hx]
         congr 1
         show x=((x.toNat:Nat):Int)
         omega
   ·exact .inr h
 rcases key ats.length (Nat.le_refl _)with⟨os,hl,hr,hat⟩|h
 · refine .inl ⟨os,hr,List.ext_getElem? fun i=>?_⟩
   cases hc:os[i]? with
   | none=>
    rw[List.getElem?_eq_none_iff]at hc;rw[List.getElem?_eq_none (by omega),List.getElem?_eq_none (by rw[cesAt_len];exact hc)]
   | some c=>rw[hat i c hc,cesAt_get hc]
 ·exact .inr h
def SetRes (L:List Ty)(W B:List Nat)(cs:List Ce)(ats:List Int)(er:Int)(W' B':List Nat)(cs':List Ce):Prop:=
 (er=2 /\ W'=W /\ B'=B /\ cs'=cs /\ ∃os x,rises L W 0 os /\ ats[os.length]?= some x /\ (∀(i:Nat) (c:Ce),os[i]?= some c -> ats[i]?= some (c.1:Int)) /\ ∀h,objq L W x=some h -> x<(endOf 0 os:Nat))∨
 (er=0 /\ ∃os,rises L W 0 os /\ ats=cesAt os /\ W'=settleW (W.length/2) W os 0 /\ cs'=settleC (W.length/2) os 0)
theorem ssettle_all {w1:World}(w:World){sb tb rb lcap:Nat}{lao:Option Addr}{L:List Ty}{W B Wr:List Nat}{X la:List Blk}{cs:List Ce}(hb:PlBase w1 tb L lao lcap)(hP:PlAt w1 w sb tb rb lao lcap L W B Wr (la++X))(h:Pl L W B cs)(ats:List Int)(hlen:ats.length <= 65536)(aa:Option Addr)(acap:Nat)(hrow:Row 3 1 aa ats.length acap (ints ats) la):
  Calls prog 138 #[pt sb,.slice aa ats.length acap] w fun e w'=>∃(er:Int) (W' B':List Nat) (cs':List Ce),e=.returned (.int .i64 er) /\ SetRes L W B cs ats er W' B' cs' /\ Pl L W' B' cs' /\ PlAt w1 w' sb tb rb lao lcap L W' B' Wr (la++X):=by
 obtain⟨tao,tcap,hTab⟩:=hb.tab;have hsm:=h.good.small;have hfew:=h.good.few;obtain⟨ls,lr,⟨a,aw,bb,cw,lb,hbit,rfl⟩,hR,hX,T⟩:=hP;have hat:∀(w':World) (Y:List Blk),Turn [] w1 (Y++(lr++(la++X))) w' -> Src w' aa ats.length acap 1 (ints ats):=fun w' Y V=>hrow.src (R:=Y++(lr++X)) (V.has.perm po);rcases settle_cases L W ats with⟨os,hr,rfl⟩|⟨os,x,hr,hx,hpre,hbad⟩
 · rw[cesAt_len]at hat ⊢
   refine(ssettle w sb a aw tb bb tao tcap L hbit h.bu (Nat.le_of_eq h.bl.symm) T hTab hb.fields (by omega) h.good.u64 hb.ty (by omega) os hr aa acap hat).mono ?_;rintro e w' ⟨rfl,B',lb',cw',h1,h2,h3,h4,V⟩;refine⟨0,_,B',_,rfl,.inr ⟨rfl,os,hr,rfl,rfl,rfl⟩,h.settle hr h1 h2 h3,_,lr,⟨a,aw,bb,cw',lb',?_,rfl⟩,hR,hX,V⟩;rw[settleW_len];exact h4
 · refine(ssettle_err w sb a aw tb bb tao tcap L hbit h.bu (Nat.le_of_eq h.bl.symm) T hTab hb.fields (by omega) h.good.u64 hb.ty (by omega) ats os hr x hx hpre hbad hlen aa acap hat).mono ?_
   rintro e w' ⟨rfl,V⟩;exact⟨2,W,B,cs,rfl,.inl ⟨rfl,rfl,rfl,rfl,os,x,hr,hx,hpre,hbad⟩,h,_,lr,⟨a,aw,bb,cw,lb,hbit,rfl⟩,hR,hX,V⟩
theorem rsettle_all {w1:World}(w:World){sb tb rb lcap:Nat}{lao:Option Addr}{L:List Ty}{W B Ws Bs W' B':List Nat}{X:List Blk}{cs cs':List Ce}(hb:PlBase w1 tb L lao lcap)(h:Pl L W B cs)(hP:PlAt w1 w sb tb rb lao lcap L Ws Bs W X)(ats:List Int)(hlen:ats.length <= 65536)(aa:Option Addr)(acap:Nat)(hA:Src w1 aa ats.length acap 1 (ints ats))(er:Int)(hr:SetRes L W B cs ats er W' B' cs'):
  Calls prog 139 #[pt rb,.slice aa ats.length acap] w fun e w'=>e=.returned (.int .i64 er) /\ PlAt w1 w' sb tb rb lao lcap L Ws Bs W' X:=by
 have hsm:=h.good.small;have hfew:=h.good.few;obtain⟨ls,lr,hS,hR,hX,T⟩:=hP;have T':Turn [] w1 (lr++(ls++X)) w:=T.perm po;have hback:∀(w':World) (lr':List Blk),Turn [] w1 (lr'++(ls++X)) w' -> Turn [] w1 (ls++(lr'++X)) w':=fun w' lr' V=>V.perm po;rcases hr with⟨rfl,rfl,-,-,os,x,hr,hx,hpre,hbad⟩|⟨rfl,os,hr,rfl,rfl,-⟩
 · refine(settle9_err w hR T' hb.src hb.ty (by omega) (by omega) h.good.u64 ats os hr x hx hpre hbad hlen aa acap hA).mono ?_
   rintro e w' ⟨rfl,V⟩;exact⟨rfl,ls,lr,hS,hR,hX,hback _ _ V⟩
 · rw[cesAt_len]at hA ⊢
   refine(settle9 w hR T' hb.src hb.ty (by omega) (by omega) h.good.u64 os hr aa acap hA).mono ?_;rintro e w' ⟨rfl,l',hR',V⟩;exact⟨rfl,ls,l',hS,hR',hX,hback _ _ V⟩
section
variable {P:Program} {w:World} {o:Oper} {a:Act} {K:Act -> World -> Prop} {Q:Exit -> Act -> World -> Prop} {t e:TypeId} {size bytes:Nat} {z:Value}
 {ao ar:Option Addr} {n cap m c:Nat} {xs news:List Value} {l R:List Blk}
theorem step_append_src {ops:Array Oper}{E:Prop}(hgd:o.guard=none)(s x:Operand)(ho:o.op=.call { callee:=.builtin .append,args:=#[s,x],argTypes:=#[t,t] })(he:Elem P t e size bytes z)
  (hs:a.eval s=.slice ao n cap)(hx:a.eval x=.slice ar m c)(hrow:Row e size ao n cap xs l)(hH:Has w (l++R))(hsrc:Src w ar m c size news)(h1:∀u∈news,u.oneCell'=true)
  (h63:n+m <= maxLen)(hbytes:(n+m)*bytes <= 140737488355328)
  (h:∀ao' cap' l' w',Row e size ao' (n+m) cap' (xs++news) l' -> Turn (l++R) w (l'++R) w' -> K (a.put o.dst (.slice ao' (n+m) cap')) w'):
  if Region.wanted o (yielded ops a.tmps)=true then Oper.wp P o a w K Q else E:=by
 have hw:Region.wanted o (yielded ops a.tmps)=true:=by simp[Region.wanted,hgd]
 rw[if_pos hw];exact wp_append_src s x ho he hs hx hrow hH hsrc h1 h63 hbytes h
end
theorem ints_one (l:List Int):∀u∈ints l,u.oneCell'=true:=by
 intro u hu;unfold ints at hu;rw[List.mem_map]at hu;obtain⟨x,-,rfl⟩:=hu
 rfl
theorem PlAt.x {w1 w:World}{sb tb rb lcap:Nat}{lao:Option Addr}{L:List Ty}{W B Wr:List Nat}{X:List Blk}{b:Nat}{c:Array Value}{e:TypeId}{f:Nat×Nat}(h:PlAt w1 w sb tb rb lao lcap L W B Wr ((b,.cells c e f)::X)):w.rangeAt b 0 c.toList:=h.has.range (List.mem_cons_self ..)
theorem does_put {w1:World}(w:World){sb tb rb lcap:Nat}{lao:Option Addr}{L:List Ty}{W B:List Nat}{X:List Blk}{cs:List Ce}(hb:PlBase w1 tb L lao lcap)(hP:PlAt w1 w sb tb rb lao lcap L W B W X)(h:Pl L W B cs)(g id n:Int)(wv:Nat)(sl:Value)(_hsl:sl.oneCell'=true):
  Calls prog 55 #[pt sb,pt rb,.agg #[.int .i64 0,.int .i64 g,.int .i64 id,.int .i64 n,.int .u64 wv,sl]] w fun e w'=>e=.returned (.bool true) /\ ∃W' B' cs',Pl L W' B' cs' /\ PlAt w1 w' sb tb rb lao lcap L W' B' W' X:=by
 have HP:=uh (hP.alloc (.cells #[.int .i64 0,.int .i64 g,.int .i64 id,.int .i64 n,.int .u64 wv,sl] 118) rfl);have Hs:=uh (fun w' (V:PlAt w1 w' sb tb rb lao lcap L W B W ((w.heap.size,.cells #[.int .i64 0,.int .i64 g,.int .i64 id,.int .i64 n,.int .u64 wv,sl] 118)::X))=>sput_all w' hb V h g id n);have Hr:=uh (fun w' Ws Bs (V:PlAt w1 w' sb tb rb lao lcap L Ws Bs W ((w.heap.size,.cells #[.int .i64 0,.int .i64 g,.int .i64 id,.int .i64 n,.int .u64 wv,sl] 118)::X)) W' B' cs' er hr=>rput_all (W':=W') (B':=B') (cs':=cs') w' hb h V g id n er hr);clear hb hP h
 go_enter func55,ntmps55
 have hz:=HP.out.x;have q0:=hz 0 _ rfl
 go_upto_region 3 with fail
 refine wp_abs (fun W'=>PlAt w1 W'.drew sb tb rb lao lcap L W B W ((w.heap.size,.cells #[.int .i64 0,.int .i64 g,.int .i64 id,.int .i64 n,.int .u64 wv,sl] 118)::X)) HP.out.drew fun W1 T1=>?_;have HT1:=uh T1;have hS1:=T1.x;clear T1 HP hz q0;generalize w.heap.size=xb at*;refine wp_region_noPanic ?_;refine wp_region_listed (S:=fun W'=>W'.rangeAt xb 0 [.int .i64 0,.int .i64 g,.int .i64 id,.int .i64 n,.int .u64 wv,sl]) 18 [false,false,false,false,false,false,false,false,false,false,false,false,false,false,false,false,false,false] rfl rfl (by kernel_rfl) ?_;refine tkA 0 15 hS1 ?_;refine tkA 1 16 hS1 ?_;refine tkB 2 17 hS1 (fun w hSw=>hSw 1 _ rfl) ?_;refine tkA 3 18 hS1 ?_;refine tkB 4 19 hS1 (fun w hSw=>hSw 2 _ rfl) ?_;refine tkA 5 20 hS1 ?_;refine tkB 6 21 hS1 (fun w hSw=>hSw 3 _ rfl) ?_;refine tkA 8 23 hS1 ?_;refine tkA 9 24 hS1 ?_;refine tkB 10 25 hS1 (fun w hSw=>hSw 1 _ rfl) ?_;refine tkA 11 26 hS1 ?_;refine tkB 12 27 hS1 (fun w hSw=>hSw 2 _ rfl) ?_;refine tkA 13 28 hS1 ?_;refine tkB 14 29 hS1 (fun w hSw=>hSw 3 _ rfl) ?_;refine rdyA 7 (fun K hK=>?_)
 go_simp
 refine(Hs.out _ HT1.out).mono ?_;rintro e w2 ⟨er,W',B',cs',rfl,hres,hpl,hP2⟩;have hS2:=hP2.x;refine hK.out _ _ hS2 fun _=>?_;clear hK K;simp only[st0,st1,st2];refine rdyA 15 (fun K hK=>?_)
 go_simp
 refine(Hr.out _ _ _ hP2 W' B' cs' er hres).mono ?_;rintro e w3 ⟨rfl,hP3⟩;have hS3:=hP3.x;refine hK.out _ _ hS3 fun _=>?_;clear hK K;simp only[st0,st1,st2];refine tkA 16 31 hS3 ?_;refine tkA 17 6 hS3 ?_;refine wpAnyH_done (by kernel_rfl) ?_ _;refine NoPanic.normal ?_;have HR:=uh (⟨hpl,hP3.sub (List.sublist_cons_self ..)⟩:Pl L W' B' cs' /\ PlAt w1 w3 sb tb rb lao lcap L W' B' W' X);clear hS1 hS2 hS3 hP2 hP3 hres hpl HT1 Hs Hr
 go_wp2_with fail
 go_ret;exact⟨rfl,W',B',cs',HR.out.1,HR.out.2⟩
theorem does_drop {w1:World}(w:World){sb tb rb lcap:Nat}{lao:Option Addr}{L:List Ty}{W B:List Nat}{X:List Blk}{cs:List Ce}(hb:PlBase w1 tb L lao lcap)(hP:PlAt w1 w sb tb rb lao lcap L W B W X)(h:Pl L W B cs)(g id n:Int)(wv:Nat)(sl:Value)(_hsl:sl.oneCell'=true):
  Calls prog 55 #[pt sb,pt rb,.agg #[.int .i64 1,.int .i64 g,.int .i64 id,.int .i64 n,.int .u64 wv,sl]] w fun e w'=>e=.returned (.bool true) /\ ∃W' B' cs',Pl L W' B' cs' /\ PlAt w1 w' sb tb rb lao lcap L W' B' W' X:=by
 have HP:=uh (hP.alloc (.cells #[.int .i64 1,.int .i64 g,.int .i64 id,.int .i64 n,.int .u64 wv,sl] 118) rfl);have Hs:=uh (fun w' (V:PlAt w1 w' sb tb rb lao lcap L W B W ((w.heap.size,.cells #[.int .i64 1,.int .i64 g,.int .i64 id,.int .i64 n,.int .u64 wv,sl] 118)::X))=>sdrop_all w' hb V h g);have Hr:=uh (fun w' Ws Bs (V:PlAt w1 w' sb tb rb lao lcap L Ws Bs W ((w.heap.size,.cells #[.int .i64 1,.int .i64 g,.int .i64 id,.int .i64 n,.int .u64 wv,sl] 118)::X)) W' B' cs' er hr=>rdrop_all (W':=W') (B':=B') (cs':=cs') w' hb h V g er hr);clear hb hP h
 go_enter func55,ntmps55
 have hz:=HP.out.x;have q0:=hz 0 _ rfl
 go_upto_region 5 with fail
 refine wp_abs (fun W'=>PlAt w1 W'.drew sb tb rb lao lcap L W B W ((w.heap.size,.cells #[.int .i64 1,.int .i64 g,.int .i64 id,.int .i64 n,.int .u64 wv,sl] 118)::X)) HP.out.drew fun W1 T1=>?_;have HT1:=uh T1;have hS1:=T1.x;clear T1 HP hz q0;generalize w.heap.size=xb at*;refine wp_region_noPanic ?_;refine wp_region_listed (S:=fun W'=>W'.rangeAt xb 0 [.int .i64 1,.int .i64 g,.int .i64 id,.int .i64 n,.int .u64 wv,sl]) 10 [false,false,false,false,false,false,false,false,false,false] rfl rfl (by kernel_rfl) ?_;refine tkA 0 34 hS1 ?_;refine tkA 1 35 hS1 ?_;refine tkB 2 36 hS1 (fun w hSw=>hSw 1 _ rfl) ?_;refine tkA 4 38 hS1 ?_;refine tkA 5 39 hS1 ?_;refine tkB 6 40 hS1 (fun w hSw=>hSw 1 _ rfl) ?_;refine rdyA 3 (fun K hK=>?_)
 go_simp
 refine(Hs.out _ HT1.out).mono ?_;rintro e w2 ⟨er,W',B',cs',rfl,hres,hpl,hP2⟩;have hS2:=hP2.x;refine hK.out _ _ hS2 fun _=>?_;clear hK K;simp only[st0,st1,st2];refine rdyA 7 (fun K hK=>?_)
 go_simp
 refine(Hr.out _ _ _ hP2 W' B' cs' er hres).mono ?_;rintro e w3 ⟨rfl,hP3⟩;have hS3:=hP3.x;refine hK.out _ _ hS3 fun _=>?_;clear hK K;simp only[st0,st1,st2];refine tkA 8 42 hS3 ?_;refine tkA 9 6 hS3 ?_;refine wpAnyH_done (by kernel_rfl) ?_ _;refine NoPanic.normal ?_;have HR:=uh (⟨hpl,hP3.sub (List.sublist_cons_self ..)⟩:Pl L W' B' cs' /\ PlAt w1 w3 sb tb rb lao lcap L W' B' W' X);clear hS1 hS2 hS3 hP2 hP3 hres hpl HT1 Hs Hr
 go_wp2_with fail
 go_ret;exact⟨rfl,W',B',cs',HR.out.1,HR.out.2⟩
theorem does_settle {w1:World}(w:World){sb tb rb lcap:Nat}{lao:Option Addr}{L:List Ty}{W B:List Nat}{X:List Blk}{cs:List Ce}(hb:PlBase w1 tb L lao lcap)(hP:PlAt w1 w sb tb rb lao lcap L W B W X)(h:Pl L W B cs)(g id n:Int)(wv:Nat)(ats:List Int)(hlen:ats.length <= 65536)(aa:Option Addr)(acap:Nat)(hA:Src w1 aa ats.length acap 1 (ints ats)):
  Calls prog 55 #[pt sb,pt rb,.agg #[.int .i64 3,.int .i64 g,.int .i64 id,.int .i64 n,.int .u64 wv,.slice aa ats.length acap]] w fun e w'=>e=.returned (.bool true) /\ ∃W' B' cs',Pl L W' B' cs' /\ PlAt w1 w' sb tb rb lao lcap L W' B' W' X:=by
 have HP:=uh (hP.alloc (.cells #[.int .i64 3,.int .i64 g,.int .i64 id,.int .i64 n,.int .u64 wv,.slice aa ats.length acap] 118) rfl);have Hs:=uh (fun w' la (V:PlAt w1 w' sb tb rb lao lcap L W B W (la++((w.heap.size,.cells #[.int .i64 3,.int .i64 g,.int .i64 id,.int .i64 n,.int .u64 wv,.slice aa ats.length acap] 118)::X))) a2 c2 hr=>ssettle_all w' hb V h ats hlen a2 c2 hr);have Hr:=uh (fun w' Ws Bs (V:PlAt w1 w' sb tb rb lao lcap L Ws Bs W ((w.heap.size,.cells #[.int .i64 3,.int .i64 g,.int .i64 id,.int .i64 n,.int .u64 wv,.slice aa ats.length acap] 118)::X)) W' B' cs' er hr=>rsettle_all (W':=W') (B':=B') (cs':=cs') w' hb h V ats hlen aa acap hA er hr);have HA:=uh (fun w' (hB:Below w1.heap.size w1 w')=>hA.below hB);have H1:=uh (ints_one ats);have h63:0+ats.length <= maxLen:=by unfold maxLen;omega
 have hby:(0+ats.length)*8 <= 140737488355328:=by omega
 clear hb hP h hA
 go_enter func55,ntmps55
 have hz:=HP.out.x;have q0:=hz 0 _ rfl
 go_upto_region 17 with fail
 refine wp_abs (fun W'=>PlAt w1 W'.drew sb tb rb lao lcap L W B W ((w.heap.size,.cells #[.int .i64 3,.int .i64 g,.int .i64 id,.int .i64 n,.int .u64 wv,.slice aa ats.length acap] 118)::X)) HP.out.drew fun W1 T1=>?_;have HT1:=uh T1;have hS1:=T1.x;clear T1 HP hz q0;generalize w.heap.size=xb at*;refine wp_region_noPanic ?_;refine wp_region_listed (S:=fun W'=>W'.rangeAt xb 0 [.int .i64 3,.int .i64 g,.int .i64 id,.int .i64 n,.int .u64 wv,.slice aa ats.length acap]) 11 [false,false,false,false,false,false,false,false,false,false,false] rfl rfl (by kernel_rfl) ?_;refine tkA 0 105 hS1 ?_;refine tkA 1 106 hS1 ?_;refine tkB 2 107 hS1 (fun w hSw=>hSw 5 _ rfl) ?_;refine tkA 5 110 hS1 ?_;refine tkA 6 111 hS1 ?_;refine tkB 7 112 hS1 (fun w hSw=>hSw 5 _ rfl) ?_;refine rdyA 3 (fun K hK=>?_);obtain⟨ls,lr,hs1,hr1,hx1,T1⟩:=HT1.out;refine step_append_src rfl _ _ rfl el_int rfl rfl (Row.nil _ _) (R:=ls++(lr++((xb,.cells #[.int .i64 3,.int .i64 g,.int .i64 id,.int .i64 n,.int .u64 wv,.slice aa ats.length acap] 118)::X))) T1.has (HA.out _ HT1.out.below) H1.out h63 hby ?_;intro a2 c2 la w2 hrow T2;rw[List.nil_append]at hrow T2;rw[Nat.zero_add]at hrow ⊢
 have hP2:PlAt w1 w2 sb tb rb lao lcap L W B W (la++((xb,.cells #[.int .i64 3,.int .i64 g,.int .i64 id,.int .i64 n,.int .u64 wv,.slice aa ats.length acap] 118)::X)):=by
  refine⟨ls,lr,hs1,hr1,fun x hx=>?_,(T1.trans T2).perm po⟩;rcases List.mem_append.1 hx with hx|hx
  ·exact hrow.cells x hx
  ·exact hx1 x hx
 have hS2:=(hP2.sub (List.sublist_append_right ..)).x;refine hK.out _ _ hS2 fun _=>?_;clear hK K T1 T2 hs1 hr1 hx1;simp only[st0,st1,st2];refine rdyA 4 (fun K hK=>?_)
 go_simp
 refine(Hs.out _ _ hP2 a2 c2 hrow).mono ?_;rintro e w3 ⟨er,W',B',cs',rfl,hres,hpl,hP3⟩;have hP4:=hP3.sub (List.sublist_append_right ..);have hS3:=hP4.x;refine hK.out _ _ hS3 fun _=>?_;clear hK K;simp only[st0,st1,st2];refine rdyA 8 (fun K hK=>?_)
 go_simp
 refine(Hr.out _ _ _ hP4 W' B' cs' er hres).mono ?_;rintro e w4 ⟨rfl,hP5⟩;have hS4:=hP5.x;refine hK.out _ _ hS4 fun _=>?_;clear hK K;simp only[st0,st1,st2];refine tkA 9 114 hS4 ?_;refine tkA 10 6 hS4 ?_;refine wpAnyH_done (by kernel_rfl) ?_ _;refine NoPanic.normal ?_;have HR:=uh (⟨hpl,hP5.sub (List.sublist_cons_self ..)⟩:Pl L W' B' cs' /\ PlAt w1 w4 sb tb rb lao lcap L W' B' W' X);clear hS1 hS2 hS3 hS4 hP2 hP3 hP4 hP5 hres hpl HT1 Hs Hr HA H1 hrow
 go_wp2_with fail
 go_ret;exact⟨rfl,W',B',cs',HR.out.1,HR.out.2⟩
theorem slots9_none {w0:World}(w:World){rb lcap:Nat}{lao:Option Addr}{W:List Nat}{L:List Ty}{l R:List Blk}(hI:RefIs rb lao L.length lcap W l)(T:Turn [] w0 (l++R) w)(hS:Src w0 lao L.length lcap 3 (tys L))(hTy:∀t∈L,TyIn t)(hL:L.length <= 1000)(hf:W.length <= 65536)
  (hu:∀v∈W,v<18446744073709551616)(cs:List Ce)(hC:Chain L W 0 cs (W.length/2))(g:Int)(hno:∀c∈cs,¬((c.1:Int)=g /\ c.2.tag=1)):
  Calls prog 137 #[pt rb,.int .i64 g] w fun e w'=>e=.returned (.int .i64 0) /\ Turn [] w0 (l++R) w':=by
 obtain⟨ao0,cap0,hR⟩:=hI.at_ T.has (hS.below T.below);have Hall:=uh (all9 w hR hf hu hTy hL cs hC);have hlen:=hC.len;obtain⟨z,hz⟩:∃z:Nat,W.length/2=z:=⟨_,rfl⟩;have hzb:z <= 32768:=by omega
 rw[hz]at hlen;have HT:=uh T;have hCm:=uh (fun c (h:c∈cs)=>hC.mem c h);clear T hS hTy hu hC hR hI
 go_enter func137,ntmps137
 go_wp2_with fail
 refine Hall.out.mono ?_;rintro e w2 ⟨a11,p11,l11,rfl,hrow11,T4⟩;have HT4:=uh (HT.out.grow T4);have Hr11:=uh hrow11;clear T4 HT hrow11
 go_wp2_with fail
 have HF:=uh (fun(h:0<cs.length)=>((Hr11.out.src HT4.out.has).form (by rw[ces_length];omega)))
 go_loopw [6] (fun v6 wr=>∃i:Nat,i <= cs.length /\ v6=.int .i64 i /\ Turn [] w0 (l11++(l++R)) wr) (fun v6 _=>cs.length-(intOf v6).toNat)
 case atStart=>exact⟨0,Nat.zero_le _,by go_num,HT4.out⟩
 case round=>
  clear HT4;obtain⟨i,hi,rfl,T⟩:=hrel
  by_cases hlt:i<cs.length
  · have hlt':(i:Int)<(cs.length:Int):=by omega
    obtain⟨c,hc⟩:∃c,cs[i]?= some c:=⟨cs[i],List.getElem?_eq_getElem hlt⟩;have hn:=hno c (List.mem_of_getElem? hc);obtain⟨b,off,rfl,-⟩:=HF.out (by omega);obtain⟨d0,d1,-⟩:=(Hr11.out.src T.has).ce1 hc;obtain⟨cg,⟨xa,xb,xc,xd⟩⟩:=c;simp only at hn d0 d1;have HT2:=uh T;clear T hc
    by_cases hg:(cg:Int)=g
    · have k1:((cg:Int) == g)=true:=by rw[beq_iff_eq];exact hg
      have k2:((xa:Int) == 1)=false:=(by rw[beq_eq_false_iff_ne];intro h;exact hn ⟨hg,by omega⟩);have k3:(xa == 1)=false:=(by rw[beq_eq_false_iff_ne];intro h;exact hn ⟨hg,by omega⟩);clear hg hn hno
      go_wp2_with fail
      go_roundw
      case rel=>exact⟨i+1,by omega,by go_num,HT2.out⟩
      case measure=>simp[intOf];omega
    · have k1:((cg:Int) == g)=false:=by rw[beq_eq_false_iff_ne];exact hg
      clear hg hn hno
      go_wp2_with fail
      go_roundw
      case rel=>exact⟨i+1,by omega,by go_num,HT2.out⟩
      case measure=>simp[intOf];omega
  · have hnl:¬(i:Int)<(cs.length:Int):=by omega
    have HT2:=uh T.drop;clear T hno
    go_wp2_with fail
    go_ret;exact⟨rfl,HT2.out⟩
theorem slots_no {w1:World}(w:World){sb tb rb lcap:Nat}{lao:Option Addr}{L:List Ty}{W B Ws Bs:List Nat}{X:List Blk}{cs:List Ce}(hb:PlBase w1 tb L lao lcap)(h:Pl L W B cs)(hP:PlAt w1 w sb tb rb lao lcap L Ws Bs W X)(g:Int)(hno:∀c∈cs,¬((c.1:Int)=g /\ c.2.tag=1)):
  Calls prog 137 #[pt rb,.int .i64 g] w fun e w'=>e=.returned (.int .i64 (0:Nat)) /\ PlAt w1 w' sb tb rb lao lcap L Ws Bs W X:=by
 have hsm:=h.good.small;have hfew:=h.good.few;obtain⟨ls,lr,hS,hR,hX,T⟩:=hP;have T':Turn [] w1 (lr++(ls++X)) w:=T.perm po;refine(slots9_none w hR T' hb.src hb.ty (by omega) (by omega) h.good.u64 cs h.good.chain g hno).mono ?_;rintro e w' ⟨rfl,V⟩;exact⟨rfl,ls,lr,hS,hR,hX,V.perm po⟩
theorem slots_at {w1:World}(w:World){sb tb rb lcap:Nat}{lao:Option Addr}{L:List Ty}{W B Ws Bs:List Nat}{X:List Blk}{cs:List Ce}(hb:PlBase w1 tb L lao lcap)(h:Pl L W B cs)(hP:PlAt w1 w sb tb rb lao lcap L Ws Bs W X)(c:Ce)(hc:c∈cs)(ht:c.2.tag=1):
  Calls prog 137 #[pt rb,.int .i64 c.1] w fun e w'=>e=.returned (.int .i64 ((tyAt L c.2.typ).slots c.2.len:Nat)) /\ PlAt w1 w' sb tb rb lao lcap L Ws Bs W X:=by
 have hsm:=h.good.small;have hfew:=h.good.few;obtain⟨ls,lr,hS,hR,hX,T⟩:=hP;have T':Turn [] w1 (lr++(ls++X)) w:=T.perm po;obtain⟨p,q,rfl⟩:=List.append_of_mem hc;refine(slots9 w hR T' hb.src hb.ty (by omega) (by omega) h.good.u64 p q c h.good.chain ht).mono ?_;rintro e w' ⟨rfl,V⟩;exact⟨rfl,ls,lr,hS,hR,hX,V.perm po⟩
theorem does_out {w1:World}(w:World){sb tb rb lcap:Nat}{lao:Option Addr}{L:List Ty}{W B:List Nat}{X:List Blk}(hP:PlAt w1 w sb tb rb lao lcap L W B W X)(g id n:Int)(wv:Nat)(sl:Value)(_hsl:sl.oneCell'=true)(sv:Nat)(hno:n<0∨(sv:Int) <= n)
  (Hs:Hid (∀w',PlAt w1 w' sb tb rb lao lcap L W B W ((w.heap.size,.cells #[.int .i64 2,.int .i64 g,.int .i64 id,.int .i64 n,.int .u64 wv,sl] 118)::X) -> Calls prog 137 #[pt rb,.int .i64 g] w' fun e w2=>e=.returned (.int .i64 sv) /\
    PlAt w1 w2 sb tb rb lao lcap L W B W ((w.heap.size,.cells #[.int .i64 2,.int .i64 g,.int .i64 id,.int .i64 n,.int .u64 wv,sl] 118)::X))):
  Calls prog 55 #[pt sb,pt rb,.agg #[.int .i64 2,.int .i64 g,.int .i64 id,.int .i64 n,.int .u64 wv,sl]] w fun e w'=>e=.returned (.bool true) /\ PlAt w1 w' sb tb rb lao lcap L W B W X:=by
 have HP:=uh (hP.alloc (.cells #[.int .i64 2,.int .i64 g,.int .i64 id,.int .i64 n,.int .u64 wv,sl] 118) rfl);clear hP
 go_enter func55,ntmps55
 have hz:=HP.out.x;have q0:=hz 0 _ rfl;have q1:=hz 1 _ rfl
 go_wp2_with fail
 refine(Hs.out _ HP.out).mono ?_;rintro e w2 ⟨rfl,hP2⟩;have HP2:=uh (hP2.sub (List.sublist_cons_self ..));have q3:=hP2.x 3 _ rfl;clear hz q0 q1 HP Hs hP2
 by_cases hn:n<0
 · go_wp2_with fail
   go_ret;exact⟨rfl,HP2.out⟩
 · have hn2:(sv:Int) <= n:=by omega
   go_wp2_with fail
   go_ret;exact⟨rfl,HP2.out⟩
theorem does_lay {w1:World}(w:World){sb tb rb lcap:Nat}{lao:Option Addr}{L:List Ty}{W B:List Nat}{X:List Blk}{cs:List Ce}(hb:PlBase w1 tb L lao lcap)(hP:PlAt w1 w sb tb rb lao lcap L W B W X)(h:Pl L W B cs)(c:Ce)(hc:c∈cs)(ht:c.2.tag=1)(id:Int)(s:Nat)(hs:s<(tyAt L c.2.typ).slots c.2.len)(wv:Nat)(sl:Value)(_hsl:sl.oneCell'=true):
  Calls prog 55 #[pt sb,pt rb,.agg #[.int .i64 2,.int .i64 c.1,.int .i64 id,.int .i64 s,.int .u64 wv,sl]] w fun e w'=>e=.returned (.bool true) /\ PlAt w1 w' sb tb rb lao lcap L (W.set (2*c.1+1+s) wv) B (W.set (2*c.1+1+s) wv) X:=by
 have hsm:=h.good.small;have hfew:=h.good.few;obtain⟨tao,tcap,hTab⟩:=hb.tab;have hst:=(h.good.chain.mem c hc).2.2;have hroom:=(h.good.chain.mem c hc).2.1;have hoq:=objq_of hst ht;have hte:=stands_ty hst ht hb.ty;have hss:=(stands_slots hst ht).1;have hql:2*c.1+1+s<W.length:=by omega
 have HP:=uh (hP.alloc (.cells #[.int .i64 2,.int .i64 c.1,.int .i64 id,.int .i64 s,.int .u64 wv,sl] 118) rfl);have Hs:=uh (fun w' (V:PlAt w1 w' sb tb rb lao lcap L W B W ((w.heap.size,.cells #[.int .i64 2,.int .i64 c.1,.int .i64 id,.int .i64 s,.int .u64 wv,sl] 118)::X))=>slots_at w' hb h V c hc ht);have HO:=uh (fun w' (hB:Below w1.heap.size w1 w') aa aaw (hA:ArAt w' aa aaw W)=>sof w' (range_below hb.fields hB) hA h.good.u64 L hb.ty (by omega) tb tao tcap (hTab.below hB) (c.1:Int));rw[hoq]at HO;simp only at HO;have HV:=uh (fun w' aa aaw (n:Int) (Y:List Blk) (V:Turn [] w1 (arBlks aa aaw W n++Y) w') vb (hv:VwAt w' vb aa c.1 c.2 (tyAt L c.2.typ))=>vstore w' V (by omega) hv hte.2 hte.1 (by omega) s wv hs hql);have Hsl:=uh hs;have k1:¬(s:Int)<0:=by omega
 have k2:¬(((tyAt L c.2.typ).slots c.2.len:Nat):Int) <= (s:Int):=by omega
 have k3:decide ((((tyAt L c.2.typ).slots c.2.len:Nat):Int) <= (s:Int))=false:=decide_eq_false k2;have hgb:c.1 <= 65536:=by omega
 have hsb:s <= 65536:=by omega
 have hgi:2*(c.1:Int)+1+(s:Int)<(W.length:Int):=by omega
 have hgn:(2*(c.1:Int)+1+(s:Int)).toNat=2*c.1+1+s:=by omega
 have h63:0+W.length <= maxLen:=by unfold maxLen;omega
 have hby:(0+W.length)*8 <= 140737488355328:=by omega
 have hone:=u64s_one W;have hf:W.length <= 65536:=by omega
 clear hTab hst hroom hoq hte hss hb hP h hc
 go_enter func55,ntmps55
 have hz:=HP.out.x;have q0:=hz 0 _ rfl;have q1:=hz 1 _ rfl
 go_wp2_with fail
 refine(Hs.out _ HP.out).mono ?_;rintro e w2 ⟨rfl,hP2⟩;have HP2:=uh hP2.drew;have q3:=hP2.x 3 _ rfl;generalize w.heap.size=xb at*;clear hz q0 q1 HP Hs hP2
 go_upto_region 10 with fail
 refine wp_abs (fun W'=>PlAt w1 W'.drew sb tb rb lao lcap L W B W ((xb,.cells #[.int .i64 2,.int .i64 c.1,.int .i64 id,.int .i64 s,.int .u64 wv,sl] 118)::X)) HP2.out fun W1 T1=>?_;obtain⟨ls,lr,⟨a,aw,bb,cw,lb,hbit,rfl⟩,hR,hX,T⟩:=T1;have HT:=uh T;have HBit:=uh hbit;have HX:=uh hX;have HR:=uh hR;clear T hbit hX hR HP2 q3
 have HS:=uh (fun w' Y (V:Turn [] w1 ((arBlks a aw W cw++(spBlk sb a tb bb::lb))++(Y++((xb,.cells #[.int .i64 2,.int .i64 c.1,.int .i64 id,.int .i64 s,.int .u64 wv,sl] 118)::X))) w')=>
  (⟨V.has.cell (b:=sb) (c:=#[pt a,pt tb,pt bb]) (e:=146) (f:=(0,0)) (by simp[spBlk]) 0,
    V.has.cell (b:=sb) (c:=#[pt a,pt tb,pt bb]) (e:=146) (f:=(0,0)) (by simp[spBlk]) 1,
    V.has.range (b:=xb) (c:=#[.int .i64 2,.int .i64 c.1,.int .i64 id,.int .i64 s,.int .u64 wv,sl]) (e:=118) (f:=(0,0)) (by simp)⟩:(fun W'=>W'.cell? ⟨sb,0,none⟩=some (pt a) /\ W'.cell? ⟨sb,1,none⟩=some (pt tb) /\ W'.rangeAt xb 0 [.int .i64 2,.int .i64 c.1,.int .i64 id,.int .i64 s,.int .u64 wv,sl]) w'))
 have hS1:=HS.out _ _ HT.out
 have hA1:ArAt W1.drew a aw W:=by
  have h:=HT.out.has;rw[List.append_assoc]at h;exact arBlks_at h hf
 have HO1:=uh (HO.out _ HT.out.below a aw hA1);clear hA1 HO;refine wp_region_noPanic ?_;refine wp_region_listed (S:=fun W'=>W'.cell? ⟨sb,0,none⟩=some (pt a) /\ W'.cell? ⟨sb,1,none⟩=some (pt tb) /\ W'.rangeAt xb 0 [.int .i64 2,.int .i64 c.1,.int .i64 id,.int .i64 s,.int .u64 wv,sl]) 12 [false,false,false,false,false,false,false,false,false,false,false,false] rfl rfl (by kernel_rfl) ?_;refine tkA 0 59 hS1 ?_;refine tkA 2 61 hS1 ?_;refine tkA 4 63 hS1 ?_;refine tkB 5 64 hS1 (fun w hSw=>hSw.2.2 1 _ rfl) ?_;refine rdyA 1 (fun K hK=>?_)
 go_simp
 refine(sarena _ (a:=⟨a,0,none⟩) rfl hS1.1).mono ?_;rintro e w3 ⟨rfl,hw⟩;subst hw;refine hK.out _ _ hS1 fun _=>?_;clear hK K;simp only[st0,st1,st2];refine rdyA 3 (fun K hK=>?_)
 go_simp
 refine(stable _ (a:=⟨tb,0,none⟩) rfl hS1.2.1).mono ?_;rintro e w3 ⟨rfl,hw⟩;subst hw;refine hK.out _ _ hS1 fun _=>?_;clear hK K;simp only[st0,st1,st2];refine rdyA 6 (fun K hK=>?_)
 go_simp
 refine HO1.out.mono ?_;rintro e w4 ⟨vb,rfl,T2⟩;have T4:=(HT.out.grow T2).perm (l2:=(arBlks a aw W cw++(spBlk sb a tb bb::lb))++(((vb,.cells (viewCells a c.1 c.2 (tyAt L c.2.typ)).toArray 238)::lr)++((xb,.cells #[.int .i64 2,.int .i64 c.1,.int .i64 id,.int .i64 s,.int .u64 wv,sl] 118)::X))) po;have hS2:=HS.out _ _ T4;have HT4:=uh T4;clear T2 T4 hS1 HO1 HT;refine hK.out _ _ hS2 fun _=>?_;clear hK K;simp only[st0,st1,st2];refine tkA 7 58 hS2 ?_;refine tkA 8 66 hS2 ?_;refine tkA 9 67 hS2 ?_;refine tkA 10 8 hS2 ?_;refine tkA 11 9 hS2 ?_;refine wpAnyH_done (by kernel_rfl) ?_ _;refine NoPanic.normal ?_;have hv:VwAt w4 vb a c.1 c.2 (tyAt L c.2.typ):=HT4.out.has.range (b:=vb) (c:=(viewCells a c.1 c.2 (tyAt L c.2.typ)).toArray) (e:=238) (f:=(0,0)) (by simp);have q3:=hS2.2.2 3 _ rfl;have q4:=hS2.2.2 4 _ rfl;have HV1:=uh (HV.out w4 a aw cw ((spBlk sb a tb bb::lb)++(((vb,.cells (viewCells a c.1 c.2 (tyAt L c.2.typ)).toArray 238)::lr)++((xb,.cells #[.int .i64 2,.int .i64 c.1,.int .i64 id,.int .i64 s,.int .u64 wv,sl] 118)::X))) (by have h:=HT4.out;rw[List.append_assoc]at h;exact h) vb hv);clear hv hS2 HV HS;obtain⟨ao,cap,lr,hrow,rfl⟩:=HR.out;have Hrow:=uh hrow;clear hrow HR
 go_wp2_with (first
  | (go_at_call 50;refine HV1.out.mono ?_;rintro e w5 ⟨rfl,cw',T5⟩;have T6:=T5.perm (l2:=(rb,rN ao W cap lao L.length lcap)::lr++(arBlks a aw (W.set (2*c.1+1+s) wv) cw'++((spBlk sb a tb bb::lb)++((xb,.cells #[.int .i64 2,.int .i64 c.1,.int .i64 id,.int .i64 s,.int .u64 wv,sl] 118)::(vb,.cells (viewCells a c.1 c.2 (tyAt L c.2.typ)).toArray 238)::X)))) po;have c0:=T6.cell1 0;have T7:=T6.perm (l2:=lr++((rb,rN ao W cap lao L.length lcap)::(arBlks a aw (W.set (2*c.1+1+s) wv) cw'++((spBlk sb a tb bb::lb)++((xb,.cells #[.int .i64 2,.int .i64 c.1,.int .i64 id,.int .i64 s,.int .u64 wv,sl] 118)::(vb,.cells (viewCells a c.1 c.2 (tyAt L c.2.typ)).toArray 238)::X))))) po;have hsrc:=Hrow.out.src T7.has;have HT7:=uh T7;clear T5 T6 T7 HV1 HT4 q3 q4)
  | (at_builtin;refine wpList_append_src rfl _ _ rfl el_u64 rfl rfl (Row.nil _ _) (R:=(rb,rN ao W cap lao L.length lcap)::(lr++(arBlks a aw (W.set (2*c.1+1+s) wv) cw'++((spBlk sb a tb bb::lb)++((xb,.cells #[.int .i64 2,.int .i64 c.1,.int .i64 id,.int .i64 s,.int .u64 wv,sl] 118)::(vb,.cells (viewCells a c.1 c.2 (tyAt L c.2.typ)).toArray 238)::X))))) (HT7.out.has.perm po) hsrc hone h63 hby ?_;intro ao' cap' lr' w6 hr6 hT6;rw[Nat.zero_add,List.nil_append]at hr6;obtain⟨gb,cur,rfl,rfl,-,-⟩:=hr6.some_of (by omega);have V1:=((HT7.out.perm po).trans hT6).perm (l2:=(gb,.cells cur 47)::(rb,rN ao W cap lao L.length lcap)::(lr++(arBlks a aw (W.set (2*c.1+1+s) wv) cw'++((spBlk sb a tb bb::lb)++((xb,.cells #[.int .i64 2,.int .i64 c.1,.int .i64 id,.int .i64 s,.int .u64 wv,sl] 118)::(vb,.cells (viewCells a c.1 c.2 (tyAt L c.2.typ)).toArray 238)::X))))) po;have c1:w6.cell? ⟨gb,2*c.1+1+s,none⟩=some (.int .u64 (W[2*c.1+1+s])):=(hr6.cell (R:=(rb,rN ao W cap lao L.length lcap)::(lr++(arBlks a aw (W.set (2*c.1+1+s) wv) cw'++((spBlk sb a tb bb::lb)++((xb,.cells #[.int .i64 2,.int .i64 c.1,.int .i64 id,.int .i64 s,.int .u64 wv,sl] 118)::(vb,.cells (viewCells a c.1 c.2 (tyAt L c.2.typ)).toArray 238)::X))))) V1.has (2*c.1+1+s) (by rw[Nat.mul_one];exact hql)).trans (u64s_get (List.getElem?_eq_getElem hql));have f1:=V1.free1 (2*c.1+1+s);have e9:=V1.has.range (b:=xb) (c:=#[.int .i64 2,.int .i64 c.1,.int .i64 id,.int .i64 s,.int .u64 wv,sl]) (e:=118) (f:=(0,0)) (by simp);have e1:=e9 1 _ rfl;have e3:=e9 3 _ rfl;have e4:=e9 4 _ rfl;have V3:=V1.setCell (2*c.1+1+s) (.int .u64 wv);have c3:(w6.setCell ⟨gb,2*c.1+1+s,none⟩ (.int .u64 wv)).cell? ⟨rb,0,none⟩=some (.slice ao W.length cap):=V3.cell2 0;have f3:=V3.free2 0;have V4:=V3.swap.setCell 0 (.slice (some ⟨gb,0,none⟩) W.length cap');have HT8:=uh V4;have hr8:=hr6.set (2*c.1+1+s) (.int .u64 wv);rw[u64s_setl]at hr8;have Hr8:=uh hr8;clear V1 V3 V4 hT6 hr6 hr8 hsrc e9 HT7 Hrow c0)
  | fail)
 go_ret;refine⟨rfl,arBlks a aw (W.set (2*c.1+1+s) wv) cw'++(spBlk sb a tb bb::lb),(rb,.cells #[.slice (some ⟨gb,0,none⟩) (W.set (2*c.1+1+s) wv).length cap',.slice lao L.length lcap] 109)::[(gb,.cells (cur.setIfInBounds (2*c.1+1+s) (.int .u64 wv)) 47)],⟨a,aw,bb,cw',lb,?_,rfl⟩,⟨some ⟨gb,0,none⟩,cap',_,?_,rfl⟩,fun x hx=>HX.out x (List.mem_cons_of_mem _ hx),?_⟩
 ·rw[List.length_set];exact HBit.out
 · have h:=Hr8.out
   rw[List.length_set];exact h
 · rw[List.length_set]
   exact((HT8.out.perm (l2:=lr++((xb,.cells #[.int .i64 2,.int .i64 c.1,.int .i64 id,.int .i64 s,.int .u64 wv,sl] 118)::(vb,.cells (viewCells a c.1 c.2 (tyAt L c.2.typ)).toArray 238)::((arBlks a aw (W.set (2*c.1+1+s) wv) cw'++(spBlk sb a tb bb::lb))++((rb,.cells #[.slice (some ⟨gb,0,none⟩) W.length cap',.slice lao L.length lcap] 109)::[(gb,.cells (cur.setIfInBounds (2*c.1+1+s) (.int .u64 wv)) 47)]++X)))) po).drop).tail.tail
theorem i64_and65535 (n:Int):bits .and .i64 n 65535=n%65536:=by
 have h127:(BitVec.ofInt 64 65535).toNat=2^16-1:=by decide
 have key:(BitVec.ofInt 64 n &&& BitVec.ofInt 64 65535).toNat=(n%((2^64:Nat):Int)).toNat%2^16:=by
  rw[BitVec.toNat_and,BitVec.toNat_ofInt,h127,Nat.and_two_pow_sub_one_eq_mod]
 show IntKind.i64.wrap ((BitVec.ofInt 64 n &&& BitVec.ofInt 64 65535).toNat:Nat)=n%65536
 rw[key,IntKind.wrap_i64];omega
structure Picks (n:Int)(k q p:Nat):Prop where
 and_:bits .and .i64 n 65535=(q:Int)
 low:q <= 65535
 rem:((q:Int)).tmod (k:Int)=(p:Int)
 rem2:((q:Int))%(k:Int)=(p:Int)
 lt:p<k
theorem picks (n:Int){k:Nat}(hk:0<k):∃q p,Picks n k q p:=by
 refine⟨(n%65536).toNat,(n%65536).toNat%k,?_,by omega,tmod_nat _ _,by rw[Int.natCast_emod],Nat.mod_lt _ hk⟩;rw[i64_and65535];omega
def ats (cs:List Ce):List Nat:=(objs cs).map (·.1)
theorem ats_next {cs:List Ce}{i:Nat}{c:Ce}(h:cs[i]?= some c):ats (cs.take (i+1))=ats (cs.take i)++if c.2.tag=1 then [c.1]else []:=by
 rw[take_next h];unfold ats;rw[objs_append,List.map_append]
 congr 1
 unfold objs
 by_cases ht:c.2.tag=1
 · rw[if_pos ht,List.filter_cons_of_pos (by rw[isObj_iff];exact ht)]
   rfl
 · rw[if_neg ht,List.filter_cons_of_neg (by rw[isObj_iff];exact ht)]
   rfl
theorem ats_le (cs:List Ce)(i:Nat):(ats (cs.take i)).length <= i:=by
 unfold ats objs;rw[List.length_map];refine Nat.le_trans (List.length_filter_le ..) ?_;rw[List.length_take];omega
theorem ats_at {cs:List Ce}{p:Nat}(h:p<(ats cs).length):∃c∈cs,c.2.tag=1 /\ (ats cs)[p]?= some c.1:=by
 unfold ats at h ⊢;rw[List.length_map]at h;refine⟨(objs cs)[p],(objs_mem (List.getElem_mem h)).1,(objs_mem (List.getElem_mem h)).2,?_⟩;rw[List.getElem?_map,List.getElem?_eq_getElem h]
 rfl
theorem PlAt.turn {w1 w w':World}{sb tb rb lcap:Nat}{lao:Option Addr}{L:List Ty}{W B Wr:List Nat}{Y Y' X:List Blk}(h:PlAt w1 w sb tb rb lao lcap L W B Wr (Y++X))(T':Turn Y w Y' w')(hY:∀x∈Y',x.2.isCells=true):PlAt w1 w' sb tb rb lao lcap L W B Wr (Y'++X):=by
 obtain⟨ls,lr,h1,h2,h3,T⟩:=h;refine⟨ls,lr,h1,h2,?_,?_⟩
 · intro x hx
   rcases List.mem_append.1 hx with hx|hx
   ·exact hY x hx
   ·exact h3 x (List.mem_append_right _ hx)
 · have T2:=T.perm (l2:=Y++(ls++(lr++X))) po
   exact(T2.trans (T'.more T2.has)).perm po
theorem all_at {w1:World}(w:World){sb tb rb lcap:Nat}{lao:Option Addr}{L:List Ty}{W B Ws Bs:List Nat}{X:List Blk}{cs:List Ce}(hb:PlBase w1 tb L lao lcap)(h:Pl L W B cs)(hP:PlAt w1 w sb tb rb lao lcap L Ws Bs W X):
  Calls prog 90 #[pt rb] w fun e w'=>∃ao' cap' l,e=.returned (.slice ao' cs.length cap') /\ Row 81 5 ao' cs.length cap' (ces cs) l /\ PlAt w1 w' sb tb rb lao lcap L Ws Bs W (l++X):=by
 have hsm:=h.good.small;have hfew:=h.good.few;have hP':=hP;obtain⟨ls,lr,hS,hR,hX,T⟩:=hP';have T':Turn [] w1 (lr++(ls++X)) w:=T.perm po;obtain⟨ao,cap,hA⟩:=hR.at_ T'.has (hb.src.below T'.below);refine(all9 w hA (by omega) h.good.u64 hb.ty (by omega) cs h.good.chain).mono ?_;rintro e w' ⟨ao',cap',l,rfl,hrow,T2⟩;exact⟨ao',cap',l,rfl,hrow,hP.grow T2 hrow.cells⟩
theorem sof_at (w:World)(hF:Fields w){a aw tb:Nat}{W B:List Nat}{cs:List Ce}(hA:ArAt w a aw W){L:List Ty}(h:Pl L W B cs)(hTy:∀t∈L,TyIn t){tao:Option Addr}{tcap:Nat}(hT:TabAt w tb tao tcap L)(c:Ce)(hc:c∈cs)(ht:c.2.tag=1):
  Calls prog 49 #[pt a,pt tb,.int .i64 c.1] w fun e w'=>∃vb,e=.returned (.tuple #[pt vb,.int .i64 0]) /\ Turn [] w [(vb,.cells (viewCells a c.1 c.2 (tyAt L c.2.typ)).toArray 238)] w':=by
 have hfew:=h.good.few;have hoq:=objq_of (h.good.chain.mem c hc).2.2 ht;have h1:=sof w hF hA h.good.u64 L hTy (by omega) tb tao tcap hT (c.1:Int);rw[hoq]at h1;exact h1
theorem of8_at (w:World){W B:List Nat}{cs:List Ce}{L:List Ty}(h:Pl L W B cs)(hTy:∀t∈L,TyIn t)(ao:Option Addr)(cap:Nat)(hS:Src w ao W.length cap 1 (u64s W))(ao2:Option Addr)(cap2:Nat)(hS2:Src w ao2 L.length cap2 3 (tys L))(c:Ce)(hc:c∈cs)(ht:c.2.tag=1):
  Calls prog 194 #[.slice ao W.length cap,.slice ao2 L.length cap2,.int .i64 c.1] w fun e w'=>e=.returned (.tuple #[hdVal c.2,tyVal (tyAt L c.2.typ),.int .i64 0]) /\ Below w.heap.size w w':=by
 have hsm:=h.good.small;have hfew:=h.good.few;have hoq:=objq_of (h.good.chain.mem c hc).2.2 ht;have h1:=of8 w ao cap hS (by omega) h.good.u64 L hTy (by omega) ao2 cap2 hS2 (c.1:Int);rw[hoq]at h1;exact h1
def sumN (l:List Nat):Nat:=l.sum
theorem nats_at {l:List Nat}{i v:Nat}(h:l[i]?= some v):(nats l)[i]?= some (.int .i64 v):=by unfold nats;rw[List.getElem?_map,h];rfl
theorem same_at {a b:List Nat}(h:a.length=b.length):a=b↔∀i,i<a.length -> a[i]?= b[i]? :=by
 constructor
 ·rintro rfl i _;rfl
 · intro hi
   apply List.ext_getElem? 
   intro i
   by_cases hlt:i<a.length
   ·exact hi i hlt
   ·rw[List.getElem?_eq_none (by omega),List.getElem?_eq_none (by omega)]
structure JnAt (rb sb xb a tb:Nat)(ao:Option Addr)(wn cap:Nat)(lao:Option Addr)(ln lcap:Nat)(dk g id n:Int)(wv:Nat)(sl:Value)(a7:Option Addr)(p cg:Nat)(w:World):Prop where
 r0:w.cell? ⟨rb,0,none⟩=some (.slice ao wn cap)
 r1:w.cell? ⟨rb,1,none⟩=some (.slice lao ln lcap)
 s0:w.cell? ⟨sb,0,none⟩=some (pt a)
 s1:w.cell? ⟨sb,1,none⟩=some (pt tb)
 x:w.rangeAt xb 0 [.int .i64 dk,.int .i64 g,.int .i64 id,.int .i64 n,.int .u64 wv,sl]
 a:∃b7,a7=some ⟨b7,0,none⟩ /\ w.cell? ⟨b7,p,none⟩=some (.int .i64 cg)
theorem joins_none {w0:World}(w:World){sb tb rb lcap:Nat}{lao:Option Addr}{L:List Ty}{W B:List Nat}{X:List Blk}{cs:List Ce}(hb:PlBase w0 tb L lao lcap)(hP:PlAt w0 w sb tb rb lao lcap L W B W X)(h:Pl L W B cs)(dk g id n:Int)(wv:Nat)(sl:Value)(_hsl:sl.oneCell'=true)(hno:(ats cs).length=0):
  Calls prog 140 #[pt sb,pt rb,.agg #[.int .i64 dk,.int .i64 g,.int .i64 id,.int .i64 n,.int .u64 wv,sl]] w fun e w'=>e=.returned (.bool true) /\ PlAt w0 w' sb tb rb lao lcap L W B W X:=by
 have Hall:=uh (fun w' X' (V:PlAt w0 w' sb tb rb lao lcap L W B W X')=>all_at w' hb h V);have hsm:=h.good.small;have hlen:=h.good.chain.len;have hcl:cs.length <= 300:=by omega
 have Hle:=uh (ats_le cs);have Hnx:=uh (fun i c (hi:cs[i]?= some c)=>ats_next hi);have Hno:=uh hno;have HP:=uh (hP.alloc (.cells #[.int .i64 dk,.int .i64 g,.int .i64 id,.int .i64 n,.int .u64 wv,sl] 118) rfl);clear hb hP h hno hsm hlen
 go_enter func140,ntmps140
 go_wp2_with fail
 refine(Hall.out _ _ HP.out).mono ?_;rintro e w2 ⟨a11,p11,l11,rfl,hrow11,hP2⟩;have HP2:=uh hP2;have Hr11:=uh hrow11;generalize w.heap.size=xb at*;clear hP2 hrow11 Hall HP
 go_wp2_with fail
 go_loopw [7,9] (fun v7 v9 wr=>∃(i:Nat) (a7:Option Addr) (p7:Nat) (lat:List Blk),i <= cs.length /\ v9=.int .i64 i /\ v7=.slice a7 (ats (cs.take i)).length p7 /\ Row 3 1 a7 (ats (cs.take i)).length p7 (nats (ats (cs.take i))) lat /\ PlAt w0 wr sb tb rb lao lcap L W B W (lat++(l11++((xb,.cells #[.int .i64 dk,.int .i64 g,.int .i64 id,.int .i64 n,.int .u64 wv,sl] 118)::X)))) (fun _ v9 _=>cs.length-(intOf v9).toNat)
 case atStart=>exact⟨0,none,0,[],Nat.zero_le _,by go_num,rfl,Row.nil _ _,HP2.out⟩
 case round=>
  clear HP2;obtain⟨i,a7,p7,lat,hi,rfl,rfl,hr7,V⟩:=hrel
  by_cases hlt:i<cs.length
  · have hlt':(i:Int)<(cs.length:Int):=by omega
    obtain⟨d,hd⟩:∃c,cs[i]?= some c:=⟨cs[i],List.getElem?_eq_getElem _⟩;have hH:Has wr (l11++(lat++((xb,.cells #[.int .i64 dk,.int .i64 g,.int .i64 id,.int .i64 n,.int .u64 wv,sl] 118)::X))):=V.has.perm po;obtain⟨b,off,rfl,-⟩:=(Hr11.out.src hH).form (by rw[ces_length];omega);obtain⟨d0,d1,-⟩:=(Hr11.out.src hH).ce1 hd;have hnx:=Hnx.out i d hd;have hle:=Hle.out i;have HVV:=uh V;have Hr7:=uh hr7
    by_cases hdt:d.2.tag=1
    · rw[if_pos hdt]at hnx
      have Hnxt:=uh hnx;have k1:((d.2.tag:Int) == 1)=true:=(by rw[beq_iff_eq];omega);have k2:(d.2.tag == 1)=true:=(by rw[beq_iff_eq];exact hdt);have h63:(ats (cs.take i)).length+1 <= maxLen:=(by unfold maxLen;omega);have hb2:((ats (cs.take i)).length+1)*8 <= 140737488355328:=(by omega);clear V hr7 hnx hd hdt hH
      go_wp2_with (first
       | (at_builtin;have T3:=uh (HVV.out.alloc (.cells #[.int .i64 d.1] 3) rfl);refine wpList_append_row rfl _ _ rfl el_int rfl Hr7.out (R:=[]) (by rw[List.append_nil];exact T3.out.has.sub ((List.sublist_append_left lat _).cons _)) rfl (news:=[.int .i64 d.1]) rfl (news_of (heap_alloc_new _ _)) (by simp[Value.oneCell']) h63 hb2 ?_;intro a9 p9 l9 w4 hr9 V4 hno;have V5:=uh ((T3.out.sub (List.sublist_cons_self ..)).turn (by rw[List.append_nil,List.append_nil]at V4;exact V4) hr9.cells);have Hr9:=uh hr9;clear hr9 V4 hno)
       | fail)
      go_roundw
      case rel=>
       have hl1:(ats (cs.take (i+1))).length=(ats (cs.take i)).length+1:=(by rw[Hnxt.out];simp);refine⟨i+1,a9,p9,l9,by omega,by go_num,by rw[hl1],?_,V5.out⟩;rw[hl1,Hnxt.out,nats_append];exact Hr9.out
      case measure=>simp[intOf];omega
    · rw[if_neg hdt,List.append_nil]at hnx
      have Hnxt:=uh hnx;have k1:((d.2.tag:Int) == 1)=false:=(by rw[beq_eq_false_iff_ne];omega);have k2:(d.2.tag == 1)=false:=(by rw[beq_eq_false_iff_ne];exact hdt);clear V hr7 hnx hd hdt hH
      go_wp2_with fail
      go_roundw
      case rel=>exact⟨i+1,a7,p7,lat,by omega,by go_num,by rw[Hnxt.out],by rw[Hnxt.out];exact Hr7.out,HVV.out⟩
      case measure=>simp[intOf];omega
  · obtain rfl:i=cs.length:=by omega
    have hn0:(ats (cs.take cs.length)).length=0:=(by rw[List.take_length];exact Hno.out);rw[hn0];have HV:=uh (V.sub (Y:=X) (((List.sublist_cons_self _ X).trans (List.sublist_append_right l11 _)).trans (List.sublist_append_right lat _)));clear V hr7 hn0
    go_wp2_with fail
    go_ret;exact⟨rfl,HV.out⟩
theorem joins_some {w0:World}(w:World){sb tb rb lcap:Nat}{lao:Option Addr}{L:List Ty}{W B:List Nat}{X:List Blk}{cs:List Ce}(hb:PlBase w0 tb L lao lcap)(hP:PlAt w0 w sb tb rb lao lcap L W B W X)(h:Pl L W B cs)(dk g id n:Int)(wv:Nat)(sl:Value)(_hsl:sl.oneCell'=true)
  (k q p v:Nat)(c:Ce)(hk:(ats cs).length=k)(hq:Picks g k q p)(hc:c∈cs)(ht:c.2.tag=1)(hat:(ats cs)[p]?= some c.1)(hv:id<0 /\ v=0∨0 <= id /\ ∃qi pi d,Picks id k qi pi /\ (ats cs)[pi]?= some d /\ d <= 65536 /\ v=1048576+2*d)
  (hs:((tyAt L c.2.typ).refs c.2.len).length=0∨∃qs ps s,Picks n ((tyAt L c.2.typ).refs c.2.len).length qs ps /\ ((tyAt L c.2.typ).refs c.2.len)[ps]?= some s /\ s<(tyAt L c.2.typ).slots c.2.len)(Qp:Ending -> World -> Prop)
  (HN:Hid (∀w',((tyAt L c.2.typ).refs c.2.len).length=0 -> PlAt w0 w' sb tb rb lao lcap L W B W X -> Qp (.returned (.bool true)) w'))
  (HY:Hid (∀w' s,s<(tyAt L c.2.typ).slots c.2.len -> PlAt w0 w' sb tb rb lao lcap L (W.set (2*c.1+1+s) v) B (W.set (2*c.1+1+s) v) X -> Qp (.returned (.bool true)) w')):
  Calls prog 140 #[pt sb,pt rb,.agg #[.int .i64 dk,.int .i64 g,.int .i64 id,.int .i64 n,.int .u64 wv,sl]] w Qp:=by
 have hsm:=h.good.small;obtain⟨tao,tcap,hTab⟩:=hb.tab;have hst:=(h.good.chain.mem c hc).2.2;have hroom:=(h.good.chain.mem c hc).2.1;have hte:=stands_ty hst ht hb.ty;have hss:=(stands_slots hst ht).1;have Hall:=uh (fun w' X' (V:PlAt w0 w' sb tb rb lao lcap L W B W X')=>all_at w' hb h V);have hlen:=h.good.chain.len;have hcl:cs.length <= 300:=by omega
 have Hle:=uh (ats_le cs);have Hnx:=uh (fun i c (hi:cs[i]?= some c)=>ats_next hi);have Hk:=uh hk;have hk2:k <= 300:=by have:=ats_le cs cs.length;rw[List.take_length]at this;omega
 have hpk:=hq.lt;have HP:=uh (hP.alloc (.cells #[.int .i64 dk,.int .i64 g,.int .i64 id,.int .i64 n,.int .u64 wv,sl] 118) rfl);have HO:=uh (fun w' (hB:Below w0.heap.size w0 w') aa aaw (hA:ArAt w' aa aaw W)=>sof_at w' (range_below hb.fields hB) hA h hb.ty (hTab.below hB) c hc ht);have HO8:=uh (fun w' (hB:Below w0.heap.size w0 w') ao cap (hS:Src w' ao W.length cap 1 (u64s W))=>of8_at w' h hb.ty ao cap hS lao lcap (hb.src.below hB) c hc ht);have HV:=uh (fun s (hs:s<(tyAt L c.2.typ).slots c.2.len) w' aa aaw (n:Int) (Y:List Blk) (V:Turn [] w0 (arBlks aa aaw W n++Y) w') vb (hv:VwAt w' vb aa c.1 c.2 (tyAt L c.2.typ))=>vstore w' V (by omega) hv hte.2 hte.1 (by omega) s v hs (by omega));have HRf:=uh (fun w'=>rrefs w' (tyAt L c.2.typ) hte.2 c.2.len hte.1)
 have hrl:((tyAt L c.2.typ).refs c.2.len).length <= 65536:=by
  have h1:=refsTo_len (tyAt L c.2.typ) ((tyAt L c.2.typ).slots c.2.len);have h2:(tyAt L c.2.typ).refs c.2.len=refsTo (tyAt L c.2.typ) ((tyAt L c.2.typ).slots c.2.len):=rfl;rw[h2];omega
 have Hat:=uh hat;have Hq:=uh hq;have hszH:=sz_head;have hszT:=sz_type;have hgb:c.1 <= 65536:=by omega
 have h63:0+W.length <= maxLen:=by unfold maxLen;omega
 have hby:(0+W.length)*8 <= 140737488355328:=by omega
 have hone:=u64s_one W;have hf:W.length <= 65536:=by omega
 have Hsl:=uh (show ∀s,s<(tyAt L c.2.typ).slots c.2.len -> s <= 65536 /\ 2*c.1+1+s<W.length from fun s hs=>by omega);generalize tyAt L c.2.typ=t at*;obtain⟨tk,tw,tm⟩:=t;obtain⟨cg,⟨ca,cb,cc,cd⟩⟩:=c;simp only at ht hgb HO HO8 HV HRf hrl Hsl HN HY hs hss hroom Hat;subst ht;have hoH:=hd_one ⟨1,cb,cc,cd⟩;have hoT:=ty_one ⟨tk,tw,tm⟩;simp only at hoH hoT;generalize hsv:Ty.slots ⟨tk,tw,tm⟩ cc=sv at*;generalize hrf:Ty.refs ⟨tk,tw,tm⟩ cc=rs at*;have Hs:=uh hs;have Hv:=uh hv;clear hb hP h hTab hst hte hc hk hq hat hlen hs hv hss hroom hrf hsv
 go_enter func140,ntmps140
 go_wp2_with fail
 refine(Hall.out _ _ HP.out).mono ?_;rintro e w2 ⟨a11,p11,l11,rfl,hrow11,hP2⟩;have HP2:=uh hP2;have Hr11:=uh hrow11;generalize w.heap.size=xb at*;clear hP2 hrow11 Hall HP
 go_wp2_with fail
 go_loopw [7,9] (fun v7 v9 wr=>∃(i:Nat) (a7:Option Addr) (p7:Nat) (lat:List Blk),i <= cs.length /\ v9=.int .i64 i /\ v7=.slice a7 (ats (cs.take i)).length p7 /\ Row 3 1 a7 (ats (cs.take i)).length p7 (nats (ats (cs.take i))) lat /\ PlAt w0 wr sb tb rb lao lcap L W B W (lat++(l11++((xb,.cells #[.int .i64 dk,.int .i64 g,.int .i64 id,.int .i64 n,.int .u64 wv,sl] 118)::X)))) (fun _ v9 _=>cs.length-(intOf v9).toNat)
 case atStart=>exact⟨0,none,0,[],Nat.zero_le _,by go_num,rfl,Row.nil _ _,HP2.out⟩
 case round=>
  clear HP2;obtain⟨i,a7,p7,lat,hi,rfl,rfl,hr7,V⟩:=hrel
  by_cases hlt:i<cs.length
  · have hlt':(i:Int)<(cs.length:Int):=by omega
    obtain⟨d,hd⟩:∃c,cs[i]?= some c:=⟨cs[i],List.getElem?_eq_getElem _⟩;have hH:Has wr (l11++(lat++((xb,.cells #[.int .i64 dk,.int .i64 g,.int .i64 id,.int .i64 n,.int .u64 wv,sl] 118)::X))):=V.has.perm po;obtain⟨b,off,rfl,-⟩:=(Hr11.out.src hH).form (by rw[ces_length];omega);obtain⟨d0,d1,-⟩:=(Hr11.out.src hH).ce1 hd;have hnx:=Hnx.out i d hd;have hle:=Hle.out i;have HVV:=uh V;have Hr7:=uh hr7
    by_cases hdt:d.2.tag=1
    · rw[if_pos hdt]at hnx
      have Hnxt:=uh hnx;have k1:((d.2.tag:Int) == 1)=true:=(by rw[beq_iff_eq];omega);have k2:(d.2.tag == 1)=true:=(by rw[beq_iff_eq];exact hdt);have h63:(ats (cs.take i)).length+1 <= maxLen:=(by unfold maxLen;omega);have hb2:((ats (cs.take i)).length+1)*8 <= 140737488355328:=(by omega);clear V hr7 hnx hd hdt hH
      go_wp2_with (first
       | (at_builtin;have T3:=uh (HVV.out.alloc (.cells #[.int .i64 d.1] 3) rfl);refine wpList_append_row rfl _ _ rfl el_int rfl Hr7.out (R:=[]) (by rw[List.append_nil];exact T3.out.has.sub ((List.sublist_append_left lat _).cons _)) rfl (news:=[.int .i64 d.1]) rfl (news_of (heap_alloc_new _ _)) (by simp[Value.oneCell']) h63 hb2 ?_;intro a9 p9 l9 w4 hr9 V4 hno;have V5:=uh ((T3.out.sub (List.sublist_cons_self ..)).turn (by rw[List.append_nil,List.append_nil]at V4;exact V4) hr9.cells);have Hr9:=uh hr9;clear hr9 V4 hno)
       | fail)
      go_roundw
      case rel=>
       have hl1:(ats (cs.take (i+1))).length=(ats (cs.take i)).length+1:=(by rw[Hnxt.out];simp);refine⟨i+1,a9,p9,l9,by omega,by go_num,by rw[hl1],?_,V5.out⟩;rw[hl1,Hnxt.out,nats_append];exact Hr9.out
      case measure=>simp[intOf];omega
    · rw[if_neg hdt,List.append_nil]at hnx
      have Hnxt:=uh hnx;have k1:((d.2.tag:Int) == 1)=false:=(by rw[beq_eq_false_iff_ne];omega);have k2:(d.2.tag == 1)=false:=(by rw[beq_eq_false_iff_ne];exact hdt);clear V hr7 hnx hd hdt hH
      go_wp2_with fail
      go_roundw
      case rel=>exact⟨i+1,a7,p7,lat,by omega,by go_num,by rw[Hnxt.out],by rw[Hnxt.out];exact Hr7.out,HVV.out⟩
      case measure=>simp[intOf];omega
  · obtain rfl:i=cs.length:=by omega
    rw[List.take_length]at hr7 ⊢;rw[Hk.out]at hr7 ⊢;obtain⟨b7,cur7,rfl,hlat,-,-⟩:=hr7.some_of (by omega);obtain⟨ls,lr,⟨a,aw,bb,cw,lb,hbit,rfl⟩,hR,hX,T⟩:=V;obtain⟨ao,cap,lr,hrow,rfl⟩:=hR;have Hg7:=uh (fun w' (R:List Blk) (V:Has w' (lat++R)) p' d (hp:p'<k) (hd:(ats cs)[p']?= some d)=>(hr7.cell V p' (by omega)).trans (nats_at hd));obtain⟨M,hM⟩:∃M,M=(arBlks a aw W cw++(spBlk sb a tb bb::lb))++(((rb,rN ao W cap lao L.length lcap)::lr)++(lat++(l11++((xb,.cells #[.int .i64 dk,.int .i64 g,.int .i64 id,.int .i64 n,.int .u64 wv,sl] 118)::X)))):=⟨_,rfl⟩;rw[←hM]at T;have HM:=uh hM;have HT:=uh T;have HBit:=uh hbit;have HXc:=uh hX;have Hrow:=uh hrow
    have HS:=uh (fun w' (Y:List Blk) (V:Turn [] w0 (Y++M) w')=>by
     rw[hM]at V;have hm:w'.cell? ⟨b7,p,none⟩=some (.int .i64 cg):=Hg7.out w' (Y++((arBlks a aw W cw++(spBlk sb a tb bb::lb))++(((rb,rN ao W cap lao L.length lcap)::lr)++(l11++((xb,.cells #[.int .i64 dk,.int .i64 g,.int .i64 id,.int .i64 n,.int .u64 wv,sl] 118)::X))))) (V.has.perm po) p cg hpk Hat.out
     exact(⟨V.has.cell (b:=rb) (c:=#[.slice ao W.length cap,.slice lao L.length lcap]) (e:=109) (f:=(0,0)) (by simp) 0,
      V.has.cell (b:=rb) (c:=#[.slice ao W.length cap,.slice lao L.length lcap]) (e:=109) (f:=(0,0)) (by simp) 1,
      V.has.cell (b:=sb) (c:=#[pt a,pt tb,pt bb]) (e:=146) (f:=(0,0)) (by simp[spBlk]) 0,
      V.has.cell (b:=sb) (c:=#[pt a,pt tb,pt bb]) (e:=146) (f:=(0,0)) (by simp[spBlk]) 1,
      V.has.range (b:=xb) (c:=#[.int .i64 dk,.int .i64 g,.int .i64 id,.int .i64 n,.int .u64 wv,sl]) (e:=118) (f:=(0,0)) (by simp),⟨b7,rfl,hm⟩⟩:JnAt rb sb xb a tb ao W.length cap lao L.length lcap dk g id n wv sl (some ⟨b7,0,none⟩) p cg w'))
    have Hof:=uh (fun w' (Y:List Blk) (V:Turn [] w0 (Y++M) w')=>HO8.out w' V.below ao cap (by
     rw[hM]at V;exact hrow.src (R:=Y++((arBlks a aw W cw++(spBlk sb a tb bb::lb))++((rb,rN ao W cap lao L.length lcap)::(lat++(l11++((xb,.cells #[.int .i64 dk,.int .i64 g,.int .i64 id,.int .i64 n,.int .u64 wv,sl] 118)::X)))))) (V.has.perm po)))
    have Hid2:=uh (fun w' (Y:List Blk) (V:Turn [] w0 (Y++M) w') p' d (hp:p'<k) (hd:(ats cs)[p']?= some d)=>by
     rw[hM]at V;exact(Hg7.out w' (Y++((arBlks a aw W cw++(spBlk sb a tb bb::lb))++(((rb,rN ao W cap lao L.length lcap)::lr)++(l11++((xb,.cells #[.int .i64 dk,.int .i64 g,.int .i64 id,.int .i64 n,.int .u64 wv,sl] 118)::X))))) (V.has.perm po) p' d hp hd:w'.cell? ⟨b7,p',none⟩=some (.int .i64 d)))
    have HPl:=uh (fun w' (Y:List Blk) (V:Turn [] w0 (Y++M) w')=>by
     rw[hM]at V;exact(⟨(arBlks a aw W cw++(spBlk sb a tb bb::lb)),((rb,rN ao W cap lao L.length lcap)::lr),⟨a,aw,bb,cw,lb,hbit,rfl⟩,⟨ao,cap,lr,hrow,rfl⟩,fun x hx=>hX x (List.mem_append_right _ (List.mem_append_right _ (List.mem_cons_of_mem _ hx))),(V.perm (l2:=(Y++(lat++(l11++[(xb,.cells #[.int .i64 dk,.int .i64 g,.int .i64 id,.int .i64 n,.int .u64 wv,sl] 118)])))++((arBlks a aw W cw++(spBlk sb a tb bb::lb))++(((rb,rN ao W cap lao L.length lcap)::lr)++X))) po).drop⟩:PlAt w0 w' sb tb rb lao lcap L W B W X))
    have hS:=HS.out wr [] HT.out;have q1:=hS.x 1 _ rfl;have q2:=hS.x 2 _ rfl;obtain⟨b7',hb7,q7⟩:=hS.a
    cases hb7
    have i1:=Hq.out.and_;have i2:=Hq.out.low;have i3:=Hq.out.rem;have i4:=Hq.out.rem2;have hkn:((k:Int) == 0)=false:=(by rw[beq_eq_false_iff_ne];omega);have hkn2:(k == 0)=false:=(by rw[beq_eq_false_iff_ne];omega);have hk0:¬(k:Int)=0:=(by omega);have hk0':0<(k:Int):=(by omega);clear hr7 hlat hrow hX hbit T hM Hr11 HO8 hS Hg7
    go_upto_if 58 with fail
    clear i1 i2 i3 i4 q1 q2 q7
    go_cut [11] (fun v11 wc=>v11=.int .u64 v /\ wc=wr)
    case first=>
     rcases Hv.out with⟨hid,hv0⟩|⟨hid,qi,pi,d,hpi,hd,hd2,hv0⟩
     · have hid2:decide (0 <= id)=false:=decide_eq_false (by omega)
       have q2:=(HS.out wr [] HT.out).x 2 _ rfl
       go_wp2_with fail
       go_meet
       exact⟨by rw[hv0];rfl,rfl⟩
     · have hid2:decide (0 <= id)=true:=decide_eq_true hid
       have q2:=(HS.out wr [] HT.out).x 2 _ rfl;have q7:=Hid2.out wr [] HT.out pi d hpi.lt hd;have i1:=hpi.and_;have i2:=hpi.low;have i3:=hpi.rem;have i4:=hpi.rem2;have i5:=hpi.lt;have HA8:=uh (addr8 wr d hd2);have HV0:=uh hv0;clear hv0 hd hpi
       go_wp2_with (first
        | (go_at_call 30;refine HA8.out.mono ?_;rintro e w' ⟨rfl,hw⟩;subst hw)
        | fail)
       go_meet
       exact⟨by rw[HV0.out];first|rfl|go_num|(congr 1;omega),rfl⟩
    obtain⟨rfl,hw⟩:=hcut;subst hw;have HX1:Hid (Turn [] w0 ([]++M) _):=uh HT.out.drew;have HT2:Hid (Turn [] w0 M wc.drew):=uh HT.out.drew
    go_upto_region 14 with fail
    refine wp_abs (fun W'=>Turn [] w0 M W'.drew) HT2.out fun W1 T1=>?_;have HT1:Hid (Turn [] w0 M W1.drew):=uh T1;clear T1 HT2 HT HX1
    apply wp_mid (I:=fun bh bt w=>Turn [] w0 ((bh,.cells #[.int .u8 1,.int .i64 cb,.int .i64 cc,.int .i64 cd] 79)::(bt,.cells #[.int .u8 tk,.int .i64 tw,.int .u64 tm] 49)::(M)) w)
    case h=>
     have hS1:=HS.out _ [] HT1.out;refine wp_region_noPanic ?_;refine wp_region_listed (S:=fun W'=>JnAt rb sb xb a tb ao W.length cap lao L.length lcap dk g id n wv sl (some ⟨b7,0,none⟩) p cg W') 19 [false,false,false,false,false,false,false,false,false,false,false,false,false,false,false,false,false,false,false] rfl rfl (by kernel_rfl) ?_;refine tkA 0 70 hS1 ?_;refine tkA 1 71 hS1 ?_;refine tkA 2 72 hS1 ?_;refine tkB 3 73 hS1 (fun w hSw=>hSw.r0) ?_;refine tkA 4 74 hS1 ?_;refine tkA 5 75 hS1 ?_;refine tkA 6 76 hS1 ?_;refine tkB 7 77 hS1 (fun w hSw=>hSw.r1) ?_;refine tkA 8 78 hS1 ?_;have T0:Turn [] w0 ([]++(M)) W1.drew:=HT1.out;clear hS1;generalize W1.drew=V0 at T0 ⊢;have HT0h:=uh T0;clear T0
     apply any_mid (I:=fun bh bt V=>Turn [] w0 ((bh,zH)::(bt,zT)::(M)) V)
     case h1=>
      intro hG;have T0:=HT0h.out;refine wpAnyH_ready (rs:=[9,14,15]) (by kernel_rfl) (by simp) (AllReadyH.cons rfl (fun K hK=>?_) (AllReadyH.cons rfl (fun K hK=>?_) (AllReadyH.cons rfl (fun K hK=>?_) AllReadyH.nil)))
      · go_simp
        refine(Hof.out _ [] T0).mono ?_;rintro e V1 ⟨rfl,hB⟩;have T1:=T0.call hB;refine hK.out _ _ (HS.out _ [] T1) fun _=>?_;clear hK K hB T0;simp only[st0,st1,st2];have hS1:=HS.out _ [] T1;refine tkA 10 69 hS1 ?_;refine tkA 11 80 hS1 ?_;refine tkA 12 81 hS1 ?_;refine tkA 13 82 hS1 ?_;clear hS1;refine wpAnyH_ready (rs:=[14,15]) (by kernel_rfl) (by simp) (AllReadyH.cons rfl (fun K hK=>?_) (AllReadyH.cons rfl (fun K hK=>?_) AllReadyH.nil))
        · go_simp
          have T2:=T1.alloc zH;refine hK.out _ _ (HS.out _ [_] T2) fun _=>?_;clear hK K T1;simp only[st0,st1,st2];generalize V1.alloc _=V2 at*;generalize V1.heap.size=bh at*;refine rdyA 15 (fun K hK=>?_)
          · go_simp
            have T3:=T2.alloc zT;refine hK.out _ _ (HS.out _ [_,_] T3) fun _=>?_;clear hK K T2;simp only[st0,st1,st2];generalize V2.alloc _=V3 at*;generalize V2.heap.size=bt at*;exact hG.out bh bt V3 (T3.perm po)
        · go_simp
          have T2:=T1.alloc zT;refine hK.out _ _ (HS.out _ [_] T2) fun _=>?_;clear hK K T1;simp only[st0,st1,st2];generalize V1.alloc _=V2 at*;generalize V1.heap.size=bt at*;refine rdyA 14 (fun K hK=>?_)
          · go_simp
            have T3:=T2.alloc zH;refine hK.out _ _ (HS.out _ [_,_] T3) fun _=>?_;clear hK K T2;simp only[st0,st1,st2];generalize V2.alloc _=V3 at*;generalize V2.heap.size=bh at*;exact hG.out bh bt V3 (T3.perm po)
      · go_simp
        have T1:=T0.alloc zH;refine hK.out _ _ (HS.out _ [_] T1) fun _=>?_;clear hK K T0;simp only[st0,st1,st2];generalize V0.alloc _=V1 at*;generalize V0.heap.size=bh at*;refine wpAnyH_ready (rs:=[9,15]) (by kernel_rfl) (by simp) (AllReadyH.cons rfl (fun K hK=>?_) (AllReadyH.cons rfl (fun K hK=>?_) AllReadyH.nil))
        · go_simp
          refine(Hof.out _ [_] T1).mono ?_;rintro e V2 ⟨rfl,hB⟩;have T2:=T1.call hB;refine hK.out _ _ (HS.out _ [_] T2) fun _=>?_;clear hK K hB T1;simp only[st0,st1,st2];have hS2:=HS.out _ [_] T2;refine tkA 10 69 hS2 ?_;refine tkA 11 80 hS2 ?_;refine tkA 12 81 hS2 ?_;refine tkA 13 82 hS2 ?_;clear hS2;refine rdyA 15 (fun K hK=>?_)
          · go_simp
            have T3:=T2.alloc zT;refine hK.out _ _ (HS.out _ [_,_] T3) fun _=>?_;clear hK K T2;simp only[st0,st1,st2];generalize V2.alloc _=V3 at*;generalize V2.heap.size=bt at*;exact hG.out bh bt V3 (T3.perm po)
        · go_simp
          have T2:=T1.alloc zT;refine hK.out _ _ (HS.out _ [_,_] T2) fun _=>?_;clear hK K T1;simp only[st0,st1,st2];generalize V1.alloc _=V2 at*;generalize V1.heap.size=bt at*;refine rdyA 9 (fun K hK=>?_)
          · go_simp
            refine(Hof.out _ [_,_] T2).mono ?_;rintro e V3 ⟨rfl,hB⟩;have T3:=T2.call hB;refine hK.out _ _ (HS.out _ [_,_] T3) fun _=>?_;clear hK K hB T2;simp only[st0,st1,st2];have hS3:=HS.out _ [_,_] T3;refine tkA 10 69 hS3 ?_;refine tkA 11 80 hS3 ?_;refine tkA 12 81 hS3 ?_;refine tkA 13 82 hS3 ?_;clear hS3;exact hG.out bh bt V3 (T3.perm po)
      · go_simp
        have T1:=T0.alloc zT;refine hK.out _ _ (HS.out _ [_] T1) fun _=>?_;clear hK K T0;simp only[st0,st1,st2];generalize V0.alloc _=V1 at*;generalize V0.heap.size=bt at*;refine wpAnyH_ready (rs:=[9,14]) (by kernel_rfl) (by simp) (AllReadyH.cons rfl (fun K hK=>?_) (AllReadyH.cons rfl (fun K hK=>?_) AllReadyH.nil))
        · go_simp
          refine(Hof.out _ [_] T1).mono ?_;rintro e V2 ⟨rfl,hB⟩;have T2:=T1.call hB;refine hK.out _ _ (HS.out _ [_] T2) fun _=>?_;clear hK K hB T1;simp only[st0,st1,st2];have hS2:=HS.out _ [_] T2;refine tkA 10 69 hS2 ?_;refine tkA 11 80 hS2 ?_;refine tkA 12 81 hS2 ?_;refine tkA 13 82 hS2 ?_;clear hS2;refine rdyA 14 (fun K hK=>?_)
          · go_simp
            have T3:=T2.alloc zH;refine hK.out _ _ (HS.out _ [_,_] T3) fun _=>?_;clear hK K T2;simp only[st0,st1,st2];generalize V2.alloc _=V3 at*;generalize V2.heap.size=bh at*;exact hG.out bh bt V3 (T3.perm po)
        · go_simp
          have T2:=T1.alloc zH;refine hK.out _ _ (HS.out _ [_,_] T2) fun _=>?_;clear hK K T1;simp only[st0,st1,st2];generalize V1.alloc _=V2 at*;generalize V1.heap.size=bh at*;refine rdyA 9 (fun K hK=>?_)
          · go_simp
            refine(Hof.out _ [_,_] T2).mono ?_;rintro e V3 ⟨rfl,hB⟩;have T3:=T2.call hB;refine hK.out _ _ (HS.out _ [_,_] T3) fun _=>?_;clear hK K hB T2;simp only[st0,st1,st2];have hS3:=HS.out _ [_,_] T3;refine tkA 10 69 hS3 ?_;refine tkA 11 80 hS3 ?_;refine tkA 12 81 hS3 ?_;refine tkA 13 82 hS3 ?_;clear hS3;exact hG.out bh bt V3 (T3.perm po)
     case h2=>
      intro bh bt V0 U0;refine rdyA 16 (fun K hK=>?_);have hth0:=U0.there1;have U1:=U0.laid [.int .u8 1,.int .i64 cb,.int .i64 cc,.int .i64 cd] rfl;refine step_store rfl rfl 79 _ _ rfl _ 0 #[.int .u8 1,.int .i64 cb,.int .i64 cc,.int .i64 cd] rfl rfl hth0 hszH hoH ?_;refine hK.out _ _ (HS.out _ [_,_] U1) fun _=>?_;clear hK K hth0;simp only[st0,st1,st2];generalize V0.setCells bh 0 _=V9 at*;refine rdyA 17 (fun K hK=>?_);have hth1:=U1.there2;have U2:=U1.laid2 [.int .u8 tk,.int .i64 tw,.int .u64 tm] rfl;refine step_store rfl rfl 49 _ _ rfl _ 0 #[.int .u8 tk,.int .i64 tw,.int .u64 tm] rfl rfl hth1 hszT hoT ?_;refine hK.out _ _ (HS.out _ [_,_] U2) fun _=>?_;clear hK K hth1;simp only[st0,st1,st2];have hSz:=HS.out _ [_,_] U2;refine tkA 18 14 hSz ?_;clear hSz;refine wpAnyH_done (by kernel_rfl) ?_ _;refine NoPanic.normal ?_;exact⟨rfl,bh,bt,rfl,U2⟩
    case hq=>
     intro bh bt w5 T5;have hrT:=T5.range2;have hcc:=T5.cell1 2;have HT5:=uh T5;clear T5
     go_wp2_with (first
      | (show lW 49;refine wpList_load_mid rfl 49 _ rfl bt 0 rfl [.int .u8 tk,.int .i64 tw,.int .u64 tm] _ hrT underlying49 rfl hszT ?_)
      | fail)
     refine(HRf.out _).mono ?_;rintro e w6 ⟨a15,p15,l15,rfl,hr15,T6⟩;have T7:=HT5.out.grow T6;obtain⟨Y,hY⟩:∃Y,Y=l15++[(bh,.cells #[.int .u8 1,.int .i64 cb,.int .i64 cc,.int .i64 cd] 79),(bt,.cells #[.int .u8 tk,.int .i64 tw,.int .u64 tm] 49)]:=⟨_,rfl⟩;have T8:Turn [] w0 (Y++M) w6:=by rw[hY];exact T7.perm po
     have HT8:=uh T8;clear T6 T7 hrT hcc HT5 HRf;rcases Hs.out with hs|⟨qs,ps,s,hps,hgs,hsl2⟩
     · have k1:((rs.length:Int) == 0)=true:=by rw[beq_iff_eq];omega
       have k2:(rs.length == 0)=true:=(by rw[beq_iff_eq];exact hs);have HE:=uh (HN.out _ hs (HPl.out _ _ T8));clear hs T8 hY HN HY hr15
       go_wp2_with fail
       exact HE.out
     · have hlt:=hps.lt
       have k1:((rs.length:Int) == 0)=false:=(by rw[beq_eq_false_iff_ne];omega);have k2:(rs.length == 0)=false:=(by rw[beq_eq_false_iff_ne];omega);have k3:0<(rs.length:Int):=(by omega);have k4:¬(rs.length:Int)=0:=(by omega);obtain⟨b15,cur15,rfl,rfl,-,-⟩:=hr15.some_of (by omega);have q15:w6.cell? ⟨b15,ps,none⟩=some (.int .i64 s):=(hr15.cell (R:=[(bh,.cells #[.int .u8 1,.int .i64 cb,.int .i64 cc,.int .i64 cd] 79),(bt,.cells #[.int .u8 tk,.int .i64 tw,.int .u64 tm] 49)]++M) (by rw[hY]at T8;exact T8.has.perm po) ps (by omega)).trans (nats_at hgs);have hS8:=HS.out _ _ T8;have q3:=hS8.x 3 _ rfl;have i1:=hps.and_;have i2:=hps.low;have i3:=hps.rem;have i4:=hps.rem2;have s0:=hS8.s0;have s1:=hS8.s1;have hsl3:=Hsl.out s hsl2;have hs3:=hsl3.1;have hs4:=hsl3.2;have HE:=uh (fun w'=>HY.out w' s hsl2);have HV1:=uh (HV.out s hsl2)
       have HO1:=uh (HO.out _ T8.below a aw (by
        rw[HM.out]at T8;exact arBlks_at (n:=cw) (L:=(spBlk sb a tb bb::lb)++(Y++(((rb,rN ao W cap lao L.length lcap)::lr)++(lat++(l11++((xb,.cells #[.int .i64 dk,.int .i64 g,.int .i64 id,.int .i64 n,.int .u64 wv,sl] 118)::X)))))) (T8.has.perm po) hf))
       clear hsl3 hgs hps hsl2 HN HY HV hY hr15 T8 hS8 HO
       go_wp2_with (first
        | (go_at_call 44;refine(sarena _ (a:=⟨a,0,none⟩) rfl s0).mono ?_;rintro e w' ⟨rfl,hw⟩;subst hw)
        | (go_at_call 101;refine(stable _ (a:=⟨tb,0,none⟩) rfl s1).mono ?_;rintro e w' ⟨rfl,hw⟩;subst hw)
        | fail)
       refine HO1.out.mono ?_;rintro e w8 ⟨vb,rfl,T9⟩;have T10:=HT8.out.grow T9;obtain⟨N,hN⟩:∃N,N=(spBlk sb a tb bb::lb)++(((vb,.cells (viewCells a cg ⟨1,cb,cc,cd⟩ ⟨tk,tw,tm⟩).toArray 238)::(Y++(lat++(l11++[(xb,.cells #[.int .i64 dk,.int .i64 g,.int .i64 id,.int .i64 n,.int .u64 wv,sl] 118)]))))++X):=⟨_,rfl⟩
       have T11:Turn [] w0 (arBlks a aw W cw++(((rb,rN ao W cap lao L.length lcap)::lr)++N)) w8:=by
        rw[HM.out]at T10;rw[hN];exact T10.perm po
       have hv:VwAt w8 vb a cg ⟨1,cb,cc,cd⟩ ⟨tk,tw,tm⟩:=T10.has.range (b:=vb) (c:=(viewCells a cg ⟨1,cb,cc,cd⟩ ⟨tk,tw,tm⟩).toArray) (e:=238) (f:=(0,0)) (by simp);have HV2:=uh (HV1.out w8 a aw cw _ T11 vb hv);have HN:=uh hN;have hgi:2*(cg:Int)+1+(s:Int)<(W.length:Int):=(by omega);have hgn:(2*(cg:Int)+1+(s:Int)).toNat=2*cg+1+s:=(by omega);clear T9 T10 T11 hv hN HT8 HO1 HV1 q3 i1 i2 i3 i4 q15 s0 s1
       go_wp2_with fail
       refine HV2.out.mono ?_;rintro e w9 ⟨rfl,cw',T12⟩;have T13:=T12.perm (l2:=((rb,rN ao W cap lao L.length lcap)::(lr++(arBlks a aw (W.set (2*cg+1+s) v) cw'++N)))) po;have c0:=T13.cell1 0;have T14:=T13.perm (l2:=lr++((rb,rN ao W cap lao L.length lcap)::(arBlks a aw (W.set (2*cg+1+s) v) cw'++N))) po;have hsrc:=Hrow.out.src T14.has;have HT14:=uh T14;clear T12 T13 T14 HV2
       go_wp2_with (first
        | (at_builtin;refine wpList_append_src rfl _ _ rfl el_u64 rfl rfl (Row.nil _ _) (R:=lr++((rb,rN ao W cap lao L.length lcap)::(arBlks a aw (W.set (2*cg+1+s) v) cw'++N))) HT14.out.has hsrc hone h63 hby ?_;intro ao' cap' lr' w10 hr6 hT6;rw[Nat.zero_add,List.nil_append]at hr6;obtain⟨gb,cur,rfl,rfl,-,-⟩:=hr6.some_of (by omega);have V1:=((HT14.out).trans hT6).perm (l2:=(gb,.cells cur 47)::(rb,rN ao W cap lao L.length lcap)::(lr++(arBlks a aw (W.set (2*cg+1+s) v) cw'++N))) po;have c1:w10.cell? ⟨gb,2*cg+1+s,none⟩=some (.int .u64 (W[2*cg+1+s])):=(hr6.cell (R:=(rb,rN ao W cap lao L.length lcap)::(lr++(arBlks a aw (W.set (2*cg+1+s) v) cw'++N))) V1.has (2*cg+1+s) (by rw[Nat.mul_one];exact hs4)).trans (u64s_get (List.getElem?_eq_getElem hs4));have f1:=V1.free1 (2*cg+1+s);have V3:=V1.setCell (2*cg+1+s) (.int .u64 v);have c3:(w10.setCell ⟨gb,2*cg+1+s,none⟩ (.int .u64 v)).cell? ⟨rb,0,none⟩=some (.slice ao W.length cap):=V3.cell2 0;have f3:=V3.free2 0;have HT8:=uh (V3.swap.setCell 0 (.slice (some ⟨gb,0,none⟩) W.length cap'));have hr8:=hr6.set (2*cg+1+s) (.int .u64 v);rw[u64s_setl]at hr8;have Hr8:=uh hr8;clear V1 V3 hT6 hr6 hr8 hsrc HT14 c0)
        | fail)
       refine HE.out _ ⟨arBlks a aw (W.set (2*cg+1+s) v) cw'++(spBlk sb a tb bb::lb),(rb,.cells #[.slice (some ⟨gb,0,none⟩) (W.set (2*cg+1+s) v).length cap',.slice lao L.length lcap] 109)::[(gb,.cells (cur.setIfInBounds (2*cg+1+s) (.int .u64 v)) 47)],⟨a,aw,bb,cw',lb,?_,rfl⟩,⟨some ⟨gb,0,none⟩,cap',_,?_,rfl⟩,fun x hx=>HXc.out x (List.mem_append_right _ (List.mem_append_right _ (List.mem_cons_of_mem _ hx))),?_⟩
       ·rw[List.length_set];exact HBit.out
       · have h:=Hr8.out
         rw[List.length_set];exact h
       · rw[List.length_set]
         have h:=HT8.out;rw[HN.out]at h;exact(h.perm (l2:=(lr++((vb,.cells (viewCells a cg ⟨1,cb,cc,cd⟩ ⟨tk,tw,tm⟩).toArray 238)::(Y++(lat++(l11++[(xb,.cells #[.int .i64 dk,.int .i64 g,.int .i64 id,.int .i64 n,.int .u64 wv,sl] 118)])))))++((arBlks a aw (W.set (2*cg+1+s) v) cw'++(spBlk sb a tb bb::lb))++((rb,.cells #[.slice (some ⟨gb,0,none⟩) W.length cap',.slice lao L.length lcap] 109)::[(gb,.cells (cur.setIfInBounds (2*cg+1+s) (.int .u64 v)) 47)]++X))) po).drop
theorem does_else {w1:World}(w:World){sb tb rb lcap:Nat}{lao:Option Addr}{L:List Ty}{W B:List Nat}{X:List Blk}(hP:PlAt w1 w sb tb rb lao lcap L W B W X)(dk g id n:Int)(wv:Nat)(sl:Value)(_hsl:sl.oneCell'=true)(h0:dk≠0)(h1:dk≠1)(h2:dk≠2)(h3:dk≠3)(h5:dk≠5):
  Calls prog 55 #[pt sb,pt rb,.agg #[.int .i64 dk,.int .i64 g,.int .i64 id,.int .i64 n,.int .u64 wv,sl]] w fun e w'=>e=.returned (.bool true) /\ PlAt w1 w' sb tb rb lao lcap L W B W X:=by
 have HP:=uh (hP.alloc (.cells #[.int .i64 dk,.int .i64 g,.int .i64 id,.int .i64 n,.int .u64 wv,sl] 118) rfl);have k0:(dk == 0)=false:=by rw[beq_eq_false_iff_ne];exact h0
 have k1:(dk == 1)=false:=by rw[beq_eq_false_iff_ne];exact h1
 have k2:(dk == 2)=false:=by rw[beq_eq_false_iff_ne];exact h2
 have k3:(dk == 3)=false:=by rw[beq_eq_false_iff_ne];exact h3
 have k5:(dk == 5)=false:=by rw[beq_eq_false_iff_ne];exact h5
 clear hP
 go_enter func55,ntmps55
 have HR:=uh (HP.out.sub (List.sublist_cons_self ..));have q0:=HP.out.x 0 _ rfl;clear HP
 go_wp2_with fail
 go_ret;exact⟨rfl,HR.out⟩
theorem does_join {w1:World}(w:World){sb tb rb lcap:Nat}{lao:Option Addr}{L:List Ty}{W B:List Nat}{X:List Blk}(hP:PlAt w1 w sb tb rb lao lcap L W B W X)(g id n:Int)(wv:Nat)(sl:Value)(_hsl:sl.oneCell'=true)(Qp:Ending -> World -> Prop)
  (HJ:Hid (∀w' x,PlAt w1 w' sb tb rb lao lcap L W B W (x::X) -> Calls prog 140 #[pt sb,pt rb,.agg #[.int .i64 5,.int .i64 g,.int .i64 id,.int .i64 n,.int .u64 wv,sl]] w' fun e w2=>e=.returned (.bool true) /\ Qp (.returned (.bool true)) w2)):
  Calls prog 55 #[pt sb,pt rb,.agg #[.int .i64 5,.int .i64 g,.int .i64 id,.int .i64 n,.int .u64 wv,sl]] w Qp:=by
 have HP:=uh (hP.alloc (.cells #[.int .i64 5,.int .i64 g,.int .i64 id,.int .i64 n,.int .u64 wv,sl] 118) rfl);have hsz:(prog.info? 118).map (·.size)=some 6:=by kernel_rfl
 clear hP
 go_enter func55,ntmps55
 have HJ1:=uh (HJ.out _ _ HP.out);have hx:=HP.out.x;have q0:=hx 0 _ rfl;clear HP HJ
 go_wp2_with (first
  | (show lW 118;refine wpList_load_mid rfl 118 _ rfl w.heap.size 0 rfl [.int .i64 5,.int .i64 g,.int .i64 id,.int .i64 n,.int .u64 wv,sl] _ hx underlying118 rfl hsz ?_)
  | fail)
 refine HJ1.out.mono ?_;rintro e w2 ⟨rfl,hq⟩;have HQ:=uh hq;clear hq
 go_wp2_with fail
 exact HQ.out
theorem slot_in {L:List Ty}{W B:List Nat}{cs:List Ce}(h:Pl L W B cs){c:Ce}(hc:c∈cs)(ht:c.2.tag=1){s v:Nat}(hs:s<(tyAt L c.2.typ).slots c.2.len)(hv:v<18446744073709551616):Pl L (W.set (2*c.1+1+s) v) B cs:=by
 have hst:=(h.good.chain.mem c hc).2.2;have hss:=(stands_slots hst ht).1;exact h.slot hc (by omega) (by omega) hv
theorem refs_slot {t:Ty}{n p s:Nat}(h:(t.refs n)[p]?= some s):s<t.slots n:=by
 have h1:=List.mem_of_getElem? h;unfold Ty.refs at h1;exact List.mem_range.1 (List.mem_filter.1 h1).1
theorem joins_all {w1:World}(w:World){sb tb rb lcap:Nat}{lao:Option Addr}{L:List Ty}{W B:List Nat}{X:List Blk}{cs:List Ce}(hb:PlBase w1 tb L lao lcap)(hP:PlAt w1 w sb tb rb lao lcap L W B W X)(h:Pl L W B cs)(dk g id n:Int)(wv:Nat)(sl:Value)(_hsl:sl.oneCell'=true):
  Calls prog 140 #[pt sb,pt rb,.agg #[.int .i64 dk,.int .i64 g,.int .i64 id,.int .i64 n,.int .u64 wv,sl]] w fun e w'=>e=.returned (.bool true) /\ ∃W',Pl L W' B cs /\ PlAt w1 w' sb tb rb lao lcap L W' B W' X:=by
 by_cases h0:(ats cs).length=0
 · refine(joins_none w hb hP h dk g id n wv sl _hsl h0).mono ?_
   rintro e w' ⟨rfl,hP'⟩;exact⟨rfl,W,h,hP'⟩
 · have hk:0<(ats cs).length:=by omega
   have hsm:=h.good.small;obtain⟨q,p,hq⟩:=picks g hk;obtain⟨c,hc,ht,hat⟩:=ats_at hq.lt;have hst:=(h.good.chain.mem c hc).2.2
   obtain⟨v,hv64,hv⟩:∃v:Nat,v<18446744073709551616 /\ (id<0 /\ v=0∨0 <= id /\ ∃qi pi d,Picks id (ats cs).length qi pi /\ (ats cs)[pi]?= some d /\ d <= 65536 /\ v=1048576+2*d):=by
    by_cases hid:id<0
    ·exact⟨0,by omega,.inl ⟨hid,rfl⟩⟩
    · obtain⟨qi,pi,hpi⟩:=picks id hk
      obtain⟨d,hd,-,hatd⟩:=ats_at hpi.lt;have hdm:=h.good.chain.mem d hd;have:=hdm.2.2.pos;exact⟨1048576+2*d.1,by omega,.inr ⟨by omega,qi,pi,d.1,hpi,hatd,by omega,rfl⟩⟩
   have hs:((tyAt L c.2.typ).refs c.2.len).length=0∨∃qs ps s,Picks n ((tyAt L c.2.typ).refs c.2.len).length qs ps /\ ((tyAt L c.2.typ).refs c.2.len)[ps]?= some s /\ s<(tyAt L c.2.typ).slots c.2.len:=by
    by_cases hr:((tyAt L c.2.typ).refs c.2.len).length=0
    ·exact .inl hr
    · obtain⟨qs,ps,hps⟩:=picks n (k:=((tyAt L c.2.typ).refs c.2.len).length) (by omega)
      have hg:=List.getElem?_eq_getElem hps.lt;exact .inr ⟨qs,ps,_,hps,hg,refs_slot hg⟩
   exact joins_some w hb hP h dk g id n wv sl _hsl _ q p v c rfl hq hc ht hat hv hs _ (uh (fun w' _ hP'=>⟨rfl,W,h,hP'⟩)) (uh (fun w' s hs' hP'=>⟨rfl,_,slot_in h hc ht hs' hv64,hP'⟩))
theorem does_all {w1:World}(w:World){sb tb rb lcap:Nat}{lao:Option Addr}{L:List Ty}{W B:List Nat}{X:List Blk}{cs:List Ce}(hb:PlBase w1 tb L lao lcap)(hP:PlAt w1 w sb tb rb lao lcap L W B W X)(h:Pl L W B cs)(s:Stp)(hlen:s.ats.length <= 65536)(hw:s.w<18446744073709551616)(hA:Src w1 s.ao s.ats.length s.cap 1 (ints s.ats)):
  Calls prog 55 #[pt sb,pt rb,.agg (stCells s).toArray] w fun e w'=>e=.returned (.bool true) /\ ∃W' B' cs',Pl L W' B' cs' /\ PlAt w1 w' sb tb rb lao lcap L W' B' W' X:=by
 obtain⟨dk,g,id,n,wv,al,ao,acap⟩:=s;simp only at hlen hw hA
 show Calls _ _ #[_,_,.agg #[.int .i64 dk,.int .i64 g,.int .i64 id,.int .i64 n,.int .u64 wv,.slice ao al.length acap]] w _
 by_cases h0:dk=0
 · subst h0
   exact does_put w hb hP h g id n wv _ rfl
 by_cases h1:dk=1
 · subst h1
   exact does_drop w hb hP h g id n wv _ rfl
 by_cases h3:dk=3
 · subst h3
   exact does_settle w hb hP h g id n wv al hlen ao acap hA
 by_cases h2:dk=2
 · subst h2
   by_cases hg:∃c∈cs,(c.1:Int)=g /\ c.2.tag=1
   · obtain⟨c,hc,rfl,ht⟩:=hg
     by_cases hn:n<0∨(((tyAt L c.2.typ).slots c.2.len:Nat):Int) <= n
     · refine(does_out w hP c.1 id n wv _ rfl _ hn (uh (fun w' V=>slots_at w' hb h V c hc ht))).mono ?_
       rintro e w' ⟨rfl,hP'⟩;exact⟨rfl,W,B,cs,h,hP'⟩
     · obtain⟨s,rfl⟩:∃s:Nat,n=s:=⟨n.toNat,by omega⟩
       refine(does_lay w hb hP h c hc ht id s (by omega) wv _ rfl).mono ?_;rintro e w' ⟨rfl,hP'⟩;exact⟨rfl,_,B,cs,slot_in h hc ht (by omega) hw,hP'⟩
   · refine(does_out w hP g id n wv _ rfl 0 (by omega) (uh (fun w' V=>slots_no w' hb h V g (fun c hc hx=>hg ⟨c,hc,hx⟩)))).mono ?_
     rintro e w' ⟨rfl,hP'⟩;exact⟨rfl,W,B,cs,h,hP'⟩
 by_cases h5:dk=5
 · subst h5
   refine does_join w hP g id n wv _ rfl _ (uh (fun w' x V=>(joins_all w' hb V h 5 g id n wv _ rfl).mono ?_));rintro e w2 ⟨rfl,W',h',hP'⟩;exact⟨rfl,rfl,W',B,cs,h',hP'.sub (List.sublist_cons_self ..)⟩
 · refine(does_else w hP dk g id n wv _ rfl h0 h1 h2 h3 h5).mono ?_
   rintro e w' ⟨rfl,hP'⟩;exact⟨rfl,W,B,cs,h,hP'⟩
def PlayEnd (w w':World)(L:List Ty)(lao:Option Addr)(lcap:Nat)(e:Ending):Prop:=
 (e=.returned (.tuple #[.pointer none,.pointer none,.bool true]) /\ Below w.heap.size w w')∨
 ∃(sb rb tb:Nat) (w1:World) (W B:List Nat) (cs:List Ce),e=.returned (.tuple #[pt sb,pt rb,.bool true]) /\ Below w.heap.size w w1 /\ PlBase w1 tb L lao lcap /\ Pl L W B cs /\ PlAt w1 w' sb tb rb lao lcap L W B W []
def StIn (w:World)(s:Stp):Prop:=s.ats.length <= 65536 /\ s.w<18446744073709551616 /\ Src w s.ao s.ats.length s.cap 1 (ints s.ats)
theorem played_no (w:World)(n:Int)(L:List Ty)(lao:Option Addr)(lcap:Nat)(sao:Option Addr)(sl scap:Nat)
  (HM:Hid (Calls prog 54 #[.int .i64 n,.slice lao L.length lcap] w fun e w'=>e=.returned (.tuple #[.pointer none,.pointer none,.bool true]) /\ Below w.heap.size w w')):
  Calls prog 10 #[.int .i64 n,.slice lao L.length lcap,.slice sao sl scap] w fun e w'=>PlayEnd w w' L lao lcap e:=by
 go_enter func10,ntmps10
 go_wp2_with fail
 refine HM.out.mono ?_;rintro e w2 ⟨rfl,hB⟩;have HB:=uh hB;clear hB
 go_wp2_with fail
 refine bodyPost_ret (results_tmp3 rfl _ _ _) rfl ?_;exact .inl ⟨rfl,HB.out⟩
theorem played_ok (w:World)(hF:Fields w)(L:List Ty)(lao:Option Addr)(lcap:Nat)(hS:Src w lao L.length lcap 3 (tys L))(hTy:∀t∈L,TyIn t)(hL:L.length <= 1000)(hok:(∀t∈L,t.may) /\ L.length <= 64)(n:Nat)(hn:mayWords n)(hn6:n <= 600)
  (sao:Option Addr)(scap:Nat)(ss:List Stp)(hSt:Src w sao ss.length scap 6 (sts ss))(hsl:ss.length <= 65536)(hin:∀s∈ss,StIn w s):
  Calls prog 10 #[.int .i64 n,.slice lao L.length lcap,.slice sao ss.length scap] w fun e w'=>PlayEnd w w' L lao lcap e:=by
 have HM:=uh (made_ok w hF L lao lcap hS hTy hL hok n hn);have HPl:=uh (Pl.new (L:=L) (n:=n) hok.1 hok.2 hn6 (by have:=hn.1;omega) (by have:=hn.2.2;omega));have HB0:=uh (fun w1 tb tao tcap (hB:Below w.heap.size w w1) (hT:TabAt w1 tb tao tcap L)=>(⟨⟨tao,tcap,hT⟩,range_below hF hB,hS.below hB,hTy⟩:PlBase w1 tb L lao lcap));have HF:=uh (fun(h:0<ss.length)=>hSt.form (by rw[sts_length];omega));have HSt:=uh hSt;have Hin:=uh (fun i s (hi:ss[i]?= some s) w1 (hB:Below w.heap.size w w1)=>(⟨(hin s (List.mem_of_getElem? hi)).1,(hin s (List.mem_of_getElem? hi)).2.1,(hin s (List.mem_of_getElem? hi)).2.2.below hB⟩:StIn w1 s));have hsz:(prog.info? 118).map (·.size)=some 6:=by kernel_rfl
 clear hF hS hTy hok hn hSt hin
 go_enter func10,ntmps10
 go_wp2_with fail
 refine HM.out.mono ?_;rintro e w2 ⟨sb,rb,tb,w1,tao,tcap,ls,lr,rfl,hB1,hTab,hsp,hri,T2⟩;have Hb:=uh (HB0.out w1 tb tao tcap hB1 hTab);have HP2:=uh (⟨ls,lr,hsp,hri,fun x hx=>(by cases hx),T2.perm po⟩:PlAt w1 w2 sb tb rb lao lcap L (lay (List.replicate n 0) 0 (n/2)) (List.replicate ((n/2+63)/64) 0) (lay (List.replicate n 0) 0 (n/2)) []);have HB1:=uh hB1;clear hB1 hTab hsp hri T2 HB0 HM
 go_wp2_with fail
 go_loopw [12] (fun v12 wr=>∃(i:Nat) (W B:List Nat) (cs:List Ce),i <= ss.length /\ v12=.int .i64 i /\ Pl L W B cs /\ PlAt w1 wr sb tb rb lao lcap L W B W []) (fun v12 _=>ss.length-(intOf v12).toNat)
 case atStart=>exact⟨0,_,_,_,Nat.zero_le _,by go_num,HPl.out,HP2.out⟩
 case round=>
  clear HPl HP2;obtain⟨i,W,B,cs,hi,rfl,hpl,hP⟩:=hrel
  by_cases hlt:i<ss.length
  · have hlt':(i:Int)<(ss.length:Int):=by omega
    obtain⟨s,hs⟩:∃s,ss[i]?= some s:=⟨ss[i],List.getElem?_eq_getElem hlt⟩;obtain⟨b,off,rfl,-⟩:=HF.out (by omega);have hBw:=HB1.out.trans (hP.below.mono HB1.out.size);have hrg:wr.rangeAt b (off+i*6) (stCells s):=(HSt.out.below hBw).st hs;have hst:=Hin.out i s hs w1 HB1.out;have HD:=uh (does_all wr Hb.out hP hpl s hst.1 hst.2.1 hst.2.2);unfold stCells at HD hrg;clear hs hpl hP hst hBw
    go_wp2_with (first
     | (show lW 118;refine wpList_load_mid rfl 118 _ rfl b (off+i*6) rfl _ _ hrg underlying118 rfl hsz ?_)
     | fail)
    refine HD.out.mono ?_;rintro e w3 ⟨rfl,W',B',cs',hpl',hP'⟩;have HR:=uh (⟨hpl',hP'⟩:Pl L W' B' cs' /\ PlAt w1 w3 sb tb rb lao lcap L W' B' W' []);clear hpl' hP' HD hrg
    go_wp2_with fail
    go_roundw
    case rel=>exact⟨i+1,W',B',cs',by omega,by go_num,HR.out.1,HR.out.2⟩
    case measure=>simp[intOf];omega
  · obtain rfl:i=ss.length:=by omega
    have hnl:¬((ss.length:Nat):Int)<(ss.length:Int):=(by omega);have HR:=uh (⟨hpl,hP⟩:Pl L W B cs /\ PlAt w1 wr sb tb rb lao lcap L W B W []);clear hpl hP
    go_wp2_with fail
    refine bodyPost_ret (results_tmp3 rfl _ _ _) rfl ?_;exact .inr ⟨sb,rb,tb,w1,W,B,cs,rfl,HB1.out,Hb.out,HR.out.1,HR.out.2⟩
end
section
open Go Go.ChangeShapes Go.WideShapes Go.Deep Go.RowKit
section
variable {H:Type} {enc:TypeId×Value -> H} {P:Program} {w:World} {base:Nat} {spare:Nat -> Bool} {held:Bool}
theorem open_slice_fields {t e:TypeId}{fs:Array Field}{fuel:Nat}{cs:List Value}{x:DataW H×List MemPlace}(ht:P.underlying t=some (.slice e))(he:P.underlying e=some (.struct fs))
  (hone:oneCellFields P fs=true)(hC:P.cellsOf e=fs.size)(h:DataW.trod enc P w base spare held fuel t cs=some x):
  (cs=[.slice none 0 0] /\ x=(.nil,[]))∨
  ∃(a:Addr) (len cap m:Nat) (D:Nat -> DataW H) (Pl:Nat -> List MemPlace),cs=[.slice (some a) len cap] /\ base <= a.block /\ len <= cap /\ cap <= maxLen /\ m=(if spare a.block then cap else len) /\
   x=(.slice ((List.range len).map D) ((List.range (m-len)).map fun j=>D (len+j)),MemPlace.row a (m*fs.size)++(List.range m).flatMap Pl) /\
   ∀i,i<m -> ∃(ys:List (DataW H×List MemPlace)) (n:Nat),D i=.agg (ys.map (·.1)) /\ Pl i=ys.flatMap (·.2) /\ ys.length=fs.size /\
    ∀(j:Nat) (f:Field),fs[j]?= some f -> ∃(v:Value) (y:DataW H×List MemPlace),w.cell? (a.add (i*fs.size+j))=some v /\ ys[j]?= some y /\ DataW.trod enc P w base spare held n f.type [v]=some y:=by
 rcases open_slice ht h with h0|⟨a,len,cap,m,n,D,Pl,hcs,hb,hl,hm,hmm,hx,hi⟩
 ·exact .inl h0
 · refine .inr ⟨a,len,cap,m,D,Pl,hcs,hb,hl,hm,hmm,by rw[hC]at hx;exact hx,fun i him=>?_⟩
   obtain⟨cs',hc,ht'⟩:=hi i him;rw[hC]at hc;obtain⟨ys,n',hn',hy,hlen,hyl,hf⟩:=DataW.trod_struct he ht';obtain⟨_,hcl,hat⟩:=World.cells?_some hc;simp only[Prod.mk.injEq]at hy;refine⟨ys,n',hy.1,hy.2,hyl,fun j f hj=>?_⟩;obtain⟨ho,hk⟩:=hone_of hone j f hj;have hjl:j<fs.size:=(Array.getElem?_eq_some_iff.1 hj).1;have hcell:=hat j hjl;have hv:cs'[j]?= some (cs'[j]'(by omega)):=List.getElem?_eq_getElem (by omega);have h1:=hf j f hj;rw[ho,hk]at h1
   have hone':(cs'.drop j).take 1=[cs'[j]'(by omega)]:=by
    rw[List.drop_eq_getElem_cons (by omega)]
    rfl
   rw[hone']at h1;have hys:ys[j]?= some (ys[j]'(by omega)):=List.getElem?_eq_getElem (by omega);refine⟨_,_,?_,hys,h1.trans hys⟩;rw[←Go.Deep.add_add,hcell,hv]
end
theorem list_of {α:Type}{P:Nat -> α -> Prop}(n:Nat)(h:∀k,k<n -> ∃x,P k x):∃L:List α,L.length=n /\ ∀k x,L[k]?= some x -> P k x:=by
 induction n with
 | zero=>exact⟨[],rfl,fun k x hx=>by simp at hx⟩
 | succ n ih=>
  obtain⟨L,hl,hL⟩:=ih fun k hk=>h k (by omega);obtain⟨x,hx⟩:=h n (by omega);refine⟨L++[x],by simp[hl],fun k y hy=>?_⟩
  by_cases hk:k<n
  · rw[List.getElem?_append_left (by omega)]at hy
    exact hL k y hy
  · have hlt:=(List.getElem?_eq_some_iff.1 hy).1
    rw[List.length_append,List.length_singleton]at hlt;have hkn:k=n:=(by omega);subst hkn;rw[List.getElem?_append_right (by omega),hl,Nat.sub_self]at hy;simp at hy;rw[←hy];exact hx
end
section
open Go Go.RowKit Go.ChangeShapes Go.WideShapes Go.ChangeAt Go.Deep
theorem cells_type:prog.cellsOf 49= 3:=by kernel_rfl
theorem cells_step9:prog.cellsOf 118= 6:=by kernel_rfl
theorem bytes_int:prog.bytesOf 3= 8:=by kernel_rfl
theorem cells_int1:prog.cellsOf 3= 1:=by kernel_rfl
theorem weightsAll_in {H:Type}{P:Program}{e:TypeId}{d:DataW H}{n:Nat}(hn:n∈d.weights P e):∀{ds:List (DataW H)},d∈ds -> n∈DataW.weightsAll P e ds
 | d0::ds,hd=>by
  simp only[DataW.weightsAll,List.mem_append];rcases List.mem_cons.1 hd with rfl|hd
  ·exact .inl hn
  ·exact .inr (weightsAll_in hn hd)
theorem open_types {H:Type}{enc:TypeId×Value -> H}{w:World}{ao:Option Addr}{len cap fuel:Nat}{d:DataW H}{p:List MemPlace}
  (h:DataW.trod enc prog w 0 (fun _=>true) true fuel 22 (Value.cells (.slice ao len cap)).toList=some (d,p)):
  ∃L:List Ty,(∀t∈L,TyIn t) /\ Src w ao len cap 3 (tys L) /\ L.length=len /\ len <= cap /\ cap <= maxLen:=by
 rcases open_slice_fields underlying22 underlying49 (by kernel_rfl) cells_type h with⟨hcs,hx⟩|⟨a,len',cap',m,D,Pl,hcs,hb,hl,hm,hmm,hx,hcell⟩
 · simp[Value.cells]at hcs
   obtain⟨rfl,rfl,rfl⟩:=hcs;exact⟨[],(fun _ h=>by cases h),⟨rfl,(fun _=>⟨rfl,rfl⟩),(fun ad h=>by cases h)⟩,rfl,Nat.le_refl _,Nat.zero_le _⟩
 · simp[Value.cells]at hcs
   obtain⟨rfl,rfl,rfl⟩:=hcs;simp only[if_true]at hmm;subst hmm
   have hall:∀k,k<len -> ∃t:Ty,TyIn t /\ w.cell? (a.add (k*3))=some (.int .u8 t.kind) /\ w.cell? (a.add (k*3+1))=some (.int .i64 t.words) /\ w.cell? (a.add (k*3+2))=some (.int .u64 t.mask):=by
    intro k hk;obtain⟨ys,n,-,-,-,hf⟩:=hcell k (by omega);obtain⟨v0,y0,c0,-,t0⟩:=hf 0 _ rfl;obtain⟨v1,y1,c1,-,t1⟩:=hf 1 _ rfl;obtain⟨v2,y2,c2,-,t2⟩:=hf 2 _ rfl;obtain⟨x0,e0,-,b0⟩:=DataW.trod_int underlying5 t0;obtain⟨x1,e1,-,b1⟩:=DataW.trod_int underlying3 t1;obtain⟨x2,e2,-,b2⟩:=DataW.trod_int underlying47 t2;simp at e0 e1 e2;subst e0;subst e1;subst e2;have h0:=bounds_u8 b0;have h1:=bounds_i64 b1;have h2:=bounds_u64 b2;obtain⟨z0,rfl⟩:=Int.eq_ofNat_of_zero_le h0.1;obtain⟨z2,rfl⟩:=Int.eq_ofNat_of_zero_le h2.1;refine⟨⟨z0,x1,z2⟩,⟨?_,?_,?_,?_⟩,c0,c1,c2⟩
    ·show z0 <= 255;omega
    ·show _ <= x1;omega
    ·show x1 <= _;omega
    ·show z2<_;omega
   obtain⟨L,hL,hP⟩:=list_of len hall;refine⟨L,fun t ht=>?_,⟨by rw[tys_length,hL],(by intro h;cases h),fun ad had j u hu=>?_⟩,hL,hl,hm⟩
   · obtain⟨k,hk⟩:=List.getElem?_of_mem ht
     exact(hP k t hk).1
   · cases had
     have hjl:j<L.length*3:=(by rw[←tys_length];exact(List.getElem?_eq_some_iff.1 hu).1);have hj:j=j/3*3+j%3:=(Nat.div_add_mod' j 3).symm;have h3:j%3<3:=Nat.mod_lt _ (by omega);obtain⟨t,ht⟩:∃t,L[j/3]?= some t:=⟨L[j/3]'(by omega),List.getElem?_eq_getElem _⟩;obtain⟨-,q0,q1,q2⟩:=hP _ t ht;rw[hj,tys_get ht h3]at hu;rw[hj];have hc:j%3=0∨j%3=1∨j%3=2:=(by omega);rcases hc with e|e|e<;>rw[e]at hu ⊢ <;>cases hu
     ·exact q0
     ·exact q1
     ·exact q2
theorem open_steps9 {H:Type}{enc:TypeId×Value -> H}{w:World}{ao:Option Addr}{len cap fuel:Nat}{d:DataW H}{p:List MemPlace}
  (h:DataW.trod enc prog w 0 (fun _=>true) true fuel 23 (Value.cells (.slice ao len cap)).toList=some (d,p))(hw:∀n∈d.weights prog 23,n <= reachBytes):
  ∃ss:List Stp,Src w ao len cap 6 (sts ss) /\ ss.length=len /\ len <= maxLen /\ ∀s∈ss,s.w<18446744073709551616 /\ Src w s.ao s.ats.length s.cap 1 (ints s.ats) /\ s.ats.length <= 17592186044416:=by
 rcases open_slice_fields underlying23 underlying118 (by kernel_rfl) cells_step9 h with⟨hcs,hx⟩|⟨a,len',cap',m,D,Pl,hcs,hb,hl,hm,hmm,hx,hcell⟩
 · simp[Value.cells]at hcs
   obtain⟨rfl,rfl,rfl⟩:=hcs;exact⟨[],⟨rfl,(fun _=>⟨rfl,rfl⟩),(fun ad h=>by cases h)⟩,rfl,Nat.zero_le _,(fun _ h=>by cases h)⟩
 · simp[Value.cells]at hcs
   obtain⟨rfl,rfl,rfl⟩:=hcs;simp only[Prod.mk.injEq]at hx;simp only[if_true]at hmm;subst hmm;obtain⟨rfl,-⟩:=hx
   have hall:∀k,k<len -> ∃s:Stp,(∀j v,(stCells s)[j]?= some v -> w.cell? (a.add (k*6+j))=some v) /\ s.w<18446744073709551616 /\ Src w s.ao s.ats.length s.cap 1 (ints s.ats) /\ s.ats.length <= 17592186044416:=by
    intro k hk;obtain⟨ys,n,hD,-,-,hf⟩:=hcell k (by omega);obtain⟨v0,y0,c0,-,t0⟩:=hf 0 _ rfl;obtain⟨v1,y1,c1,-,t1⟩:=hf 1 _ rfl;obtain⟨v2,y2,c2,-,t2⟩:=hf 2 _ rfl;obtain⟨v3,y3,c3,-,t3⟩:=hf 3 _ rfl;obtain⟨v4,y4,c4,-,t4⟩:=hf 4 _ rfl;obtain⟨v5,y5,c5,hy5,t5⟩:=hf 5 _ rfl;obtain⟨x0,e0,-,-⟩:=DataW.trod_int underlying3 t0;obtain⟨x1,e1,-,-⟩:=DataW.trod_int underlying3 t1;obtain⟨x2,e2,-,-⟩:=DataW.trod_int underlying3 t2;obtain⟨x3,e3,-,-⟩:=DataW.trod_int underlying3 t3;obtain⟨x4,e4,-,b4⟩:=DataW.trod_int underlying47 t4;simp at e0 e1 e2 e3 e4;subst e0;subst e1;subst e2;subst e3;subst e4;have h4:=bounds_u64 b4;obtain⟨z4,rfl⟩:=Int.eq_ofNat_of_zero_le h4.1;have hz4:z4<18446744073709551616:=by omega
    have cells:∀(s:Stp),s.dk=x0 -> s.g=x1 -> s.id=x2 -> s.n=x3 -> s.w=z4 -> v5=.slice s.ao s.ats.length s.cap -> ∀j v,(stCells s)[j]?= some v -> w.cell? (a.add (k*6+j))=some v:=by
     intro s r0 r1 r2 r3 r4 r5 j v hv;subst r0;subst r1;subst r2;subst r3;subst r4;subst r5;have hj:j<6:=(List.getElem?_eq_some_iff.1 hv).1;have hc:j=0∨j=1∨j=2∨j=3∨j=4∨j=5:=(by omega);rcases hc with rfl|rfl|rfl|rfl|rfl|rfl<;>cases hv
     ·exact c0
     ·exact c1
     ·exact c2
     ·exact c3
     ·exact c4
     ·exact c5
    rcases open_ints underlying38 underlying3 cells_int1 t5 with⟨hv,-⟩|⟨a5,n5,c5',zs,hv,-,hl5,hm5,hzl,hy,hat,-⟩
    · simp at hv
      subst hv;exact⟨⟨x0,x1,x2,x3,z4,[],none,0⟩,cells _ rfl rfl rfl rfl rfl rfl,hz4,⟨rfl,(fun _=>⟨rfl,rfl⟩),(fun ad h=>by cases h)⟩,by show 0 <= _;omega⟩
    · simp at hv
      subst hv;simp only[if_true]at hzl
      have h8:n5*8 <= reachBytes:=by
       have hd5:y5.1=.slice (lits .i64 (zs.take n5)) (lits .i64 (zs.drop n5)):=by rw[hy]
       have hw5:((lits (H:=H) .i64 (zs.take n5)).length+(lits (H:=H) .i64 (zs.drop n5)).length)*prog.bytesOf 3∈ (y5.1).weights prog 38:= by
        rw[hd5];simp[DataW.weights,underlying38]
       have hag:((lits (H:=H) .i64 (zs.take n5)).length+(lits (H:=H) .i64 (zs.drop n5)).length)*prog.bytesOf 3∈ (D k).weights prog 118:= by
        rw[hD];simp only[DataW.weights,underlying118];exact DataW.weights_mem_each (j:=5) (t:=38) (d:=y5.1) rfl (by rw[List.getElem?_map,hy5];rfl) _ hw5
       have hall:=hw _ (by
        simp only[DataW.weights,underlying23];exact List.mem_cons_of_mem _ (List.mem_append_left _ (weightsAll_in hag (List.mem_map.2 ⟨k,List.mem_range.2 hk,rfl⟩))))
       rw[bytes_int]at hall;have hl1:(lits (H:=H) .i64 (zs.take n5)).length=n5:=by simp[lits];omega
       rw[hl1]at hall;have h2:=Nat.mul_le_mul_right 8 (Nat.le_add_right n5 (lits (H:=H) .i64 (zs.drop n5)).length);omega
      have hlen:(zs.take n5).length=n5:=(by rw[List.length_take];omega);refine⟨⟨x0,x1,x2,x3,z4,zs.take n5,some a5,c5'⟩,cells _ rfl rfl rfl rfl rfl (by rw[hlen]),hz4,⟨by simp[ints],(fun h=>by cases h),fun ad had j u hj=>?_⟩,?_⟩
      · cases had
        have hjl:j<(zs.take n5).length:=(by have:=(List.getElem?_eq_some_iff.1 hj).1;simpa [ints]using this);have hjz:j<zs.length:=(by rw[List.length_take]at hjl;omega);rw[hat j hjz];simp only[ints,List.getElem?_map]at hj;rw[List.getElem?_take_of_lt (by rw[List.length_take]at hjl;omega),List.getElem?_eq_getElem hjz]at hj;simp at hj;rw[←hj];simp[hjz]
      · show(zs.take n5).length <= _
        rw[hlen];simp only[reachBytes]at h8;omega
   obtain⟨ss,hL,hP⟩:=list_of len hall;refine⟨ss,⟨by rw[sts_length,hL],(by intro h;cases h),fun ad had j u hu=>?_⟩,hL,Nat.le_trans hl hm,fun s hs=>?_⟩
   · cases had
     have hjl:j<ss.length*6:=(by rw[←sts_length];exact(List.getElem?_eq_some_iff.1 hu).1);have hj:j=j/6*6+j%6:=(Nat.div_add_mod' j 6).symm;have h6:j%6<6:=Nat.mod_lt _ (by omega);obtain⟨s,hs⟩:∃s,ss[j/6]?= some s:=⟨ss[j/6]'(by omega),List.getElem?_eq_getElem _⟩;rw[hj,sts_get hs h6]at hu;rw[hj];exact(hP _ s hs).1 _ _ hu
   · obtain⟨k,hk⟩:=List.getElem?_of_mem hs
     exact(hP k s hk).2
end
end Go.Proofs.YtbecgkejdacidaaGreatDoor
namespace Go.Proofs
open Go.Shelf
def Tryz.lays169_ren:Go.Shelf.Ren:=⟨fun|169=>133|n=>n,fun|70=>240|9=>9|0=>0|72=>242|37=>95|127=>323|3=>3|5=>5|n=>n,fun|n=>n⟩
theorem Tryz.lays169:Go.Proofs.Lays.n169 Tryz.prog Tryz.lays169_ren:={
 mixed:=by kernel_rfl
 f169:=Tryz.func133.trans (congrArg some (by kernel_rfl))
 t0:=Tryz.underlying0
 a0:=Tryz.isAgg0
 z0:=Tryz.sizeOf0
 v0:=Tryz.zeroValue0
 t3:=Tryz.underlying3
 a3:=Tryz.isAgg3
 z3:=Tryz.sizeOf3
 v3:=Tryz.zeroValue3
 t9:=Tryz.underlying9
 a9:=Tryz.isAgg9
 z9:=Tryz.sizeOf9
 v9:=Tryz.zeroValue9
 t37:=Tryz.underlying95
 a37:=Tryz.isAgg95
 z37:=Tryz.sizeOf95
 v37:=Tryz.zeroValue95
 t70:=Tryz.underlying240
 a70:=Tryz.isAgg240
 z70:=Tryz.sizeOf240
 v70:=Tryz.zeroValue240
 t72:=Tryz.underlying242
 a72:=Tryz.isAgg242
 z72:=Tryz.sizeOf242
 v72:=Tryz.zeroValue242
 t127:=Tryz.underlying323
 a127:=Tryz.isAgg323
 z127:=Tryz.sizeOf323
 v127:=Tryz.zeroValue323 }
def Tryz.laysM171_ren:Go.Shelf.Ren:=⟨fun|171=>106|243=>173|246=>222|283=>223|284=>224|285=>225|286=>226|129=>258|317=>260|318=>261|319=>262|320=>263|337=>283|338=>284|n=>n,fun|3=>3|9=>9|2=>2|4=>4|171=>352|0=>0|53=>47|37=>95|5=>5|173=>354|212=>386|51=>383|20=>20|213=>387|46=>40|232=>416|233=>417|n=>n,fun|17=>1|18=>3|19=>4|n=>n⟩
theorem Tryz.laysM171:Go.Proofs.LaysM.n171 Tryz.prog Tryz.laysM171_ren:={
 mixed:=by kernel_rfl
 f129:=Tryz.func258.trans (congrArg some (by kernel_rfl))
 f171:=Tryz.func106.trans (congrArg some (by kernel_rfl))
 f243:=Tryz.func173.trans (congrArg some (by kernel_rfl))
 f246:=Tryz.func222.trans (congrArg some (by kernel_rfl))
 f283:=Tryz.func223.trans (congrArg some (by kernel_rfl))
 f284:=Tryz.func224.trans (congrArg some (by kernel_rfl))
 f285:=Tryz.func225.trans (congrArg some (by kernel_rfl))
 f286:=Tryz.func226.trans (congrArg some (by kernel_rfl))
 f317:=Tryz.func260.trans (congrArg some (by kernel_rfl))
 f318:=Tryz.func261.trans (congrArg some (by kernel_rfl))
 f319:=Tryz.func262.trans (congrArg some (by kernel_rfl))
 f320:=Tryz.func263.trans (congrArg some (by kernel_rfl))
 f337:=Tryz.func283.trans (congrArg some (by kernel_rfl))
 f338:=Tryz.func284.trans (congrArg some (by kernel_rfl))
 t0:=Tryz.underlying0
 a0:=Tryz.isAgg0
 z0:=Tryz.sizeOf0
 v0:=Tryz.zeroValue0
 t2:=Tryz.underlying2
 a2:=Tryz.isAgg2
 z2:=Tryz.sizeOf2
 v2:=Tryz.zeroValue2
 t3:=Tryz.underlying3
 a3:=Tryz.isAgg3
 z3:=Tryz.sizeOf3
 v3:=Tryz.zeroValue3
 t4:=Tryz.underlying4
 a4:=Tryz.isAgg4
 z4:=Tryz.sizeOf4
 v4:=Tryz.zeroValue4
 t5:=Tryz.underlying5
 a5:=Tryz.isAgg5
 z5:=Tryz.sizeOf5
 v5:=Tryz.zeroValue5
 t9:=Tryz.underlying9
 a9:=Tryz.isAgg9
 z9:=Tryz.sizeOf9
 v9:=Tryz.zeroValue9
 t20:=Tryz.underlying20
 a20:=Tryz.isAgg20
 z20:=Tryz.sizeOf20
 v20:=Tryz.zeroValue20
 t37:=Tryz.underlying95
 a37:=Tryz.isAgg95
 z37:=Tryz.sizeOf95
 v37:=Tryz.zeroValue95
 t46:=Tryz.underlying40
 a46:=Tryz.isAgg40
 z46:=Tryz.sizeOf40
 v46:=Tryz.zeroValue40
 t51:=Tryz.underlying383
 a51:=Tryz.isAgg383
 z51:=Tryz.sizeOf383
 v51:=Tryz.zeroValue383
 t53:=Tryz.underlying47
 a53:=Tryz.isAgg47
 z53:=Tryz.sizeOf47
 v53:=Tryz.zeroValue47
 t171:=Tryz.underlying352
 a171:=Tryz.isAgg352
 z171:=Tryz.sizeOf352
 v171:=Tryz.zeroValue352
 t173:=Tryz.underlying354
 a173:=Tryz.isAgg354
 z173:=Tryz.sizeOf354
 v173:=Tryz.zeroValue354
 t212:=Tryz.underlying386
 a212:=Tryz.isAgg386
 z212:=Tryz.sizeOf386
 v212:=Tryz.zeroValue386
 t213:=Tryz.underlying387
 a213:=Tryz.isAgg387
 z213:=Tryz.sizeOf387
 t232:=Tryz.underlying416
 a232:=Tryz.isAgg416
 z232:=Tryz.sizeOf416
 v232:=Tryz.zeroValue416
 t233:=Tryz.underlying417
 a233:=Tryz.isAgg417
 z233:=Tryz.sizeOf417
 v233:=Tryz.zeroValue417
 g17:=by kernel_rfl
 g18:=by kernel_rfl
 g19:=by kernel_rfl
 i0:=by kernel_rfl
 i2:=by kernel_rfl
 i3:=by kernel_rfl
 i4:=by kernel_rfl
 i5:=by kernel_rfl
 i9:=by kernel_rfl
 i20:=by kernel_rfl
 i37:=by kernel_rfl
 i46:=by kernel_rfl
 i51:=by kernel_rfl
 i53:=by kernel_rfl
 i171:=by kernel_rfl
 i173:=by kernel_rfl
 i212:=by kernel_rfl
 i232:=by kernel_rfl
 i233:=by kernel_rfl
 m17:=by kernel_rfl
 m18:=by kernel_rfl
 m19:=by kernel_rfl }
def Tryz.keysA_ren:Go.Shelf.Ren:=⟨fun|7=>145|10=>200|n=>n,fun|23=>131|26=>3|3=>133|28=>257|0=>0|27=>256|33=>155|4=>4|n=>n,fun|n=>n⟩
def Tryz.sortedA_ren:Go.Shelf.Ren:=⟨fun|6=>144|8=>198|9=>199|11=>241|13=>220|12=>242|23=>257|24=>258|14=>267|15=>268|16=>269|17=>270|18=>271|19=>272|20=>273|21=>274|22=>275|25=>288|26=>278|27=>279|28=>289|29=>290|30=>291|31=>302|n=>n,fun|26=>3|28=>257|24=>38|0=>0|3=>3|37=>40|48=>383|50=>47|4=>4|40=>376|39=>375|45=>281|5=>5|9=>9|51=>398|55=>402|57=>413|58=>414|33=>155|n=>n,fun|n=>n⟩
def Tryz.sortA_ren:Go.Shelf.Ren:=⟨fun|5=>199|8=>220|7=>242|19=>257|20=>258|10=>267|11=>268|12=>269|13=>270|14=>271|15=>272|16=>273|17=>274|18=>275|30=>288|31=>278|32=>279|33=>289|34=>290|35=>291|40=>302|n=>n,fun|23=>38|25=>3|3=>3|32=>40|22=>38|0=>0|44=>383|46=>47|4=>4|36=>376|35=>375|41=>281|5=>5|9=>9|53=>398|57=>402|63=>413|64=>414|n=>n,fun|n=>n⟩
theorem Tryz.sortA:Go.Proofs.SlLaysM.n5 Tryz.prog Tryz.sortA_ren:={
 mixed:=by kernel_rfl
 f5:=⟨Tryz.f199.name,by decide,Tryz.func199.trans (congrArg some (by kernel_rfl))⟩
 f7:=⟨Tryz.f242.name,by decide,Tryz.func242.trans (congrArg some (by kernel_rfl))⟩
 f8:=Tryz.func220.trans (congrArg some (by kernel_rfl))
 f10:=⟨Tryz.f267.name,by decide,Tryz.func267.trans (congrArg some (by kernel_rfl))⟩
 f11:=⟨Tryz.f268.name,by decide,Tryz.func268.trans (congrArg some (by kernel_rfl))⟩
 f12:=⟨Tryz.f269.name,by decide,Tryz.func269.trans (congrArg some (by kernel_rfl))⟩
 f13:=⟨Tryz.f270.name,by decide,Tryz.func270.trans (congrArg some (by kernel_rfl))⟩
 f14:=⟨Tryz.f271.name,by decide,Tryz.func271.trans (congrArg some (by kernel_rfl))⟩
 f15:=⟨Tryz.f272.name,by decide,Tryz.func272.trans (congrArg some (by kernel_rfl))⟩
 f16:=⟨Tryz.f273.name,by decide,Tryz.func273.trans (congrArg some (by kernel_rfl))⟩
 f17:=⟨Tryz.f274.name,by decide,Tryz.func274.trans (congrArg some (by kernel_rfl))⟩
 f18:=⟨Tryz.f275.name,by decide,Tryz.func275.trans (congrArg some (by kernel_rfl))⟩
 f19:=Tryz.func257.trans (congrArg some (by kernel_rfl))
 f20:=Tryz.func258.trans (congrArg some (by kernel_rfl))
 f30:=⟨Tryz.f288.name,by decide,Tryz.func288.trans (congrArg some (by kernel_rfl))⟩
 f31:=Tryz.func278.trans (congrArg some (by kernel_rfl))
 f32:=Tryz.func279.trans (congrArg some (by kernel_rfl))
 f33:=⟨Tryz.f289.name,by decide,Tryz.func289.trans (congrArg some (by kernel_rfl))⟩
 f34:=⟨Tryz.f290.name,by decide,Tryz.func290.trans (congrArg some (by kernel_rfl))⟩
 f35:=⟨Tryz.f291.name,by decide,Tryz.func291.trans (congrArg some (by kernel_rfl))⟩
 f40:=⟨Tryz.f302.name,by decide,Tryz.func302.trans (congrArg some (by kernel_rfl))⟩
 t0:=Tryz.underlying0
 a0:=Tryz.isAgg0
 z0:=Tryz.sizeOf0
 v0:=Tryz.zeroValue0
 t3:=Tryz.underlying3
 a3:=Tryz.isAgg3
 z3:=Tryz.sizeOf3
 v3:=Tryz.zeroValue3
 t4:=Tryz.underlying4
 a4:=Tryz.isAgg4
 z4:=Tryz.sizeOf4
 v4:=Tryz.zeroValue4
 t5:=Tryz.underlying5
 a5:=Tryz.isAgg5
 z5:=Tryz.sizeOf5
 v5:=Tryz.zeroValue5
 t9:=Tryz.underlying9
 a9:=Tryz.isAgg9
 z9:=Tryz.sizeOf9
 v9:=Tryz.zeroValue9
 t22:=Tryz.underlying38
 a22:=Tryz.isAgg38
 z22:=Tryz.sizeOf38
 v22:=Tryz.zeroValue38
 t23:=Tryz.underlying38
 a23:=Tryz.isAgg38
 z23:=Tryz.sizeOf38
 v23:=Tryz.zeroValue38
 t25:=Tryz.underlying3
 a25:=Tryz.isAgg3
 z25:=Tryz.sizeOf3
 v25:=Tryz.zeroValue3
 t32:=Tryz.underlying40
 a32:=Tryz.isAgg40
 z32:=Tryz.sizeOf40
 v32:=Tryz.zeroValue40
 t35:=Tryz.underlying375
 a35:=Tryz.isAgg375
 z35:=Tryz.sizeOf375
 v35:=Tryz.zeroValue375
 t36:=Tryz.underlying376
 a36:=Tryz.isAgg376
 z36:=Tryz.sizeOf376
 v36:=Tryz.zeroValue376
 t41:=Tryz.underlying281
 a41:=Tryz.isAgg281
 z41:=Tryz.sizeOf281
 v41:=Tryz.zeroValue281
 t44:=Tryz.underlying383
 a44:=Tryz.isAgg383
 z44:=Tryz.sizeOf383
 v44:=Tryz.zeroValue383
 t46:=Tryz.underlying47
 a46:=Tryz.isAgg47
 z46:=Tryz.sizeOf47
 v46:=Tryz.zeroValue47
 t53:=Tryz.underlying398
 a53:=Tryz.isAgg398
 z53:=Tryz.sizeOf398
 v53:=Tryz.zeroValue398
 t57:=Tryz.underlying402
 a57:=Tryz.isAgg402
 z57:=Tryz.sizeOf402
 v57:=Tryz.zeroValue402
 t63:=Tryz.underlying413
 a63:=Tryz.isAgg413
 z63:=Tryz.sizeOf413
 v63:=Tryz.zeroValue413
 t64:=Tryz.underlying414
 a64:=Tryz.isAgg414
 z64:=Tryz.sizeOf414
 v64:=Tryz.zeroValue414 }
end Go.Proofs
namespace Go.Proofs
open Go.Shelf
theorem Tryz.Builder_Extra_169:Builder.Extra prog Tryz.lays169_ren:={
 sizeBuilder:=by kernel_rfl
 liesBuilder:=by kernel_rfl
 t5:=underlying5
 a5:=Tryz.isAgg5
 z5:=Tryz.sizeOf5
 v5:=Tryz.zeroValue5
 infoByte:=by kernel_rfl
 cellsByte:=by kernel_rfl
 sizeByte:=by kernel_rfl
 neB5:=by decide }
open Go.RowKit in
theorem Tryz.Builder_String_any (B b:Nat)(l:List UInt8)(w:World)(h:Lib.IsBuilder 242 5 B b (Lib.byteCells l) w)(hBw:B <= w.heap.size):
  Calls prog 133 #[.pointer (some ⟨b,0,none⟩)] w fun e w'=>e=.returned (.string ⟨l.toArray⟩) /\ Below B w w':=Any.Builder_String_any Tryz.lays169 Tryz.Builder_Extra_169 B b l w h hBw
open Go.RowKit Go.Sort Go.Lib in
theorem Tryz.strconv_Itoa (n : Int) (h0 : -9223372036854775808 ≤ n) (h1 : n ≤ 9223372036854775807) (w : World) (htab : Lib.TabIs prog w "internal/strconv.uint64pow10" .u64 Lib.pow10Tab) :
  Calls prog 106 #[.int .i64 n] w fun e w'=>e=.returned (.string ⟨(Lib.itoa n).toArray⟩) /\ ∃k os,w'=grow (w.drewN k) os:=Any.strconv_Itoa Tryz.laysM171 n h0 h1 w htab
end Go.Proofs
namespace Go.Proofs.YtbecgkejdacidaaGreatDoor
section
open Go Go.RowKit Go.Shelf
theorem bcheck (B b:Nat)(bs:List Value)(w:World)(h:Lib.IsBuilder 242 5 B b bs w):
  Calls prog 190 #[pt b] w fun e w'=>e=.returned (.tuple #[]) /\ (Lib.BuilderAt 242 5 B b (pt b) bs w' /\ Below B w w'):=by
 obtain⟨j,hj,hjs⟩:=Option.map_eq_some_iff.1 (show(prog.info? 242).map (·.size)=some 2 by kernel_rfl);rcases h with h|h
 · have h0:=h.cell0
   have hsh:=h.shape;have hfz:=h.frozen0;have H:=uh h;clear h
   go_enter func190,ntmps190
   go_wp2
   rw[Lib.run_to_unsafe w ⟨b,0,none⟩ underlying240 underlying362 hj (by rw[hjs];decide) hsh (Nat.zero_lt_succ 1)];simp only[Result.andThen];rw[Oper.upon_value]
   go_wp2
   rw[run_callFunc_extern func234 (by kernel_rfl) (by kernel_rfl) (by kernel_rfl) (e:=Extern.AbiNoEscape.same) (by kernel_rfl)];rw[Lib.run_noEscape];simp only[Result.andThen];rw[Oper.upon_value]
   go_wp2
   rw[Lib.run_from_unsafe w ⟨b,0,none⟩ underlying362 underlying240 hj hsh (by kernel_rfl)];simp only[Result.andThen];rw[Oper.upon_value]
   go_wp2
   go_end0;exact⟨rfl,H.out.used _,(Below.refl B w).setCell (p:=⟨b,0,none⟩) H.out.1 _⟩
 · have h0:=h.cell0
   have H:=uh h;clear h
   go_enter func190,ntmps190
   go_wp2
   rw[Lib.run_neq_ptr_same w _ underlying240 hj]
   go_wp2
   go_end0;exact⟨rfl,H.out,Below.refl B _⟩
theorem bwrite (B b:Nat)(bs:List Value)(s:ByteArray)(w:World)(h:Lib.IsBuilder 242 5 B b bs w)(hlen:bs.length+s.size <= 140737488355328)(hBw:B <= w.heap.size):
  Calls prog 131 #[pt b,.string s] w fun e w'=>e=.returned (.tuple #[.int .i64 s.size,.nilIface]) /\ (Lib.BuilderAt 242 5 B b (pt b) (bs++Lib.strCells s) w' /\ Below B w w'):=by
 obtain⟨i0,hi,hz0,hz1,hz2⟩:=info_parts (show(prog.info? 5).map (fun i=>(i.zero,i.size,i.bytes))=some (some (.int .u8 0),1,1)by kernel_rfl)
 go_enter func131,ntmps131
 go_wp2_with fail
 refine(bcheck B b bs _ h).mono ?_;rintro e w1 ⟨rfl,h1,hb1⟩;obtain⟨hB,v,hbk,hown,hne⟩:=h1;have c0:w1.cell? ⟨b,0,none⟩=some (pt b):=by rw[Lib.cell_of_heap hbk];rfl
 have c1:w1.cell? ⟨b,1,none⟩=some v:=by rw[Lib.cell_of_heap hbk];rfl
 go_wp2_with (at_builtin;refine Lib.wpList_append_own_string _ rfl _ _ 95 9 rfl B 5 i0 underlying95 underlying9 hi hz0 hz1 hz2 _ _ _ rfl hown s rfl ?c3 ?c4 ?c5 ?_)
 case c3=>unfold maxLen;omega
 case c4=>omega
 case c5=>have:=hb1.size;omega
 intro v' w2 hown' hgrow _
 have hlt:b<w1.heap.size:=by
  rcases Nat.lt_or_ge b w1.heap.size with h'|h'
  ·exact h'
  ·simp[Array.getElem?_eq_none h']at hbk
 have hb2:w2.heap[b]?= some (.cells #[pt b,v] 242 (0,0)):=by
  rw[hgrow.block b hlt (fun e=>hne e.symm)];exact hbk
 have d0:w2.cell? ⟨b,0,none⟩=some (pt b):=by rw[Lib.cell_of_heap hb2];rfl
 have d1:w2.cell? ⟨b,1,none⟩=some v:=by rw[Lib.cell_of_heap hb2];rfl
 have f1:w2.frozen? ⟨b,1,none⟩=false:=Lib.frozen_of_heap hb2 1
 obtain⟨ao,n',cap,rfl⟩:∃ao n' cap,v'=.slice ao n' cap:=by
  rcases hown'.2 with⟨hv,_⟩|⟨g,cap,cur,hv,_⟩
  ·exact⟨_,_,_,hv⟩
  ·exact⟨_,_,_,hv⟩
 go_wp2
 go_ret2;refine⟨rfl,?_,?_⟩
 ·exact Lib.BuilderAt.put (T:=242) (e:=5) hB hb2 (bs':=bs++Lib.strCells s) (by simpa [Lib.strCells_length]using hown') (by decide)
 ·exact(hb1.grown hgrow (by have:=hb1.size;omega) (fun k hk=>(hown.lt k hk).1)).setCell (p:=⟨b,1,none⟩) hB _
end
section
open Go Go.RowKit Go.Shelf Go.IntWalk
abbrev TabW (w : World) : Prop := Lib.TabIs prog w "internal/strconv.uint64pow10" .u64 Lib.pow10Tab
def lnW (l:List Int):List UInt8:=l.flatMap fun n=>32::Lib.itoa n
theorem sitoa {L:List Blk}{w0:World}(w:World)(T:Turn [] w0 L w)(ht:TabW w)(n:Int)(h0: -9223372036854775808 <= n)(h1:n <= 9223372036854775807):
  Calls prog 106 #[.int .i64 n] w fun e w'=>e=.returned (.string ⟨(Lib.itoa n).toArray⟩) /\ Turn [] w0 L w':=
 (Tryz.strconv_Itoa n h0 h1 w ht).mono fun e w' ⟨he,k,os,hw⟩=>⟨he,by
   subst hw;exact T.call (Lib.below_grow _ _ (Nat.le_refl _) _ _)⟩
end
section
open Go Go.RowKit Go.ChangeShapes Go.WideShapes
theorem gPow : prog.globalNamed "internal/strconv.uint64pow10" = some 1 := by kernel_rfl
theorem gPowType:(prog.globals[1]?).map (·.type)=some 386:= by kernel_rfl
theorem cPow:prog.cellsOf 386= 20:=by kernel_rfl
theorem cU64:prog.cellsOf 47= 1:=by kernel_rfl
theorem powData:(Rows.laid_internal_strconv_uint64pow10:DataW Unit)=Lib.tabData .u64 Lib.pow10Tab:=by kernel_rfl
theorem gFld : prog.globalNamed "skerry/head.fields" = some 0 := by kernel_rfl
theorem gFldType:(prog.globals[0]?).map (·.type)=some 338:= by kernel_rfl
theorem cPair:prog.cellsOf 337= 2:=by kernel_rfl
theorem cells_of_pairs {H:Type}{enc:TypeId×Value -> H}{P:Program}{w:World}{base:Nat}{sp:Nat -> Bool}{held:Bool}{fuel:Nat}{t e u:TypeId}{n:Nat}{fs:Array Field}{cs:List Value}{ds:List (DataW H)}{p:List MemPlace}
  (ht:P.underlying t=some (.array n e))(he:P.underlying e=some (.struct fs))(hf:fs.size=2)(f0:(fs[0]?).map (fun f=>(f.type,f.offset))=some (u,0))(f1:(fs[1]?).map (fun f=>(f.type,f.offset))=some (u,1))(hu:P.underlying u=some (.int .i64))(hcu:P.cellsOf u=1)(hce:P.cellsOf e=2)
  (h:DataW.trod enc P w base sp held fuel t cs=some (.agg ds,p))(i:Nat)(a b:Int)(hi:i<n)(hd:ds[i]?= some (.agg [.lit (.int .i64 a),.lit (.int .i64 b)])):cs[i*2]?= some (.int .i64 a) /\ cs[i*2+1]?= some (.int .i64 b):=by
 cases fuel with
 | zero=>simp[DataW.trod]at h
 | succ fuel=>
  simp only[DataW.trod,ht,hce]at h
  split at h
  · obtain⟨xs,hm,hx⟩:=Option.map_eq_some_iff.1 h
    simp only[Prod.mk.injEq,DataW.agg.injEq]at hx;obtain⟨hx,-⟩:=hx;obtain⟨y,hy,hg⟩:=Lib.mapM_at hm i i (by simp[hi])
    have hyd:y.1=.agg [.lit (.int .i64 a),.lit (.int .i64 b)]:=by
     rw[←hx,List.getElem?_map,hy]at hd
     simpa using hd
    obtain⟨ys,n',-,hy2,hlen,hyl,hfl⟩:=DataW.trod_struct he hg;rw[hf]at hyl
    have hys:ys.map (·.1)=[.lit (.int .i64 a),.lit (.int .i64 b)]:=by
     rw[hy2]at hyd
     simpa using hyd
    have one:∀(j:Nat) (z:Int),j<2 -> (fs[j]?).map (fun f=>(f.type,f.offset))=some (u,j) -> (ys.map (·.1))[j]?= some (.lit (.int .i64 z)) -> cs[i*2+j]?= some (.int .i64 z):=by
     intro j z hj hfj hz;obtain⟨f,hf1,hf2⟩:=Option.map_eq_some_iff.1 hfj;simp only[Prod.mk.injEq]at hf2;have h1:=hfl j f hf1;rw[hf2.1,hf2.2,hcu]at h1;obtain⟨q,hq⟩:∃q,ys[j]?= some q:=⟨ys[j]'(by omega),List.getElem?_eq_getElem _⟩;rw[hq]at h1;obtain⟨z',hc,hv,-⟩:=DataW.trod_int hu h1;rw[List.getElem?_map,hq]at hz;rw[hv]at hz;simp at hz;subst hz;have h3:=congrArg (·[0]?) hc;simp[List.getElem?_take,List.getElem?_drop]at h3;exact h3.2
    exact⟨one 0 a (by omega) f0 (by rw[hys];rfl),one 1 b (by omega) f1 (by rw[hys];rfl)⟩
  ·cases h
theorem fields_of {W : World} {rest : List (String × DataW Unit)} (h : laidMet prog (("skerry/head.fields", Rows.laid_skerry_head_fields) :: rest) W) : Fields W := by
 obtain⟨ps,⟨g',t',cs,fuel,p,q,hg',ht',hvar,hd,_,_⟩,_⟩:=h;obtain rfl:=Option.some.inj (gFld.symm.trans hg');obtain rfl:=Option.some.inj (gFldType.symm.trans ht');have hp:=fun i a b hi hdi=>cells_of_pairs (u:=3) underlying338 underlying337 rfl rfl rfl underlying3 (by kernel_rfl) cPair hd i a b hi hdi
 have hc:∀(j:Nat) (v:Value),cs.toList[j]?= some v -> W.cell? ⟨0,j,none⟩=some v:=fun j v hv=>by
  have:=World.var?_cell gFld hvar j;rw[this];rw[Array.getElem?_toList]at hv;exact hv
 have p0:=hp 0 0 2 (by omega) rfl;have p1:=hp 1 2 12 (by omega) rfl;have p2:=hp 2 14 2 (by omega) rfl;have p3:=hp 3 16 24 (by omega) rfl;have p4:=hp 4 40 24 (by omega) rfl;intro j v hv;have hj:j<10:=(List.getElem?_eq_some_iff.1 hv).1;rw[Nat.zero_add];have hcases:j=0∨j=1∨j=2∨j=3∨j=4∨j=5∨j=6∨j=7∨j=8∨j=9:=by omega
 rcases hcases with rfl|rfl|rfl|rfl|rfl|rfl|rfl|rfl|rfl|rfl<;>cases hv
 ·exact hc _ _ p0.1
 ·exact hc _ _ p0.2
 ·exact hc _ _ p1.1
 ·exact hc _ _ p1.2
 ·exact hc _ _ p2.1
 ·exact hc _ _ p2.2
 ·exact hc _ _ p3.1
 ·exact hc _ _ p3.2
 ·exact hc _ _ p4.1
 ·exact hc _ _ p4.2
theorem env9_of (W:World)(hL:laidMet prog Rows.statsSumRow.laid W):Fields W /\ TabW W:=by
 have h3:=hL.tail.tail;have h4:=h3.tail
 have h3' : laidMet prog (("internal/strconv.uint64pow10", Lib.tabData .u64 Lib.pow10Tab) :: (Rows.statsSumRow.laid.tail.tail.tail)) W := by rw [← powData]; exact h3
 exact⟨fields_of h4,Lib.tabIs_of_head gPow gPowType underlying386 underlying47 cU64 cPow h3'⟩
section
variable {H:Type} {enc:TypeId×Value -> H} {P:Program} {w:World} {base:Nat} {spare:Nat -> Bool} {held:Bool}
end
theorem returns_listed9 {H:Type}{enc:TypeId×Value -> H}{a:Assume}{C:Checked}{os:Os}{f:FuncId}{fn:Func}{s:ChangeSpec}{conds:List PathCond}{apart fresh handsOn again:Bool}{laid:List (String×DataW Unit)}
  (own:ownKnob C.prog.godebug=none)(started:os.Started)(noInit:C.prog.inits.idxOf? f=none)(hfn:C.prog.funcs[f]?= some fn)
  (witness:∃(w:World) (tape:Tape) (i:Input),w.os=os /\ (w.forCall tape i).Shaped C.prog /\ i.vars=[] /\ Input.okWide C.prog (w.forCall tape i) .any w.heap.size f i /\
    ((s.pre enc C.prog fn conds apart (w.forCall tape i).memory i.args /\ laidMetH C.prog laid (w.forCall tape i).memory) /\ sizedMet enc C.prog fn (OpenSpec.ofChange s) apart (w.forCall tape i).memory i.args) /\ a.holds C.prog (lone (Frame.enter C.prog f i.args .normal) [] (w.forCall tape i)))
  (contract:∀(W:World) (base:Nat) (args:Array Value) (ds gs:List (DataW H)) (before:List MemPlace),
    (∀(j:Nat) t v,fn.params[j]?= some t -> args[j]?= some v -> Value.okWide C.prog W .any base t v) ->
    DataW.Whole enc C.prog fn.params.toList s.vars apart W args.toList ds gs before ->
    conds.all (PathCond.test C.prog ⟨fn.params.toList,ds,s.plain.varTypes C.prog,gs⟩)=true ->
    (DataW.weightsEach C.prog (fn.params.toList++s.plain.varTypes C.prog) (ds++gs)).all (· <= reachBytes)=true -> laidMetH C.prog laid W ->
    Calls C.prog f args W fun e W'=>∃v,e=.returned v /\ s.post enc C.prog fn apart fresh handsOn again W args v W'):
  ReturnsInHanded a C os f .any (fun w args=>(s.pre enc C.prog fn conds apart w args /\ laidMetH C.prog laid w) /\ sizedMet enc C.prog fn (OpenSpec.ofChange s) apart w args) (s.post enc C.prog fn apart fresh handsOn again):=
 returnsInHanded_of_change_and (X:=fun w _=>laidMetH C.prog laid w) (fun _ _ _ hh hx=>laidMetH.of_heap hh hx) own started noInit hfn witness
  fun W base args ds gs before h1 h2 h3 h4 h5 _=>contract W base args ds gs before h1 h2 h3 h4 h5
end
section
open Go Go.RowKit Go.Shelf Go.IntWalk
attribute [local go_sem] Oper.semAt_some
theorem wpListIn_byG {F:Fence}{n:Nat}{P:Program}{ops:Array Oper}{Q:Exit -> Act -> World -> Prop}{o:Oper}{rest:List Oper}{a:Act}{w:World}(hF:Follows F n P)(hw:Region.wanted o (yielded ops a.tmps)=true)(hd:∀c,o.op≠ .defer c)
  (h:o.wp P a w (wpListIn F n P ops Q rest) Q):wpListIn F n P ops Q (o::rest) a w:=by
 unfold wpListIn;rw[if_pos hw];exact hF.op o a w _ Q hd h
structure WkAt (w:World)(a aw tb:Nat)(W:List Nat)(tao:Option Addr)(tcap:Nat)(L:List Ty):Prop where
 ar:ArAt w a aw W
 tab:TabAt w tb tao tcap L
 fields:Fields w
theorem WkAt.below {w w':World}{a aw tb:Nat}{W:List Nat}{tao:Option Addr}{tcap:Nat}{L:List Ty}(h:WkAt w a aw tb W tao tcap L)(hk:Below w.heap.size w w'):WkAt w' a aw tb W tao tcap L:=
 ⟨h.ar.below hk,h.tab.below hk,range_below h.fields hk⟩
theorem wcells_in (n:Nat)(a tb:Nat)(w:World):
  CallsIn Fence.wide n prog 201 #[pt a,pt tb] w fun e w'=>e=.returned (.func (.func 243) #[] #[pt w.heap.size,pt (w.heap.size+1)]) /\ w'=(w.alloc (.cells #[pt a] 112)).alloc (.cells #[pt tb] 119):=by
 have hf:Fence.wide.fn 201:= trivial;refine callsIn_of_wp func201 rfl hf ?_ rfl;simp only[ntmps201,List.size_toArray,List.length_cons,List.length_nil,Nat.reduceAdd,Nat.reduceSub,Array.replicate_succ,Array.replicate_zero,List.push_toArray,List.append_toArray,List.nil_append,List.cons_append]
 gi_wp2
 go_ret;exact⟨rfl,rfl⟩
end
section
open Go Go.RowKit Go.Shelf
def ownPostT {α:Type}(B:Nat)(Kp:World -> World -> Prop)(I:List α -> World -> Prop)(xs:List α)(W:World):Exit -> Act -> World -> Prop
 | .normal,_,W'=>KeepsFrom B W W' /\ Kp W W' /\ I xs W'
 | .ret,_,_=>False
 | .exit _,_,_=>False
 | .goto _,_,_=>False
 | .panic _,_,_=>False
 | .outgrown,_,_=>False
section
variable {F:Fence} {n:Nat} {P:Program}
def SeqG {α:Type}(F:Fence)(n:Nat)(P:Program)(g:Nat)(lb:Array Value)(encs:α -> Array Value)(Kp:World -> World -> Prop)(Nx:List α -> α -> Prop)(S:List α -> Prop)(G:World -> Prop)(w:World):Prop:=
 ∀(l:Nat) (J:List α -> World -> Prop) (W:World),Below w.heap.size w W -> AbidesFrom W.heap.size J -> (∀pre W,J pre W -> G W) ->
  (∀pre x W1,Nx pre x -> J pre W1 -> YieldAt F (n-1) P l (encs x) W1 fun e W'=>e=.returned (.bool true) /\ J (pre++[x]) W' /\ Kp W1 W') ->
  J [] W ->
  CallsIn F n P g (#[.func (.yield l) #[] #[]]++lb) W fun e W'=>(∃v,e=.returned v) /\ ∃xs,S xs /\ J xs W'
theorem wpIn_rangeFunc_g {α β:Type}{FA:α -> β -> Act}{g:Operand}{ps:Array Tmp}{assign body:Code}{Q:Exit -> Act -> World -> Prop}{a:Act}{w:World}
  (hro:F.round=none)(h1:1 <= n){gf:Nat}{lb:Array Value}(hg:a.eval g=.func (.func gf) #[] lb)(hFg:F.fn gf)(eg:∀args w,(callFunc gf args).run P w=.ok (.enter gf args) w)
  {encs:α -> Array Value}{Kp:World -> World -> Prop}{Nx:List α -> α -> Prop}{S:List α -> Prop}{G:World -> Prop}{w0:World}(hseq:SeqG F (n-1) P gf lb encs Kp Nx S G w0)
  (hKt:∀{A B C:World},Kp A B -> Kp B C -> Kp A C)(hKb:∀(W:World) (l:Nat) (o o':Obj),w.heap.size <= l -> W.heap[l]?= some o -> o.isCells=false -> o.isWalk=false -> Kp W (W.putObj l o'))(hb0:Below w0.heap.size w0 w)(hps:∀x,(encs x).size=ps.size)
  (I:List α -> World -> Prop)(M:α -> β -> List α -> World -> Prop)(hI:OwnFrom w.heap.size I)(hM:∀x nb,OwnFrom w.heap.size (M x nb))(h0:I [] w)(hG:∀pre W,I pre W -> G W)
  (hassign:∀(l:Nat) (pre:List α) (x:α) (W:World),Nx pre x -> I pre W ->
    assign.wpIn (F.inRound l) (n-1-1) P (Exit.then (fun a' W'=>KeepsFrom w.heap.size W W' /\ Kp W W' /\ ∃nb,a'=FA x nb /\ M x nb pre W') (fun _ _ _=>False)) { tmps:=(ps.zip (encs x)).foldl (fun t (p,v)=>t.setIfInBounds p v) a.tmps,defers:=[] } W)
  (hbody:∀(l:Nat) (pre:List α) (x:α) (nb:β) (W:World),Nx pre x -> M x nb pre W -> body.wpIn (F.inRound l) (n-1-1) P (ownPostT w.heap.size Kp I (pre++[x]) W) (FA x nb) W)
  (hdone:∀(D:Nat) (xs:List α) (W:World),w.heap.size <= D -> S xs -> I xs W -> W.heap[D]?= some (.deferred (some [])) -> Q .normal { a with defers:={ target:=.collected D,args:=#[] }::a.defers } W):
  (Code.rangeFunc g ps assign body).wpIn F n P Q a w:=by
 refine wpIn_rangeFunc fun fn hfn=>?_;rw[hro]
 let rc:LoopState -> Option Code -> Loop:=fun st pe=>{ state:=st,pending:=pe,fn,tmps:=a.tmps,params:=ps,assign,body,defers:=w.heap.size }
 have hsz1:((w.alloc (.deferred (some []))).alloc (.loop (rc .ready none))).heap.size=w.heap.size+2:=by simp
 have hm1:Marks w.heap.size (rc .ready none) ((w.alloc (.deferred (some []))).alloc (.loop (rc .ready none))):=by
  refine⟨(Below.heap_alloc _ _ _ (by simp)).trans (World.alloc_heap_new w _),?_⟩;have:=World.alloc_heap_new (w.alloc (.deferred (some []))) (.loop (rc .ready none))
  rwa [World.size_alloc]at this
 have hi1:I [] ((w.alloc (.deferred (some []))).alloc (.loop (rc .ready none))):=hI.alloc _ (hI.alloc _ h0);have hb1:Below w0.heap.size w0 ((w.alloc (.deferred (some []))).alloc (.loop (rc .ready none))):=hb0.trans ((((Below.refl _ w).alloc (Nat.le_refl _) _).alloc (by simp) _).mono hb0.size);have hrun:=run_enterLoop_outer (P:=P) (w:=w) fn a.tmps ps assign body
 change _=Result.ok _ ((w.alloc (.deferred (some []))).alloc (.loop (rc .ready none)))at hrun
 generalize((w.alloc (.deferred (some []))).alloc (.loop (rc .ready none)))=W1 at hsz1 hm1 hi1 hb1 hrun
 refine⟨w.heap.size+1,[{ target:=.collected w.heap.size,args:=#[] }],W1,{ target:=.fn (.func gf) lb,args:=#[.func (.yield (w.heap.size+1)) #[] #[]] },W1,gf,
  #[.func (.yield (w.heap.size + 1)) #[] #[]] ++ lb, W1, hrun, ?_, ?_, ?_, fun _ => h1, ?_⟩
 · simp only[resolve,hg]
   simp[go_sem]
 ·intro f' hf';simp[Target.leads]at hf';subst hf';exact hFg
 ·simp[invoke,go_sem,eg]
 have hrow:∀{A:World} {row:Option Nat},(∀r,row=some r -> W1.heap.size <= r /\ ∃o:Obj,A.heap[r]?= some o /\ o.isWalk=true) -> (∀r,row=some r -> w.heap.size <= r /\ ∃o:Obj,A.heap[r]?= some o /\ o.isCells=false):=
  fun hr r e=>by obtain⟨hB,o,ho,hw⟩:=hr r e;exact⟨by omega,o,ho,Obj.not_cells_of_walk hw⟩
 refine(hseq (w.heap.size+1) (fun pre W=>I pre W /\ Marks w.heap.size (rc .ready none) W) W1 hb1
  (fun s A B row hs hg' hr=>⟨hI s A B row hs.1 hg' (hrow hr),hs.2.grown hg' fun j e=>(hr j e).2⟩) (fun pre W h=>hG pre W h.1) ?_ ⟨hi1,hm1⟩).mono ?_
 · rintro pre x W hnx ⟨hi,hm⟩
   refine⟨fn,_,assign,body,run_yield hm.loop (hps x),roundIn_of_wpIn hfn (wpIn_mono (hassign _ pre x W hnx hi) ?_)⟩;rintro e a' Wa hp
   cases e with
   | normal=>
    obtain⟨hka,hkpa,nb,ha,hMa⟩:=hp;subst ha;have hma:=hm.keeps hka;refine⟨_,run_beginRound hma.loop rfl,?_⟩;have hmb:=hma.put (rc .busy none);have hkb:Kp W (Wa.putObj (w.heap.size+1) (.loop (rc .busy none))):=hKt hkpa (hKb _ _ _ _ (Nat.le_succ _) hma.loop rfl rfl);refine wpIn_mono (hbody _ pre x nb _ hnx ((hM x nb).putObj _ hMa (Nat.le_succ _) hma.loop rfl)) ?_;rintro e a3 W3 hp
    cases e with
    | normal=>
     obtain⟨hk3,hkp3,hi3⟩:=hp;have hl3:=(hmb.keeps hk3).loop;exact⟨_,_,run_endRound (P:=P) none hl3,rfl,⟨hI.putObj _ hi3 (Nat.le_succ _) hl3 rfl,(hmb.keeps hk3).put _⟩,hKt (hKt hkb hkp3) (hKb _ _ _ _ (Nat.le_succ _) hl3 rfl rfl)⟩
    | ret=>exact hp.elim
    | exit id=>exact hp.elim
    | goto t=>exact hp.elim
    | panic ch=>exact hp.elim
    | outgrown=>exact hp.elim
   | ret=>exact hp.elim
   | exit id=>exact hp.elim
   | goto t=>exact hp.elim
   | panic ch=>exact hp.elim
   | outgrown=>exact hp.elim
 · rintro e W2 ⟨⟨v,rfl⟩,xs,hS,hi,hm⟩
   exact⟨none,_,run_endLoop (P:=P) hm.loop (by simp[rc]),hdone _ xs _ (Nat.le_refl _) hS (hI.putObj _ hi (Nat.le_succ _) hm.loop rfl) ((World.putObj_heap_other (by omega)).trans hm.dfr)⟩
end
structure KpD (n₀:Nat)(D:World -> Nat -> Prop)(A B:World):Prop where
 below:Below n₀ A B
 size:A.heap.size <= B.heap.size
 same:∀b o,A.heap[b]?= some o -> o.isCells=true -> ¬D A b -> B.heap[b]?= some o
 own:∀b,b<A.heap.size -> D B b -> D A b
theorem KpD.t {n₀:Nat}{D:World -> Nat -> Prop}{A B C:World}(h:KpD n₀ D A B)(k:KpD n₀ D B C):KpD n₀ D A C:=
 ⟨h.below.trans k.below,Nat.le_trans h.size k.size,fun b o h1 h2 h3=>k.same b o (h.same b o h1 h2 h3) h2 (fun hd=>h3 (h.own b (lt_of_block h1) hd)),fun b hb hd=>h.own b hb (k.own b (Nat.lt_of_lt_of_le hb h.size) hd)⟩
theorem KpD.b {n₀:Nat}{D:World -> Nat -> Prop}{w:World}(hn:n₀ <= w.heap.size)(hD:∀W l o',w.heap.size <= l -> ∀b,D (W.putObj l o') b -> D W b)(W:World)(l:Nat)(o o':Obj)(hl:w.heap.size <= l)(h:W.heap[l]?= some o)(hc:o.isCells=false)(hw:o.isWalk=false):KpD n₀ D W (W.putObj l o'):=by
 refine⟨belowK_b hn W l o o' hl h hc hw,(grownBy_putObj' W l o').size,fun b o2 h1 h2 _=>?_,fun b _ hd=>hD W l o' hl b hd⟩
 by_cases hb:b=l
 · subst hb
   rw[h]at h1
   cases h1
   rw[hc]at h2
   cases h2
 · rw[World.putObj_heap_other hb]
   exact h1
theorem KpD.of {n₀:Nat}{D:World -> Nat -> Prop}{L L':List Blk}{A B:World}(h:Turn L A L' B)(hn:n₀ <= A.heap.size)(hL:∀b∈keys L,n₀ <= b /\ D A b)(hO:∀b,b<A.heap.size -> D B b -> D A b):KpD n₀ D A B:=
 ⟨⟨h.os,h.tape,h.output,h.size,fun b hb=>h.same b (Nat.lt_of_lt_of_le hb hn) (fun hm=>by have:=(hL b hm).1;omega)⟩,
  h.size,fun b o h1 _ h3=>(h.same b (lt_of_block h1) (fun hm=>h3 (hL b hm).2)).trans h1,hO⟩
theorem Turn.grownC {l L:List Blk}{w W W':World}{B:Nat}{row:Option Nat}(h:Turn l w L W)(hB:w.heap.size <= B)(hL:∀x∈L,x.2.isCells=true∨x.1<B)(hg:W.grownBy W' row)(hr:∀r,row=some r -> B <= r /\ ∃o:Obj,W.heap[r]?= some o /\ o.isCells=false):Turn l w L W':=by
 have hne:∀b o,(b,o)∈L -> some b≠row:=fun b o hm he=>by
  obtain⟨hb,o',ho',hc⟩:=hr b he.symm;have h1:=h.has.own b o hm;rw[h1]at ho'
  cases ho'
  rcases hL _ hm with h2|h2
  · rw[hc]at h2
    cases h2
  ·exact absurd h2 (Nat.not_lt.2 hb)
 refine⟨hg.os.trans h.os,hg.tape.trans h.tape,hg.output.trans h.output,Nat.le_trans h.size hg.size,⟨h.has.nd,fun b o hm=>?_⟩,h.new,fun b hb hn=>?_⟩
 · rw[hg.block b (lt_of_block (h.has.own b o hm)) (hne b o hm)]
   exact h.has.own b o hm
 · rw[hg.block b (Nat.lt_of_lt_of_le hb h.size) (fun he=>by have:=(hr b he.symm).1;omega)]
   exact h.same b hb hn
def ResD (n4:Nat)(A:World)(b:Nat):Prop:=b=n4∨∃k cap t,A.heap[n4]?= some (.cells #[.slice (some ⟨b,0,none⟩) k cap] t)
def ResG (n4 Bs:Nat)(A:World):Prop:=∀b,ResD n4 A b -> b<A.heap.size /\ b≠Bs
theorem ResD.old {n4 Bs:Nat}{A B:World}{b:Nat}(hg:ResG n4 Bs A)(hB:Below A.heap.size A B)(h:ResD n4 B b):ResD n4 A b:=by
 rcases h with h|⟨k,cap,t,h⟩
 ·exact .inl h
 · refine .inr ⟨k,cap,t,?_⟩
   rw[←hB.block n4 (hg n4 (.inl rfl)).1];exact h
theorem ResD.put {n4:Nat}{W:World}{l b:Nat}(hl:n4<l)(o':Obj)(h:ResD n4 (W.putObj l o') b):ResD n4 W b:=by
 rcases h with h|⟨k,cap,t,h⟩
 ·exact .inl h
 · refine .inr ⟨k,cap,t,?_⟩
   rw[World.putObj_heap_other (by omega)]at h;exact h
theorem resBx_cells {e te ts:TypeId}{size n cap:Nat}{xs:List Value}{ao:Option Addr}{lr:List Blk}{n4 Bs:Nat}{v:Value}(h:Row e size ao n cap xs lr):∀x∈lr++[(n4,.cells #[.slice ao n cap] te),(Bs,.cells #[v] ts)],x.2.isCells=true:=fun x hx=>by
 rcases List.mem_append.1 hx with hx|hx
 ·exact h.cells x hx
 · simp only[List.mem_cons,List.not_mem_nil,or_false]at hx
   rcases hx with rfl|rfl<;>rfl
theorem resBx1_cells {e te:TypeId}{size n cap:Nat}{xs:List Value}{ao:Option Addr}{lr:List Blk}{n4:Nat}(h:Row e size ao n cap xs lr):∀x∈lr++[(n4,.cells #[.slice ao n cap] te)],x.2.isCells=true:=fun x hx=>by
 rcases List.mem_append.1 hx with hx|hx
 ·exact h.cells x hx
 · simp only[List.mem_cons,List.not_mem_nil,or_false]at hx
   rw[hx];rfl
theorem resG_of {e te ts:TypeId}{size n cap:Nat}{xs:List Value}{ao:Option Addr}{lr:List Blk}{n4 Bs:Nat}{v:Value}{w W:World}(h:Row e size ao n cap xs lr)(T:Turn [] w (lr++[(n4,.cells #[.slice ao n cap] te),(Bs,.cells #[v] ts)]) W):ResG n4 Bs W:=by
 intro b hb;have hnd:=T.has.nd;rcases hb with rfl|⟨k,cap',t,hb⟩
 · refine⟨T.has.lt (by simp[keys]),?_⟩
   intro he;rw[keys_append,List.nodup_append]at hnd;simp[keys,he]at hnd
 · have h1:=T.has.own n4 _ (by simp:(n4,Obj.cells #[.slice ao n cap] te)∈_)
   rw[h1]at hb;simp only[Option.some.injEq,Obj.cells.injEq,Array.mk.injEq,List.cons.injEq,Value.slice.injEq]at hb;obtain⟨⟨⟨rfl,rfl,rfl⟩,-⟩,-⟩:=hb;rcases h.2.2.2 with⟨h2,-⟩|⟨g,cur,h2,rfl,-⟩
   ·cases h2
   · cases h2
     refine⟨T.has.lt (by simp[keys]),?_⟩;rintro rfl;simp[keys]at hnd
theorem KpD.res {n₀ n4:Nat}{e te:TypeId}{size n cap n' cap':Nat}{xs xs':List Value}{ao ao':Option Addr}{lr lr' Y:List Blk}{A B:World}(h1:Row e size ao n cap xs lr)(h2:Row e size ao' n' cap' xs' lr')
  (K:Turn (lr++[(n4,.cells #[.slice ao n cap] te)]) A ((n4,.cells #[.slice ao' n' cap'] te)::(lr'++Y)) B)(hH:Has A (lr++[(n4,.cells #[.slice ao n cap] te)]))(hn:n₀ <= n4)(hl:∀b∈keys lr,n₀ <= b):KpD n₀ (ResD n4) A B:=by
 have hlt:=hH.lt (b:=n4) (by simp[keys])
 have hown:∀b∈keys lr,ResD n4 A b:=by
  intro b hb;rcases h1.2.2.2 with⟨-,-,rfl⟩|⟨g,cur,rfl,rfl,-⟩
  ·cases hb
  · have:b=g:=by simpa [keys]using hb
    subst this;exact .inr ⟨n,cap,te,hH.own n4 _ (by simp)⟩
 refine KpD.of K (by omega) (fun b hb=>?_) (fun b hb hd=>?_)
 · rw[keys_append,List.mem_append]at hb
   rcases hb with hb|hb
   ·exact⟨hl b hb,hown b hb⟩
   · have:b=n4:=by simpa [keys]using hb
     exact⟨by omega,.inl this⟩
 · rcases hd with hd|⟨k,c,t,hd⟩
   ·exact .inl hd
   · rw[K.has.own n4 _ (List.mem_cons_self ..)]at hd
     simp only[Option.some.injEq,Obj.cells.injEq,Array.mk.injEq,List.cons.injEq,Value.slice.injEq]at hd;obtain⟨⟨⟨rfl,rfl,rfl⟩,-⟩,-⟩:=hd;rcases h2.2.2.2 with⟨h3,-⟩|⟨g,cur,h3,rfl,-⟩
     ·cases h3
     · cases h3
       rcases K.new b (by simp[keys])with h4|h4
       · rw[keys_append,List.mem_append]at h4
         rcases h4 with h4|h4
         ·exact hown b h4
         ·exact .inl (by simpa [keys]using h4)
       ·omega
end
section
open Go Go.RowKit Go.Shelf Go.IntWalk
attribute [local go_sem] Oper.semAt_some
theorem wcells_g (n:Nat)(hn:2 <= n)(wb:World)(a aw tb:Nat)(W:List Nat)(tao:Option Addr)(tcap:Nat)(L:List Ty)(hA:WkAt wb a aw tb W tao tcap L)(hf:W.length <= 65536)(hu:∀v∈W,v<18446744073709551616)(hTy:∀t∈L,TyIn t)(hL:L.length <= 1000)
  (cs:List Ce)(hC:Chain L W 0 cs (W.length/2))(Bs Bt:Nat)(D:World -> Nat -> Prop)(G:World -> Prop)(hGD:∀A,G A -> ∀b,D A b -> b<A.heap.size /\ b≠Bs /\ b≠Bt)(hDD:∀A B b,G A -> Below A.heap.size A B -> D B b -> D A b)(w:World)(hw:Below wb.heap.size wb w)(hBs:w.heap[Bs]?= some (.cells #[pt a] 112))(hBt:w.heap[Bt]?= some (.cells #[pt tb] 119)):
  SeqG Fence.wide n prog 243 #[pt Bs,pt Bt] ceArgs (KpD wb.heap.size D) (fun pre x=>∃post,cs=pre++x::post) (fun xs=>xs=cs) G w:=fun l J W0 hW hJ hG hY h0=>by
 have hB0:W0.heap[Bs]?= some (.cells #[pt a] 112):=(hW.block Bs (lt_of_block hBs)).trans hBs;have hT0:W0.heap[Bt]?= some (.cells #[pt tb] 119):=(hW.block Bt (lt_of_block hBt)).trans hBt;have hw0:Below wb.heap.size wb W0:=hw.trans (hW.mono hw.size);have HA0:=uh hw.size;have hW0:=hW.size;have hFl:Fence.wide.fn 243:= trivial;have hf1:Fence.wide.fn 63:= trivial;have hf2:Fence.wide.fn 126:= trivial;have hf3:Fence.wide.fn 128:= trivial;refine callsIn_of_wp func243 rfl hFl ?_ rfl;simp only[ntmps243,List.size_toArray,List.length_cons,List.length_nil,Nat.reduceAdd,Nat.reduceSub,Array.replicate_succ,Array.replicate_zero,List.push_toArray,List.append_toArray,List.nil_append,List.cons_append];have h1:1 <= n:=by omega
 have h2:1 <= n-1:=by omega
 have HY:=uh hY;have HJ:=uh hJ;have hszH:=sz_head;have Hln:=uh (alen W0 (hA.below hw0).ar);have Hhd:=uh (fun w' (hB:Below wb.heap.size wb w') (g:Int)=>shead w' (hA.below hB).fields (hA.below hB).ar hu g);have Hft:=uh (fun w' (hB:Below wb.heap.size wb w') h hi=>hfits w' (hA.below hB).fields L hTy hL tb tao tcap (hA.below hB).tab h hi);have HA:=uh hA;have HC:=uh hC;have hlen:=hC.len;have hdiv:((W.length:Int)).tdiv 2=((W.length/2:Nat):Int):=tdiv_nat _ 2;have hdiv2:(W.length:Int)/2=((W.length/2:Nat):Int):=by omega
 obtain⟨z,hz⟩:∃z:Nat,W.length/2=z:=⟨_,rfl⟩;have hzb:z <= 32768:=by omega
 rw[hz]at HC hlen hdiv hdiv2;have Hw0:=uh hw0;have HB0:=uh hB0;have HT0:=uh hT0;have HG:=uh hG;have q1:W0.cell? ⟨Bs,0,none⟩=some (pt a):=(Has.one hB0).cell (List.mem_cons_self ..) 0;clear hY hJ hG hW hw hBs hBt hB0 hT0 hw0 hA hu hTy hC hz
 gi_wp2_with (first
  | (gi_at_call 63;refine(callsIn_wide.2 Hln.out).mono ?_;rintro e w' ⟨rfl,hw⟩;rw[hw];clear hw w')
  | fail)
 clear q1 Hln hdiv hdiv2
 gi_loopw [5] (fun v5 wr=>∃(pre post:List Ce) (g:Nat),cs=pre++post /\ v5=.int .i64 g /\ Chain L W g post z /\ J pre wr /\ Below wb.heap.size wb wr /\ wr.heap[Bs]?= some (.cells #[pt a] 112) /\ wr.heap[Bt]?= some (.cells #[pt tb] 119) /\ w.heap.size <= wr.heap.size) (fun v5 _=>z+1-(intOf v5).toNat)
 case atStart=>exact⟨[],cs,0,rfl,by go_num,HC.out,h0,Hw0.out,HB0.out,HT0.out,hW0⟩
 case round=>
  clear HC h0 Hw0 HB0 HT0;obtain⟨pre,post,g,hcs,rfl,hch,hJw,hwr,hBw,hTw,hwl⟩:=hrel;have hbx:wr.cell? ⟨Bs,0,none⟩=some (pt a):=(Has.one hBw).cell (List.mem_cons_self ..) 0;have htx:wr.cell? ⟨Bt,0,none⟩=some (pt tb):=(Has.one hTw).cell (List.mem_cons_self ..) 0
  cases post with
  | nil=>
   obtain rfl:g=z:=hch;rw[List.append_nil]at hcs;have HX:=uh (⟨hcs.symm,hJw⟩:pre=cs /\ J pre wr);have hnl:¬(g:Int)<(g:Int):=(by omega);clear hJw hcs hwr hBw hTw
   gi_wp2_with fail
   go_end0;exact⟨⟨_,rfl⟩,by have h:=HX.out.2;rw[HX.out.1]at h;exact h⟩
  | cons c post=>
   obtain⟨cg,h⟩:=c;obtain⟨hcg,hst,hnext⟩:=hch;simp only at hcg hst hnext;subst hcg;have hpos:=hst.pos;have hroom:cg+h.size <= z:=hnext.le;obtain⟨e1,e2,e3,e4⟩:=stands_head hst;have hmay:=hst.2.1.1;have Hh2:=uh (Hhd.out wr hwr cg);rw[e1,e2]at Hh2;simp only[Option.getD_some]at Hh2;have HF1:=uh (fun w' (hB:Below wr.heap.size wr w')=>Hft.out w' (hwr.trans (hB.mono (Nat.le_trans HA0.out hwl))) h (may_in hmay));rw[e3]at HF1;have HY2:=uh (fun W1=>HY.out pre (cg,h) W1 ⟨post,hcs⟩);unfold ceArgs at HY2;obtain⟨xa,xb,xc,xd⟩:=h;simp only at hpos hroom HY2;have hoX:=hd_one ⟨xa,xb,xc,xd⟩;simp only at hoX;have k1:IntKind.i64.wrap ((z:Int)-(cg:Int))=(z:Int)-(cg:Int):=i64_in _ (by omega);have k2:decide (((z:Int)-(cg:Int))<(xd:Int))=false:=decide_eq_false (by omega);have k3:¬((z:Int)-(cg:Int))<(xd:Int):=(by omega);have k4:(cg:Int)<(z:Int):=(by omega);have Hnext:=uh hnext;have Hcs:=uh hcs;have HJw:=uh hJw;have hT0:=uh (Turn.refl (Has.nil wr))
   have HS:=uh (fun w' b4 (V:Turn [] wr [(b4,.cells #[.int .u8 xa,.int .i64 xb,.int .i64 xc,.int .i64 xd] 79)] w')=>
    (⟨(V.below.cell (p:=⟨Bs,0,none⟩) (World.block_lt_of_cell? wr _ hbx)).trans hbx,(V.below.cell (p:=⟨Bt,0,none⟩) (World.block_lt_of_cell? wr _ htx)).trans htx,V.range1⟩:w'.cell? ⟨Bs,0,none⟩=some (pt a) /\ w'.cell? ⟨Bt,0,none⟩=some (pt tb) /\ w'.rangeAt b4 0 [.int .u8 xa,.int .i64 xb,.int .i64 xc,.int .i64 xd]))
   have hGr:=HG.out pre wr hJw
   have HN8:=uh (fun w8 w' b4 (hj:J (pre++[(cg,⟨xa,xb,xc,xd⟩)]) w8) (k:KpD wb.heap.size D w' w8) (V:Turn [] wr [(b4,.cells #[.int .u8 xa,.int .i64 xb,.int .i64 xc,.int .i64 xd] 79)] w')=>
    (⟨hj,(hwr.trans (V.below.mono (Nat.le_trans HA0.out hwl))).trans k.below,k.same Bs _ ((V.below.block Bs (lt_of_block hBw)).trans hBw) rfl (fun hd=>(hGD wr hGr Bs (hDD wr w' Bs hGr V.below hd)).2.1 rfl),k.same Bt _ ((V.below.block Bt (lt_of_block hTw)).trans hTw) rfl (fun hd=>(hGD wr hGr Bt (hDD wr w' Bt hGr V.below hd)).2.2 rfl),Nat.le_trans hwl (Nat.le_trans V.size k.size)⟩:J (pre++[(cg,⟨xa,xb,xc,xd⟩)]) w8 /\ Below wb.heap.size wb w8 /\ w8.heap[Bs]?= some (.cells #[pt a] 112) /\ w8.heap[Bt]?= some (.cells #[pt tb] 119) /\ w.heap.size <= w8.heap.size))
   have HS2:=uh (fun w8 w' b4 (k:KpD wb.heap.size D w' w8) (V:Turn [] wr [(b4,.cells #[.int .u8 xa,.int .i64 xb,.int .i64 xc,.int .i64 xd] 79)] w')=>by
    have h9:wr.heap.size <= b4:=(V.new b4 (by simp[keys])).resolve_left (by simp[keys]);have h8:=k.same b4 _ (V.has.own _ _ (List.mem_cons_self ..)) rfl (fun hd=>by have:=(hGD wr hGr b4 (hDD wr w' b4 hGr V.below hd)).1;omega);exact((Has.one h8).range (List.mem_cons_self ..):w8.rangeAt b4 0 [.int .u8 xa,.int .i64 xb,.int .i64 xc,.int .i64 xd]))
   clear hGr hJw hcs hwr hBw hTw hnext hst e1 e2 e3 e4 hmay HY
   gi_wp2_with (first
    | (gi_at_call 126;refine(callsIn_wide.2 Hh2.out).mono ?_;rintro e w1 ⟨rfl,hB1⟩;have T2:=(hT0.out.call hB1).alloc zH;have hth:(w1.alloc zH).there w1.heap.size 0 4:=T2.there1;have HT2:=uh (T2.laid [.int .u8 xa,.int .i64 xb,.int .i64 xc,.int .i64 xd] rfl);clear hB1 T2)
    | (show wpListIn _ _ _ _ _ (⟨_,Op.store 79 _ _,_,_,_,_⟩::_) _ _;refine wpListIn_by (follows_wide _ _) rfl (by intro c h;cases h) (wp_store_mid 79 _ _ rfl _ 0 #[.int .u8 xa,.int .i64 xb,.int .i64 xc,.int .i64 xd] rfl rfl hth hszH hoX ?_);clear hth;generalize(w1.alloc zH).setCells w1.heap.size 0 [.int .u8 xa,.int .i64 xb,.int .i64 xc,.int .i64 xd]=w5 at*;generalize w1.heap.size=b4 at*;have HT5:=uh HT2.out;have hS5:=HS.out _ _ HT5.out;have hS5b:=hS5.2.1;have hr5:=hS5.2.2;have HF2:=uh (HF1.out _ HT5.out.below);clear HT2 hbx htx Hh2 hT0 hS5)
    | (show wpListIn _ _ _ _ _ (⟨_,Op.load 79 _,_,_,_,_⟩::_) _ _;first|refine wpListIn_byG (follows_wide _ _) (by rfl) (by intro c h;cases h) (wp_load_mid 79 _ rfl b4 0 rfl [.int .u8 xa,.int .i64 xb,.int .i64 xc,.int .i64 xd] _ hr5 underlying79 rfl hszH ?_)|refine wpListIn_byG (follows_wide _ _) (by rfl) (by intro c h;cases h) (wp_load_mid 79 _ rfl b4 0 rfl [.int .u8 xa,.int .i64 xb,.int .i64 xc,.int .i64 xd] _ hr6 underlying79 rfl hszH ?_))
    | (gi_at_call 128;refine(callsIn_wide.2 HF2.out).mono ?_;rintro e w6 ⟨rfl,hB6⟩;have HT6:=uh (HT5.out.call hB6);have hr6:=(HS.out _ _ HT6.out).2.2;have hc6:=hr6 3 _ rfl;obtain⟨fn,tmps,assign,body,hy,hR⟩:=HY2.out _ (HJ.out pre wr _ none HJw.out (below_grownBy HT6.out.below) (fun r e=>by cases e));have HR:=uh hR;clear hR hB6 HF2 HT5 hr5 hS5b)
    | fail)
   refine HR.out.mono ?_;rintro e w8 ⟨rfl,hJ8,hk8⟩
   · have HN:=uh (HN8.out _ _ _ hJ8 hk8 HT6.out)
     have hr8:=HS2.out _ _ _ hk8 HT6.out;have hc8:=hr8 3 _ rfl;clear hJ8 hk8 hr8 hr6 hc6 HT6 HS HS2 HN8 HR hy HY2 HF1
     gi_wp2_with fail
     go_roundw
     case rel=>exact⟨pre++[(cg,⟨xa,xb,xc,xd⟩)],post,cg+xd,by rw[Hcs.out];simp,by go_num,Hnext.out,HN.out.1,HN.out.2.1,HN.out.2.2.1,HN.out.2.2.2.1,HN.out.2.2.2.2⟩
     case measure=>simp[intOf];omega
end
section
open Go Go.RowKit Go.Shelf
def ResE (g:Nat)(A:World)(b:Nat):Prop:=b=g∨∃c f t k cap,A.heap[g]?= some (.cells c t f) /\ c[3]?= some (.slice (some ⟨b,0,none⟩) k cap)
def ResEG (g Bs Bt:Nat)(A:World):Prop:=∀b,ResE g A b -> b<A.heap.size /\ b≠Bs /\ b≠Bt
theorem ResE.old {g Bs Bt:Nat}{A B:World}{b:Nat}(hg:ResEG g Bs Bt A)(hB:Below A.heap.size A B)(h:ResE g B b):ResE g A b:=by
 rcases h with h|⟨c,f,t,k,cap,h,h2⟩
 ·exact .inl h
 · refine .inr ⟨c,f,t,k,cap,?_,h2⟩
   rw[←hB.block g (hg g (.inl rfl)).1];exact h
theorem ResE.put {g:Nat}{W:World}{l b:Nat}(hl:g<l)(o':Obj)(h:ResE g (W.putObj l o') b):ResE g W b:=by
 rcases h with h|⟨c,f,t,k,cap,h,h2⟩
 ·exact .inl h
 · refine .inr ⟨c,f,t,k,cap,?_,h2⟩
   rw[World.putObj_heap_other (by omega)]at h;exact h
theorem resE_of {e tg:TypeId}{size n cap:Nat}{xs:List Value}{ao:Option Addr}{lr:List Blk}{g m p Bs Bt:Nat}{gc:Array Value}{f:Nat×Nat}{ob op os ot:Obj}{w W:World}(h:Row e size ao n cap xs lr)(hg:gc[3]?= some (.slice ao n cap))
  (T:Turn [] w ((g,.cells gc tg f)::(m,ob)::(lr++[(p,op),(Bs,os),(Bt,ot)])) W):ResEG g Bs Bt W:=by
 intro b hb;have hnd:=T.has.nd;rcases hb with rfl|⟨c,f',t,k,cap',hb,hc⟩
 · refine⟨T.has.lt (by simp[keys]),?_,?_⟩
   ·rintro rfl;simp[keys]at hnd
   ·rintro rfl;simp[keys]at hnd
 · rw[T.has.own g _ (List.mem_cons_self ..)]at hb
   simp only[Option.some.injEq,Obj.cells.injEq]at hb;obtain⟨rfl,-,-⟩:=hb;rw[hg]at hc;simp only[Option.some.injEq,Value.slice.injEq]at hc;obtain⟨rfl,-,-⟩:=hc;rcases h.2.2.2 with⟨h2,-⟩|⟨q,cur,h2,rfl,-⟩
   ·cases h2
   · cases h2
     refine⟨T.has.lt (by simp[keys]),?_,?_⟩
     ·rintro rfl;simp[keys]at hnd
     ·rintro rfl;simp[keys]at hnd
theorem KpD.of2 {n₀:Nat}{D:World -> Nat -> Prop}{L L':List Blk}{A B:World}(h:Turn L A L' B)(hH:Has A L)(hn:n₀ <= A.heap.size)(hL:∀x∈L,n₀ <= x.1 /\ (D A x.1∨x.2.isCells=false))(hO:∀b,b<A.heap.size -> D B b -> D A b):KpD n₀ D A B:=
 ⟨⟨h.os,h.tape,h.output,h.size,fun b hb=>h.same b (Nat.lt_of_lt_of_le hb hn) (fun hm=>by obtain⟨o,ho⟩:=mem_keys.1 hm;have:=(hL _ ho).1;simp only at this;omega)⟩,
  h.size,fun b o h1 h2 h3=>(h.same b (lt_of_block h1) (fun hm=>by
   obtain⟨o',ho⟩:=mem_keys.1 hm;rcases(hL _ ho).2 with h4|h4
   ·exact h3 h4
   · have h5:=hH.own b o' ho
     rw[h1]at h5
     cases h5
     simp only at h4;rw[h2]at h4
     cases h4)).trans h1,hO⟩
theorem KpD.resE {n₀ g m:Nat}{e tg:TypeId}{size n cap n' cap':Nat}{xs xs':List Value}{ao ao':Option Addr}{lr lr' Y:List Blk}{gc gc':Array Value}{ob ob':Obj}{A B:World}(h1:Row e size ao n cap xs lr)(h2:Row e size ao' n' cap' xs' lr')(hob:ob.isCells=false)
  (hg:gc[3]?= some (.slice ao n cap))(hg':gc'[3]?= some (.slice ao' n' cap'))
  (K:Turn ((g,.cells gc tg)::(m,ob)::lr) A ((g,.cells gc' tg)::(m,ob')::(lr'++Y)) B)(hH:Has A ((g,.cells gc tg)::(m,ob)::lr))(hn:∀b∈keys ((g,.cells gc tg)::(m,ob)::lr),n₀ <= b):KpD n₀ (ResE g) A B:=by
 have hlt:=hH.lt (b:=g) (by simp[keys]);have hgn:=hn g (by simp[keys])
 have hown:∀b∈keys lr,ResE g A b:=by
  intro b hb;rcases h1.2.2.2 with⟨-,-,rfl⟩|⟨q,cur,rfl,rfl,-⟩
  ·cases hb
  · have:b=q:=by simpa [keys]using hb
    subst this;exact .inr ⟨gc,(0,0),tg,n,cap,hH.own g _ (by simp),hg⟩
 refine KpD.of2 K hH (by omega) (fun x hx=>⟨hn x.1 (mem_keys.2 ⟨x.2,hx⟩),?_⟩) (fun b hb hd=>?_)
 · rcases List.mem_cons.1 hx with rfl|hx
   ·exact .inl (.inl rfl)
   rcases List.mem_cons.1 hx with rfl|hx
   ·exact .inr hob
   ·exact .inl (hown x.1 (mem_keys.2 ⟨x.2,hx⟩))
 · rcases hd with hd|⟨c,f,t,k,cp,hd,hc⟩
   ·exact .inl hd
   · rw[K.has.own g _ (List.mem_cons_self ..)]at hd
     simp only[Option.some.injEq,Obj.cells.injEq]at hd;obtain⟨rfl,-,-⟩:=hd;rw[hg']at hc;simp only[Option.some.injEq,Value.slice.injEq]at hc;obtain⟨rfl,-,-⟩:=hc;rcases h2.2.2.2 with⟨h3,-⟩|⟨q,cur,h3,rfl,-⟩
     ·cases h3
     · cases h3
       rcases K.new b (by simp[keys])with h4|h4
       · have hnd:=K.has.nd
         simp only[keys,List.map_cons,List.mem_cons]at h4;rcases h4 with h4|h4|h4
         ·exact .inl h4
         · rw[h4]at hnd
           simp[keys]at hnd
         ·exact hown b h4
       ·omega
theorem Turn.keepsFrom {L L':List Blk}{W W':World}{B:Nat}(h:Turn L W L' W')(hH:Has W L)(hc:∀x∈L,x.2.isCells=true∨x.1<B):KeepsFrom B W W':=
 ⟨h.size,fun k o hb hk ho=>(h.same k (lt_of_block hk) (fun hm=>by
  obtain⟨o',ho'⟩:=mem_keys.1 hm;have h1:=hH.own k o' ho';rw[hk]at h1
  cases h1
  rcases hc _ ho' with h2|h2
  · rw[ho]at h2
    cases h2
  ·exact absurd h2 (Nat.not_lt.2 hb))).trans hk⟩
section
variable {P:Program} {w:World} {ops:Array Oper} {o:Oper} {a:Act} {K:Act -> World -> Prop} {Q:Exit -> Act -> World -> Prop} {q:IntKind} {mp:List (Int×Value)} {b:Nat} {ob:Obj}
theorem step_mupdate {E:Prop}(hgd:o.guard=none)(m x v:Operand)(t:TypeId)(hop:o.op=Op.mapUpdate t m x v)(kt e:TypeId)(ht:P.underlying t=some (.map kt e))(hk:P.underlying kt=some (.int q))
  (hm:a.eval m=.map (some b))(hb:w.heap[b]?= some ob)(hmo:MapObj q mp ob)(k:Int)(hx:a.eval x=.int q k)(u:Value)(hv:a.eval v=u)
  (hK:∀o',MapObj q (mput mp k u) o' -> K (a.put o.dst undef) { w with heap:=w.heap.setIfInBounds b o' }):if Region.wanted o (yielded ops a.tmps)=true then Oper.wp P o a w K Q else E:=by
 have hw:Region.wanted o (yielded ops a.tmps)=true:=by simp[Region.wanted,hgd]
 rw[if_pos hw];obtain⟨o',ho',hrun⟩:=run_mupdate hb hmo ht hk k u;unfold Oper.wp;simp only[execOp,hop,hm,hx,hv,hrun,Sem.run_bind,Result.andThen_ok,Sem.run_pure];exact hK o' ho'
end
def mpOf (l:List Nat):List (Int×Value):=l.foldl (fun(m:List (Int×Value)) (g:Nat)=>mput m (g:Int) (.bool true)) []
theorem mpOf_snoc (l:List Nat)(g:Nat):mpOf (l++[g])=mput (mpOf l) (g:Int) (.bool true):=by unfold mpOf;rw[List.foldl_append];rfl
theorem mpOf_fold:∀(l:List Nat) (m:List (Int×Value)) (k:Nat),mget (l.foldl (fun(m:List (Int×Value)) (g:Nat)=>mput m (g:Int) (.bool true)) m) (k:Int)=if k∈l then some (.bool true)else mget m (k:Int)
 | [],m,k=>by simp
 | g::l,m,k=>by
  rw[List.foldl_cons,mpOf_fold l,mget_put]
  by_cases h:k∈l
  ·rw[if_pos h,if_pos (by simp[h])]
  · rw[if_neg h]
    by_cases hk:k=g
    · subst hk
      rw[if_pos rfl,if_pos (by simp)]
    ·rw[if_neg (by omega),if_neg (by simp[h,hk])]
theorem mpOf_get (l:List Nat)(k:Nat):mget (mpOf l) (k:Int)=if k∈l then some (.bool true)else none:=mpOf_fold l [] k
theorem mapObj_cells {q:IntKind}{m:List (Int×Value)}{o:Obj}(h:MapObj q m o):o.isCells=false:=by
 obtain⟨es,c,rfl,-⟩:=h
 rfl
theorem ats_snoc (pre:List Ce)(x:Ce):ats (pre++[x])=ats pre++if x.2.tag=1 then [x.1]else []:=by
 have h:=ats_next (cs:=pre++[x]) (i:=pre.length) (c:=x) (by simp);rw[List.take_of_length_le (by simp),List.take_left']at h
 ·exact h
 ·rfl
theorem ats_len (cs:List Ce):(ats cs).length <= cs.length:=by
 unfold ats objs;rw[List.length_map];exact List.length_filter_le ..
end
section
open Go Go.RowKit
def veil:List Nat -> List Value -> List Value
 | [],L=>L
 | i::is,L=>veil is (L.set i undef)
def unveil:List Nat -> List Value -> List Value -> List Value
 | i::is,v::vs,L=>(unveil is vs L).set i v
 | _,_,L=>L
end
end Go.Proofs.YtbecgkejdacidaaGreatDoor
