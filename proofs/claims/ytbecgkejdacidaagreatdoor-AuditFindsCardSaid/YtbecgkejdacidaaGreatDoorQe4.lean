/-
  A part of a proof: texts packed by a program of mine.
  Conditions: those that each theorem states.
-/
import Derived.OwnWalkIn
import Derived.Sort.CutIn
import Derived.Lib.SlKeysI
import Derived.WideShapes
import Derived.Shelf.SlIterI.Nil
import Derived.Shelf.SortM.Plain
import Derived.Shelf.SortM.SortNone
import Derived.Ground.GgzProg
import Derived.Ground.SlgmProg
import Derived.Lib.AppendIntMem
import Derived.Laws.EntriesVeiled
import Derived.Sort.AssemblyPlain
import Derived.Sort.WalkA6
import Derived.Sort.WalkB3
import Derived.Sort.WalkC4
import Derived.Sort.Walk7
import Derived.Sort.Walk13a
import Derived.BigQuiet
import Derived.Test.YtbecgkejdacidaaGreatDoorProg
import Derived.Sort.AtCall
import Derived.Deep.CutRange
import Derived.Deep.Cut
import Derived.Lib.SliceRun
import Derived.RangeFuncSeq
import Derived.Sort.MapsRangeIn
import Derived.Sort.KeysCollected
import Derived.WalkKit
import Derived.TacticsInMore
import Derived.LoopNIn
import Derived.LoopIn
import Derived.Test.YtbecgkejdacidaaGreatDoorQe3
set_option maxRecDepth 100000
set_option maxHeartbeats 12800000
open Go.Proofs.Tryz
namespace Go.Proofs.YtbecgkejdacidaaGreatDoor
section
open Go Go.RowKit Go.Shelf Go.IntWalk
theorem bcopy (w:World)(bb n:Nat)(B:List Nat)(bo:Option Addr)(cap:Nat)(hA:BitAt w bb B n bo cap)(hl:B.length <= 65536):
  Calls prog 208 #[pt bb] w fun e w'=>∃b2 l,e=.returned (pt b2) /\ BitIs b2 B n l /\ Turn [] w l w':=by
 have Hc:=uh (fun w' (hB:Below w.heap.size w w')=>clone_u64 (R:=[]) w' ((hA.below hB).src) (Has.nil _) (u64s_one _) (by omega));have HA:=uh hA;clear hA
 go_enter func208,ntmps208
 go_wp2_with fail
 have hS:Below w.heap.size w w.drew:=(Turn.refl (Has.nil w)).drew.below;refine wp_region_noPanic ?_;refine wp_region_listed (S:=fun u=>Below w.heap.size w u) 12 [false,false,false,false,false,false,false,false,false,false,false,false] rfl rfl (by kernel_rfl) ?_;generalize w.drew=u0 at*;refine tkA 0 5 hS ?_;refine tkA 1 6 hS ?_;refine tkA 2 7 hS ?_;refine tkB 3 8 hS (fun w hSw=>(HA.out.below hSw).c0) ?_;refine tkA 5 10 hS ?_;refine tkA 6 11 hS ?_;refine tkA 7 12 hS ?_;refine tkB 8 13 hS (fun w hSw=>(HA.out.below hSw).c1) ?_;refine rdyA 4 (fun K hK=>?_)
 go_simp
 refine(Hc.out u0 hS).mono ?_;rintro e u1 ⟨ao,cp,l1,rfl,hr,T1,-⟩;rw[List.append_nil]at T1
 have T2:Turn [] w l1 u1:=by
  have h:=(Turn.of_below (Has.nil w) hS).grow T1
  rwa [List.append_nil]at h
 have Hr:=uh hr;clear T1 hr hS;refine hK.out _ _ T2.below fun _=>?_;clear hK K;simp only[st0,st1,st2];refine tkA 9 14 T2.below ?_;refine rdyA 10 (fun K hK=>?_)
 go_simp
 have T3:=T2.alloc (.cells #[.slice ao B.length cp,.int .i64 n] 270);refine hK.out _ _ T3.below fun _=>?_;clear hK K;simp only[st0,st1,st2];refine tkA 11 2 T3.below ?_;refine wpAnyH_done (by kernel_rfl) ?_ _;refine NoPanic.normal ?_;have HT3:=uh T3;clear T3 T2
 go_wp2_with fail
 go_ret;exact⟨u1.heap.size,_,rfl,⟨ao,cp,l1,Hr.out,rfl⟩,HT3.out⟩
theorem sstarts (w:World)(sb bb n:Nat)(B:List Nat)(bo:Option Addr)(cap:Nat)(c2:w.cell? ⟨sb,2,none⟩=some (pt bb))(hA:BitAt w bb B n bo cap)(hl:B.length <= 65536):
  Calls prog 157 #[pt sb] w fun e w'=>∃b2 l,e=.returned (pt b2) /\ BitIs b2 B n l /\ Turn [] w l w':=by
 have Hc:=uh (bcopy w bb n B bo cap hA hl);clear hA
 go_enter func157,ntmps157
 go_wp2_with fail
 refine Hc.out.mono ?_;rintro e w1 ⟨b2,l,rfl,hI,T⟩;have HI:=uh hI;have HT:=uh T;clear hI T Hc
 go_wp2_with fail
 go_ret;exact⟨b2,l,rfl,HI.out,HT.out⟩
end
section
open Go Go.RowKit Go.Shelf Go.IntWalk
attribute [local go_sem] Oper.semAt_some
theorem wpIn_abs {F:Fence}{n:Nat}{P:Program}{c:Code}{Q:Exit -> Act -> World -> Prop}{a:Act}{w:World}(I:World -> Prop)(h0:I w)(h:∀W,I W -> c.wpIn F n P Q a W):c.wpIn F n P Q a w:=h w h0
theorem endOf_snoc2 (pre:List Ce)(x:Ce):endOf 0 (pre++[x])=x.1+x.2.size:=endOf_snoc pre x 0
theorem wthrough (w:World)(a aw tb:Nat){W:List Nat}(tao:Option Addr)(tcap:Nat)(L:List Ty)(hA:WkAt w a aw tb W tao tcap L)(hf:W.length <= 65536)(hu:∀v∈W,v<18446744073709551616)(hTy:∀t∈L,TyIn t)(hL:L.length <= 1000)
  (cs:List Ce)(hC:Chain L W 0 cs (W.length/2)):
  Calls prog 146 #[pt a,pt tb] w fun e w'=>∃(g m:Nat) (ob:Obj) (ao:Option Addr) (cap:Nat) (lr:List Blk),e=.returned (pt g) /\ MapObj .i64 (mpOf (ats cs)) ob /\ Row 3 1 ao (ats cs).length cap (nats (ats cs)) lr /\
   Turn [] w ((g,.cells #[pt a,pt tb,.map (some m),.slice ao (ats cs).length cap,.int .i64 (endOf 0 cs:Nat)] 334)::(m,ob)::lr) w':=by
 refine(callsIn_wide (n:=6)).1 ?_;have h3:Fence.wide.fn 146:= trivial;have h6:Fence.wide.fn 201:= trivial;have h7:Fence.wide.fn 243:= trivial;have hro:Fence.wide.round=none:=rfl;have h1:1 <= 6:=by omega
 have hlen:=hC.len;have hcl:cs.length <= 32768:=by omega
 have Hend:=uh (fun x (hx:x∈cs)=>(hC.mem x hx).2.1);refine callsIn_of_wp_marks func146 rfl h3 ?_ hro;simp only[ntmps146,List.size_toArray,List.length_cons,List.length_nil,Nat.reduceAdd,Nat.reduceSub,Array.replicate_succ,Array.replicate_zero,List.push_toArray,List.append_toArray,List.nil_append,List.cons_append];have HIt:=uh (fun Bs Bt D G hGD hDD w0 hw hBs hBt=>wcells_g (6-1) (by omega) w a aw tb W tao tcap L hA hf hu hTy hL cs hC Bs Bt D G hGD hDD w0 hw hBs hBt);have hT0:=uh (Turn.refl (Has.nil w));have hmm:= @run_makeMap prog;clear hA hC hu hTy hlen
 gi_wp2_with (first
  | (gi_at_call 201;refine(wcells_in (6-1) a tb _).mono ?_;rintro e w' ⟨rfl,hw⟩;rw[hw];clear hw w')
  | fail)
 obtain⟨n4,hn4⟩:∃n4,w.heap.size=n4:=⟨_,rfl⟩;have T5:=((((hT0.out.alloc (.map #[] 0)).alloc (.cells #[pt a,pt tb,.map (some w.heap.size),.slice none 0 0,.int .i64 0] 334)).alloc (.cells #[pt (w.heap.size+1)] 260)).alloc (.cells #[pt a] 112)).alloc (.cells #[pt tb] 119);simp only[World.size_alloc]at T5;have hsz0:(((((w.alloc (.map #[] 0)).alloc (.cells #[pt a,pt tb,.map (some w.heap.size),.slice none 0 0,.int .i64 0] 334)).alloc (.cells #[pt (w.heap.size+1)] 260)).alloc (.cells #[pt a] 112)).alloc (.cells #[pt tb] 119)).heap.size=w.heap.size+1+1+1+1+1:=by simp
 generalize((((w.alloc (.map #[] 0)).alloc (.cells #[pt a,pt tb,.map (some w.heap.size),.slice none 0 0,.int .i64 0] 334)).alloc (.cells #[pt (w.heap.size+1)] 260)).alloc (.cells #[pt a] 112)).alloc (.cells #[pt tb] 119)=W0 at T5 hsz0 ⊢;have R8:Below w.heap.size w W0:=T5.below;rw[hn4]at T5 hsz0 ⊢;clear hT0 hmm;have T8:Turn [] w ((n4+1,.cells #[pt a,pt tb,.map (some n4),.slice none 0 0,.int .i64 0] 334)::(n4,.map #[] 0)::([]++[(n4+1+1,.cells #[pt (n4+1)] 260),(n4+1+1+1,.cells #[pt a] 112),(n4+1+1+1+1,.cells #[pt tb] 119)])) W0:=T5.perm po;clear T5;have hBs:W0.heap[n4+1+1+1]?= some (.cells #[pt a] 112):=T8.has.own _ _ (by simp);have hBt:W0.heap[n4+1+1+1+1]?= some (.cells #[pt tb] 119):=T8.has.own _ _ (by simp);have hw0W:w.heap.size <= W0.heap.size:=R8.size
 have hAc:∀(lr:List Blk) (ob:Obj) (gc:Array Value),(∀x∈lr,x.2.isCells=true) -> ∀x∈((n4+1,.cells gc 334):Blk)::(n4,ob)::(lr++[(n4+1+1,.cells #[pt (n4+1)] 260),(n4+1+1+1,.cells #[pt a] 112),(n4+1+1+1+1,.cells #[pt tb] 119)]),x.2.isCells=true∨x.1<W0.heap.size:=fun lr ob gc hl x hx=>by
  simp only[List.mem_cons,List.mem_append,List.not_mem_nil,or_false]at hx;rcases hx with rfl|rfl|hx|rfl|rfl|rfl
  ·exact .inl rfl
  ·exact .inr (by show n4<W0.heap.size;omega)
  ·exact .inl (hl x hx)
  ·exact .inl rfl
  ·exact .inl rfl
  ·exact .inl rfl
 apply wpIn_rangeFunc_g (β:=Nat) hro h1 (gf:=243) (lb:=#[pt (n4+1+1+1),pt (n4+1+1+1+1)]) rfl h7 (enters_of func243 (by kernel_rfl) rfl)
  (HIt.out (n4+1+1+1) (n4+1+1+1+1) (ResE (n4+1)) (ResEG (n4+1) (n4+1+1+1) (n4+1+1+1+1)) (fun A h=>h) (fun A B b hg hB=>ResE.old hg hB) W0 R8 hBs hBt)
  (fun h k=>h.t k) (KpD.b (by omega) (fun W l o' hl b=>ResE.put (by omega) o')) (Below.refl _ _) (fun _=>rfl)
  (fun pre W'=>∃ao cap lr ob,MapObj .i64 (mpOf (ats pre)) ob /\ Row 3 1 ao (ats pre).length cap (nats (ats pre)) lr /\ pre.length <= 32768 /\ Turn [] w ((n4+1,.cells #[pt a,pt tb,.map (some n4),.slice ao (ats pre).length cap,.int .i64 (endOf 0 pre:Nat)] 334)::(n4,ob)::(lr++[(n4+1+1,.cells #[pt (n4+1)] 260),(n4+1+1+1,.cells #[pt a] 112),(n4+1+1+1+1,.cells #[pt tb] 119)])) W')
  (fun x nb pre W'=>∃ao cap lr ob,MapObj .i64 (mpOf (ats pre)) ob /\ Row 3 1 ao (ats pre).length cap (nats (ats pre)) lr /\ pre.length+1 <= 32768 /\ Turn [] w ((nb,ceObj x)::(n4+1,.cells #[pt a,pt tb,.map (some n4),.slice ao (ats pre).length cap,.int .i64 (endOf 0 pre:Nat)] 334)::(n4,ob)::(lr++[(n4+1+1,.cells #[pt (n4+1)] 260),(n4+1+1+1,.cells #[pt a] 112),(n4+1+1+1+1,.cells #[pt tb] 119)])) W')
  (fun s A D row ⟨ao,cap,lr,ob,e0,e1,e2,hT⟩ hg hr=>⟨ao,cap,lr,ob,e0,e1,e2,hT.grownC hw0W (hAc lr ob _ e1.cells) hg hr⟩)
  (fun x nb s A D row ⟨ao,cap,lr,ob,e0,e1,e2,hT⟩ hg hr=>⟨ao,cap,lr,ob,e0,e1,e2,hT.grownC hw0W (by
    intro y hy;rcases List.mem_cons.1 hy with rfl|hy
    ·exact .inl rfl
    ·exact hAc lr ob _ e1.cells y hy) hg hr⟩)
  ⟨none,0,[],_,MapObj.new .i64,Row.nil _ _,by simp,T8⟩
  (fun pre W' ⟨ao,cap,lr,ob,e0,e1,e2,hT⟩=>resE_of e1 rfl hT)
 case hassign=>
  rintro l1 pre x W2 ⟨post,hnx⟩ ⟨ao,cap,lr,ob,e0,e1,e2,hT⟩;have hpl:pre.length+1 <= 32768:=by rw[hnx,List.length_append,List.length_cons]at hcl;omega
  have T2:=hT.alloc (.cells #[.int .i64 0,.int .u8 0,.int .i64 0,.int .i64 0,.int .i64 0] 81);have hth:(W2.alloc (.cells #[.int .i64 0,.int .u8 0,.int .i64 0,.int .i64 0,.int .i64 0] 81)).there W2.heap.size 0 5:=T2.there1;have HT2:=uh (T2.laid [.int .i64 x.1,.int .u8 x.2.tag,.int .i64 x.2.typ,.int .i64 x.2.len,.int .i64 x.2.size] rfl);have HX:=uh (((Turn.refl (Has.nil W2)).alloc (.cells #[.int .i64 0,.int .u8 0,.int .i64 0,.int .i64 0,.int .i64 0] 81)).laid [.int .i64 x.1,.int .u8 x.2.tag,.int .i64 x.2.typ,.int .i64 x.2.len,.int .i64 x.2.size] rfl);have hszC:=sz_cell;have hoC:=ce_one x;have hGb:=resE_of e1 rfl hT;have hE:=uh (⟨e0,e1⟩:MapObj .i64 (mpOf (ats pre)) ob /\ Row 3 1 ao (ats pre).length cap (nats (ats pre)) lr);have hw2:=hT.size;unfold ceArgs;clear T2 hnx hT e1 e0
  gi_wp2_with (first
   | (show wpListIn _ _ _ _ _ (⟨_,Op.store 81 _ _,_,_,_,_⟩::_) _ _;refine wpListIn_by (follows_round _ _ _) rfl (by intro c h;cases h) (wp_store_mid 81 _ _ rfl _ 0 #[.int .i64 x.1,.int .u8 x.2.tag,.int .i64 x.2.typ,.int .i64 x.2.len,.int .i64 x.2.size] rfl rfl hth hszC hoC ?_);clear hth)
   | fail)
  have HK:=uh (⟨((KeepsOthers.alloc _ _).trans (keepsOthers_setCells _ _ _)).from _,KpD.of HX.out (by omega) (fun b hb=>by cases hb) (fun b hb hd=>ResE.old hGb HX.out.below hd)⟩:
   KeepsFrom W0.heap.size W2 ((W2.alloc (.cells #[.int .i64 0,.int .u8 0,.int .i64 0,.int .i64 0,.int .i64 0] 81)).setCells W2.heap.size 0 [.int .i64 x.1,.int .u8 x.2.tag,.int .i64 x.2.typ,.int .i64 x.2.len,.int .i64 x.2.size]) /\ KpD w.heap.size (ResE (n4+1)) W2 ((W2.alloc (.cells #[.int .i64 0,.int .u8 0,.int .i64 0,.int .i64 0,.int .i64 0] 81)).setCells W2.heap.size 0 [.int .i64 x.1,.int .u8 x.2.tag,.int .i64 x.2.typ,.int .i64 x.2.len,.int .i64 x.2.size]))
  clear HX hoC hGb;generalize(W2.alloc (.cells #[.int .i64 0,.int .u8 0,.int .i64 0,.int .i64 0,.int .i64 0] 81)).setCells W2.heap.size 0 [.int .i64 x.1,.int .u8 x.2.tag,.int .i64 x.2.typ,.int .i64 x.2.len,.int .i64 x.2.size]=W3 at*;generalize W2.heap.size=nb at*;exact⟨HK.out.1,HK.out.2,nb,rfl,ao,cap,lr,ob,hE.out.1,hE.out.2,hpl,HT2.out⟩
 case hbody=>
  rintro l1 pre x nb W2 ⟨post,hnx⟩ ⟨ao,cap,lr,ob,e0,e1,e2,hT⟩;have hxe:x.1+x.2.size <= 32768:=by have:=Hend.out x (by rw[hnx];simp);omega
  have hal:=ats_len pre
  -- what this client turns: L0; what lies beside it: R0
  have hT0:Turn [] w (((n4+1,.cells #[pt a,pt tb,.map (some n4),.slice ao (ats pre).length cap,.int .i64 (endOf 0 pre:Nat)] 334)::(n4,ob)::lr)++((nb,ceObj x)::[(n4+1+1,.cells #[pt (n4+1)] 260),(n4+1+1+1,.cells #[pt a] 112),(n4+1+1+1+1,.cells #[pt tb] 119)])) W2:=hT.perm po;have hH0:Has W2 ((n4+1,.cells #[pt a,pt tb,.map (some n4),.slice ao (ats pre).length cap,.int .i64 (endOf 0 pre:Nat)] 334)::(n4,ob)::lr):=hT0.has.left;have HTK:=uh (fun w' (L1:List Blk) (K:Turn ((n4+1,.cells #[pt a,pt tb,.map (some n4),.slice ao (ats pre).length cap,.int .i64 (endOf 0 pre:Nat)] 334)::(n4,ob)::lr) W2 L1 w')=>hT0.trans (K.more hT0.has));have HH0:=uh hH0;have hn0:∀b∈keys ((n4+1,.cells #[pt a,pt tb,.map (some n4),.slice ao (ats pre).length cap,.int .i64 (endOf 0 pre:Nat)] 334)::(n4,ob)::lr),w.heap.size <= b:=fun b hb=>(hT0.new b (by rw[keys_append,List.mem_append];exact .inl hb)).resolve_left (by simp[keys])
  have HFin:=uh (fun w' (ao':Option Addr) (n' cap':Nat) (xs':List Value) (en:Int) (ob':Obj) (lr' Z:List Blk) (h2:Row 3 1 ao' n' cap' xs' lr') (K:Turn ((n4+1,.cells #[pt a,pt tb,.map (some n4),.slice ao (ats pre).length cap,.int .i64 (endOf 0 pre:Nat)] 334)::(n4,ob)::lr) W2 ((n4+1,.cells #[pt a,pt tb,.map (some n4),.slice ao' n' cap',.int .i64 en] 334)::(n4,ob')::(lr'++Z)) w')=>
   (⟨Turn.keepsFrom K hH0 (fun y hy=>by
       rcases List.mem_cons.1 hy with rfl|hy
       ·exact .inl rfl
       rcases List.mem_cons.1 hy with rfl|hy
       ·exact .inr (by show n4<W0.heap.size;omega)
       ·exact .inl (e1.cells y hy)),KpD.resE e1 h2 (mapObj_cells e0) rfl rfl K hH0 hn0⟩:KeepsFrom W0.heap.size W2 w' /\ KpD w.heap.size (ResE (n4+1)) W2 w'))
  have HS:=uh (fun w' (ao':Option Addr) (n' cap':Nat) (en:Int) (Z:List Blk) (K:Turn ((n4+1,.cells #[pt a,pt tb,.map (some n4),.slice ao (ats pre).length cap,.int .i64 (endOf 0 pre:Nat)] 334)::(n4,ob)::lr) W2 ((n4+1,.cells #[pt a,pt tb,.map (some n4),.slice ao' n' cap',.int .i64 en] 334)::Z) w')=>by
   have T:=HTK.out w' _ K;have hxr:=T.has.range (b:=nb) (c:=#[.int .i64 x.1,.int .u8 x.2.tag,.int .i64 x.2.typ,.int .i64 x.2.len,.int .i64 x.2.size]) (e:=81) (f:=(0,0)) (by simp[ceObj])
   exact(⟨T.has.cell (b:=n4+1+1) (c:=#[pt (n4+1)]) (e:=260) (f:=(0,0)) (by simp) 0,K.cell1 2,K.cell1 3,hxr⟩:
    w'.cell? ⟨n4+1+1,0,none⟩=some (pt (n4+1)) /\ w'.cell? ⟨n4+1,2,none⟩=some (.map (some n4)) /\ w'.cell? ⟨n4+1,3,none⟩=some (.slice ao' n' cap') /\ w'.rangeAt nb 0 [.int .i64 x.1,.int .u8 x.2.tag,.int .i64 x.2.typ,.int .i64 x.2.len,.int .i64 x.2.size]))
  have HE0:=uh e0;have HE1:=uh e1;have HSn:=uh (ats_snoc pre x);have HEn:=uh (endOf_snoc2 pre x);have hK0:=Turn.refl hH0;have hS0:=HS.out W2 _ _ _ _ _ hK0;have q1:=hS0.2.2.2 1 _ rfl;have h63:(ats pre).length+1 <= maxLen:=by unfold maxLen;omega
  have hby:((ats pre).length+1)*8 <= 140737488355328:=by omega
  clear e0 e1 hT hT0 hH0 hn0 hnx
  by_cases ht:x.2.tag=1
  · rw[if_pos ht]at HSn
    have k1:((x.2.tag:Int) == 1)=true:=(by rw[beq_iff_eq];omega);have k2:(x.2.tag == 1)=true:=(by rw[beq_iff_eq];exact ht);have HK0:=uh hK0.drew;clear hK0 ht hS0
    gi_wp2_with fail
    clear q1;have hS1:=HS.out _ _ _ _ _ _ HK0.out;refine wpIn_region_round (S:=fun W'=>W'.cell? ⟨n4+1+1,0,none⟩=some (pt (n4+1)) /\ W'.cell? ⟨n4+1,2,none⟩=some (.map (some n4)) /\ W'.cell? ⟨n4+1,3,none⟩=some (.slice ao (ats pre).length cap) /\ W'.rangeAt nb 0 [.int .i64 x.1,.int .u8 x.2.tag,.int .i64 x.2.typ,.int .i64 x.2.len,.int .i64 x.2.size]) 7 [false,false,false,false,false,false,false] rfl rfl (by kernel_rfl) (by rfl) (by rintro⟨a,w,h⟩;exact h) ?_;refine tkB 0 20 hS1 (fun w hSw=>hSw.1) ?_;refine tkA 1 21 hS1 ?_;refine tkA 2 22 hS1 ?_;refine tkB 3 23 hS1 (fun w hSw=>hSw.2.1) ?_;refine tkA 4 24 hS1 ?_;refine tkB 5 25 hS1 (fun w hSw=>hSw.2.2.2 0 _ rfl) ?_;refine rdyA 6 (fun K hK=>?_);refine step_mupdate (q:=.i64) rfl _ _ _ 332 rfl 3 4 underlying332 underlying3 rfl (HK0.out.has.own n4 ob (by simp)) HE0.out (x.1:Int) rfl (.bool true) rfl ?_;intro ob' hob';have K2:=(HK0.out.swap.setBlk ob').swap;have hS2:=HS.out _ _ _ _ _ _ K2;have HK2:=uh K2;have Hob:=uh hob';refine hK.out _ _ hS2 fun _=>?_;clear hK K K2 hob' hS1 HK0;simp only[st0,st1,st2];refine wpAnyH_done (by kernel_rfl) ?_ _;clear hS2
    gi_wp2_with fail
    refine wpIn_abs (fun W'=>Turn ((n4+1,.cells #[pt a,pt tb,.map (some n4),.slice ao (ats pre).length cap,.int .i64 (endOf 0 pre:Nat)] 334)::(n4,ob)::lr) W2 ((n4+1,.cells #[pt a,pt tb,.map (some n4),.slice ao (ats pre).length cap,.int .i64 (endOf 0 pre:Nat)] 334)::(n4,ob')::lr) W'.drew) HK2.out.drew fun W3 K3=>?_;clear HK2;refine wpIn_region_round (S:=fun W'=>W'.cell? ⟨n4+1+1,0,none⟩=some (pt (n4+1)) /\ W'.rangeAt nb 0 [.int .i64 x.1,.int .u8 x.2.tag,.int .i64 x.2.typ,.int .i64 x.2.len,.int .i64 x.2.size]) 12 [false,false,false,false,false,false,false,false,false,false,false,false] rfl rfl (by kernel_rfl) (by rfl) (by rintro⟨a,w,h⟩;exact h) ?_;generalize W3.drew=W5 at*;have HK3:=uh K3;have hS3:=HS.out _ _ _ _ _ _ K3;have q3:=hS3.2.2.1;have hS3b:W5.cell? ⟨n4+1+1,0,none⟩=some (pt (n4+1)) /\ W5.rangeAt nb 0 [.int .i64 x.1,.int .u8 x.2.tag,.int .i64 x.2.typ,.int .i64 x.2.len,.int .i64 x.2.size]:=⟨hS3.1,hS3.2.2.2⟩;have K4:=K3.alloc (.cells #[.int .i64 x.1] 3);have hS4:=HS.out _ _ _ _ _ _ (K4.perm (l2:=(n4+1,.cells #[pt a,pt tb,.map (some n4),.slice ao (ats pre).length cap,.int .i64 (endOf 0 pre:Nat)] 334)::((n4,ob')::(lr++[(W5.heap.size,(.cells #[.int .i64 x.1] 3))]))) po);have q4:=hS4.2.2.1
    have hS4b:=(⟨hS4.1,hS4.2.2.2⟩:(fun W'=>W'.cell? ⟨n4+1+1,0,none⟩=some (pt (n4+1)) /\ W'.rangeAt nb 0 [.int .i64 x.1,.int .u8 x.2.tag,.int .i64 x.2.typ,.int .i64 x.2.len,.int .i64 x.2.size]) (W5.alloc (.cells #[.int .i64 x.1] 3)));have HK4:=uh K4;clear K3 K4 hS3 hS4;refine tkB 0 26 hS3b (fun w hSw=>hSw.1) ?_;refine tkB 1 27 hS3b (fun w hSw=>hSw.1) ?_;refine tkA 2 28 hS3b ?_;refine tkA 3 29 hS3b ?_;refine tkA 5 31 hS3b ?_;refine tkB 6 32 hS3b (fun w hSw=>hSw.2 0 _ rfl) ?_;refine wpAnyH_ready (rs:=[4,7]) (by kernel_rfl) (by simp) (AllReadyH.cons rfl (fun K hK=>?_) (AllReadyH.cons rfl (fun K hK=>?_) AllReadyH.nil))
    · go_simp
      refine hK.out _ _ hS3b fun _=>?_;clear hK K;simp only[st0,st1,st2];refine rdyA 7 (fun K hK=>?_)
      go_simp
      refine hK.out _ _ hS4b fun _=>?_;clear hK K;simp only[st0,st1,st2];refine rdyA 8 (fun K hK=>?_);refine step_append_row rfl _ _ rfl el_int rfl HE1.out (R:=[(W5.heap.size,(.cells #[.int .i64 x.1] 3)),(n4+1,.cells #[pt a,pt tb,.map (some n4),.slice ao (ats pre).length cap,.int .i64 (endOf 0 pre:Nat)] 334),(n4,ob')]) (HK4.out.perm po).has rfl (news:=[.int .i64 x.1]) rfl (news_of (heap_alloc_new _ _)) (by simp[Value.oneCell']) h63 hby ?_;intro a9 p9 l9 w4 hr9 V4 hno;have K5:=((HK4.out.perm po).trans V4).perm (l2:=(n4+1,.cells #[pt a,pt tb,.map (some n4),.slice ao (ats pre).length cap,.int .i64 (endOf 0 pre:Nat)] 334)::((n4,ob')::(l9++[(W5.heap.size,(.cells #[.int .i64 x.1] 3))]))) po;have hS5:=HS.out _ _ _ _ _ _ K5;have Hr9:=uh hr9;have hq5:=K5.cell1 3;have hf5:=K5.free1 3;have hS5b:w4.cell? ⟨n4+1+1,0,none⟩=some (pt (n4+1)) /\ w4.rangeAt nb 0 [.int .i64 x.1,.int .u8 x.2.tag,.int .i64 x.2.typ,.int .i64 x.2.len,.int .i64 x.2.size]:=⟨hS5.1,hS5.2.2.2⟩
      have K6:Turn ((n4+1,.cells #[pt a,pt tb,.map (some n4),.slice ao (ats pre).length cap,.int .i64 (endOf 0 pre:Nat)] 334)::(n4,ob)::lr) W2 ((n4+1,.cells #[pt a,pt tb,.map (some n4),.slice a9 ((ats pre).length+1) p9,.int .i64 (endOf 0 pre:Nat)] 334)::((n4,ob')::(l9++[(W5.heap.size,(.cells #[.int .i64 x.1] 3))]))) _:=K5.setCell 3 (.slice a9 ((ats pre).length+1) p9);have hS6:=HS.out _ _ _ _ _ _ K6;have hS6b:=(⟨hS6.1,hS6.2.2.2⟩:(fun W'=>W'.cell? ⟨n4+1+1,0,none⟩=some (pt (n4+1)) /\ W'.rangeAt nb 0 [.int .i64 x.1,.int .u8 x.2.tag,.int .i64 x.2.typ,.int .i64 x.2.len,.int .i64 x.2.size]) (w4.setCell ⟨n4+1,3,none⟩ (.slice a9 ((ats pre).length+1) p9)));have HK6:=uh K6;refine hK.out _ _ hS5b fun _=>?_;clear hK K V4 hno hr9 HK4 hS5 K5 hS6 K6;simp only[st0,st1,st2];refine tkA 9 35 hS5b ?_;refine tkA 10 36 hS5b ?_;clear hS5b;refine rdyA 11 (fun K hK=>?_)
      go_simp
      refine hK.out _ _ hS6b fun _=>?_;clear hK K hq5 hf5;generalize w4.setCell ⟨n4+1,3,none⟩ (.slice a9 ((ats pre).length+1) p9)=w7 at*;simp only[st0,st1,st2];refine wpAnyH_done (by kernel_rfl) ?_ _;have hS7:=HS.out _ _ _ _ _ _ HK6.out;have p1:=hS7.1;have p2:=hS7.2.2.2 0 _ rfl;have p3:=hS7.2.2.2 4 _ rfl;have p4:=HK6.out.cell1 4;have p5:=HK6.out.free1 4;have HK7:=uh (HK6.out.setCell 4 (.int .i64 (x.1+x.2.size)));clear hS7 hS6b HK6
      gi_wp2_with fail
      have hkk:=HFin.out _ a9 ((ats pre).length+1) p9 _ _ ob' l9 [(W5.heap.size,(.cells #[.int .i64 x.1] 3))] Hr9.out HK7.out;have hT9:=HTK.out _ _ HK7.out;have hl1:(ats (pre++[x])).length=(ats pre).length+1:=(by rw[HSn.out];simp);refine⟨hkk.1,hkk.2,a9,p9,l9,ob',by rw[HSn.out,mpOf_snoc];exact Hob.out,?_,by simp;omega,?_⟩
      · rw[hl1,HSn.out,nats_append]
        exact Hr9.out
      · rw[hl1,HEn.out]
        exact(hT9.perm (l2:=[(W5.heap.size,(.cells #[.int .i64 x.1] 3)),(nb,ceObj x)]++((n4+1,.cells #[pt a,pt tb,.map (some n4),.slice a9 ((ats pre).length+1) p9,.int .i64 ((x.1+x.2.size:Nat):Int)] 334)::(n4,ob')::(l9++[(n4+1+1,.cells #[pt (n4+1)] 260),(n4+1+1+1,.cells #[pt a] 112),(n4+1+1+1+1,.cells #[pt tb] 119)]))) po).drop
    · go_simp
      refine hK.out _ _ hS4b fun _=>?_;clear hK K;simp only[st0,st1,st2];refine rdyA 4 (fun K hK=>?_)
      go_simp
      refine hK.out _ _ hS4b fun _=>?_;clear hK K;simp only[st0,st1,st2];refine rdyA 8 (fun K hK=>?_);refine step_append_row rfl _ _ rfl el_int rfl HE1.out (R:=[(W5.heap.size,(.cells #[.int .i64 x.1] 3)),(n4+1,.cells #[pt a,pt tb,.map (some n4),.slice ao (ats pre).length cap,.int .i64 (endOf 0 pre:Nat)] 334),(n4,ob')]) (HK4.out.perm po).has rfl (news:=[.int .i64 x.1]) rfl (news_of (heap_alloc_new _ _)) (by simp[Value.oneCell']) h63 hby ?_;intro a9 p9 l9 w4 hr9 V4 hno;have K5:=((HK4.out.perm po).trans V4).perm (l2:=(n4+1,.cells #[pt a,pt tb,.map (some n4),.slice ao (ats pre).length cap,.int .i64 (endOf 0 pre:Nat)] 334)::((n4,ob')::(l9++[(W5.heap.size,(.cells #[.int .i64 x.1] 3))]))) po;have hS5:=HS.out _ _ _ _ _ _ K5;have Hr9:=uh hr9;have hq5:=K5.cell1 3;have hf5:=K5.free1 3;have hS5b:w4.cell? ⟨n4+1+1,0,none⟩=some (pt (n4+1)) /\ w4.rangeAt nb 0 [.int .i64 x.1,.int .u8 x.2.tag,.int .i64 x.2.typ,.int .i64 x.2.len,.int .i64 x.2.size]:=⟨hS5.1,hS5.2.2.2⟩
      have K6:Turn ((n4+1,.cells #[pt a,pt tb,.map (some n4),.slice ao (ats pre).length cap,.int .i64 (endOf 0 pre:Nat)] 334)::(n4,ob)::lr) W2 ((n4+1,.cells #[pt a,pt tb,.map (some n4),.slice a9 ((ats pre).length+1) p9,.int .i64 (endOf 0 pre:Nat)] 334)::((n4,ob')::(l9++[(W5.heap.size,(.cells #[.int .i64 x.1] 3))]))) _:=K5.setCell 3 (.slice a9 ((ats pre).length+1) p9);have hS6:=HS.out _ _ _ _ _ _ K6;have hS6b:=(⟨hS6.1,hS6.2.2.2⟩:(fun W'=>W'.cell? ⟨n4+1+1,0,none⟩=some (pt (n4+1)) /\ W'.rangeAt nb 0 [.int .i64 x.1,.int .u8 x.2.tag,.int .i64 x.2.typ,.int .i64 x.2.len,.int .i64 x.2.size]) (w4.setCell ⟨n4+1,3,none⟩ (.slice a9 ((ats pre).length+1) p9)));have HK6:=uh K6;refine hK.out _ _ hS5b fun _=>?_;clear hK K V4 hno hr9 HK4 hS5 K5 hS6 K6;simp only[st0,st1,st2];refine tkA 9 35 hS5b ?_;refine tkA 10 36 hS5b ?_;clear hS5b;refine rdyA 11 (fun K hK=>?_)
      go_simp
      refine hK.out _ _ hS6b fun _=>?_;clear hK K hq5 hf5;generalize w4.setCell ⟨n4+1,3,none⟩ (.slice a9 ((ats pre).length+1) p9)=w7 at*;simp only[st0,st1,st2];refine wpAnyH_done (by kernel_rfl) ?_ _;have hS7:=HS.out _ _ _ _ _ _ HK6.out;have p1:=hS7.1;have p2:=hS7.2.2.2 0 _ rfl;have p3:=hS7.2.2.2 4 _ rfl;have p4:=HK6.out.cell1 4;have p5:=HK6.out.free1 4;have HK7:=uh (HK6.out.setCell 4 (.int .i64 (x.1+x.2.size)));clear hS7 hS6b HK6
      gi_wp2_with fail
      have hkk:=HFin.out _ a9 ((ats pre).length+1) p9 _ _ ob' l9 [(W5.heap.size,(.cells #[.int .i64 x.1] 3))] Hr9.out HK7.out;have hT9:=HTK.out _ _ HK7.out;have hl1:(ats (pre++[x])).length=(ats pre).length+1:=(by rw[HSn.out];simp);refine⟨hkk.1,hkk.2,a9,p9,l9,ob',by rw[HSn.out,mpOf_snoc];exact Hob.out,?_,by simp;omega,?_⟩
      · rw[hl1,HSn.out,nats_append]
        exact Hr9.out
      · rw[hl1,HEn.out]
        exact(hT9.perm (l2:=[(W5.heap.size,(.cells #[.int .i64 x.1] 3)),(nb,ceObj x)]++((n4+1,.cells #[pt a,pt tb,.map (some n4),.slice a9 ((ats pre).length+1) p9,.int .i64 ((x.1+x.2.size:Nat):Int)] 334)::(n4,ob')::(l9++[(n4+1+1,.cells #[pt (n4+1)] 260),(n4+1+1+1,.cells #[pt a] 112),(n4+1+1+1+1,.cells #[pt tb] 119)]))) po).drop
  · rw[if_neg ht,List.append_nil]at HSn
    have k1:((x.2.tag:Int) == 1)=false:=(by rw[beq_eq_false_iff_ne];omega);have k2:(x.2.tag == 1)=false:=(by rw[beq_eq_false_iff_ne];exact ht);have p1:=hS0.1;have p2:=hS0.2.2.2 0 _ rfl;have p3:=hS0.2.2.2 4 _ rfl;have p4:=hK0.cell1 4;have p5:=hK0.free1 4;have HK7:=uh (hK0.setCell 4 (.int .i64 (x.1+x.2.size)));clear hK0 ht hS0
    gi_wp2_with fail
    have hkk:=HFin.out _ ao (ats pre).length cap _ _ ob lr [] HE1.out (by rw[List.append_nil];exact HK7.out);have hT9:=HTK.out _ _ HK7.out;refine⟨hkk.1,hkk.2,ao,cap,lr,ob,by rw[HSn.out];exact HE0.out,by rw[HSn.out];exact HE1.out,by simp;omega,?_⟩;rw[HSn.out,HEn.out];exact(hT9.perm (l2:=[(nb,ceObj x)]++((n4+1,.cells #[pt a,pt tb,.map (some n4),.slice ao (ats pre).length cap,.int .i64 ((x.1+x.2.size:Nat):Int)] 334)::(n4,ob)::(lr++[(n4+1+1,.cells #[pt (n4+1)] 260),(n4+1+1+1,.cells #[pt a] 112),(n4+1+1+1+1,.cells #[pt tb] 119)]))) po).drop
 case hdone=>
  rintro D xs W2 hD rfl ⟨ao,cap,lr,ob,e0,e1,e2,hT⟩ hK;have q0:W2.cell? ⟨n4+1+1,0,none⟩=some (pt (n4+1)):=hT.has.cell (b:=n4+1+1) (c:=#[pt (n4+1)]) (e:=260) (f:=(0,0)) (by simp) 0;have HT10:=uh (hT.grownC (B:=W0.heap.size) hw0W (hAc lr ob _ e1.cells) (grownBy_putObj' W2 D (.deferred none)) (fun r e=>by cases e;exact⟨hD,_,hK,rfl⟩));have HE:=uh (⟨e0,e1⟩:MapObj .i64 (mpOf (ats xs)) ob /\ Row 3 1 ao (ats xs).length cap (nats (ats xs)) lr);clear hT e0 e1
  gi_wp2_with fail
  refine⟨by simp,.inl ⟨_,_,rfl,run_takeDeferred hK,?_⟩⟩;refine⟨pt (n4+1),?_,n4+1,n4,ob,ao,cap,lr,rfl,HE.out.1,HE.out.2,(HT10.out.perm (l2:=[(n4+1+1,.cells #[pt (n4+1)] 260),(n4+1+1+1,.cells #[pt a] 112),(n4+1+1+1+1,.cells #[pt tb] 119)]++((n4+1,.cells #[pt a,pt tb,.map (some n4),.slice ao (ats xs).length cap,.int .i64 (endOf 0 xs:Nat)] 334)::(n4,ob)::lr)) po).drop⟩;simp[results,results146,go_sem]
end
section
open Go Go.RowKit Go.IntWalk
section
variable {P:Program} {w:World} {ops:Array Oper} {rest:List Oper} {o:Oper} {a:Act} {Q:Exit -> Act -> World -> Prop} {q:IntKind} {mp:List (Int×Value)} {b:Nat} {ob:Obj}
theorem wpList_mlookup_g (hw:Region.wanted o (yielded ops a.tmps)=true)(m x:Operand)(t:TypeId)(ok:Bool)(hop:o.op=Op.lookup t m x ok)(kt e:TypeId)(ht:P.underlying t=some (.map kt e))(hk:P.underlying kt=some (.int q))(z:Value)(hz:(zeroValue e).run P w=.ok z w)
  (hm:a.eval m=.map (some b))(hb:w.heap[b]?= some ob)(hmo:MapObj q mp ob)(k:Int)(hx:a.eval x=.int q k)
  (hK:wpList P ops Q rest (a.put o.dst (let v:=(mget mp k).getD z;if ok then .tuple #[v,.bool (mget mp k).isSome]else v)) w):wpList P ops Q (o::rest) a w:=by
 refine wpList_wanted hw fun K' hK'=>?_;have hrun:=run_mlookup hb hmo ht hk hz k ok;unfold Oper.wp;simp only[execOp,hop,hm,hx,hrun,Sem.run_bind,Result.andThen_ok,Sem.run_pure];exact hK' _ _ hK
end
theorem sword (w:World)(v:Nat)(hv:v<18446744073709551616):Calls prog 209 #[.int .u64 v] w fun e w'=>e=.returned (.tuple #[.int .i64 (if 1048576 <= v /\ v<1114112 then((v-1048576:Nat):Int)else 0),.bool (decide (1048576 <= v /\ v<1114112))]) /\ w'=w:=by
 by_cases h1:v<1048576
 · have k1:decide ((v:Int)<1048576)=true:=decide_eq_true (by omega)
   have k2:decide (v<1048576)=true:=decide_eq_true h1;have hn:¬(1048576 <= v /\ v<1114112):=(by omega);rw[if_neg hn,decide_eq_false hn];clear hn h1
   go_enter func209,ntmps209
   go_wp2
   refine bodyPost_ret (results_tmp2 rfl _ _ _) rfl ?_;exact⟨rfl,rfl⟩
 · have k1:decide ((v:Int)<1048576)=false:=decide_eq_false (by omega)
   have k2:decide (v<1048576)=false:=decide_eq_false h1;have hw:IntKind.u64.wrap ((v:Int)-1048576)=((v-1048576:Nat):Int):=by rw[IntKind.wrap_u64];omega
   by_cases h2:v<1114112
   · have hn:1048576 <= v /\ v<1114112:=by omega
     rw[if_pos hn,decide_eq_true hn];obtain⟨u,hu⟩:∃u,v-1048576=u:=⟨_,rfl⟩;have hus:u<65536:=(by omega);have k3:decide ((65536:Int) <= (u:Int))=false:=decide_eq_false (by omega);have k4:decide (65536 <= u)=false:=decide_eq_false (by omega);have hcv:IntKind.i64.wrap (u:Int)=(u:Int):=i64_in _ (by omega);rw[hu]at hw ⊢;clear hu hn h1 h2
     go_enter func209,ntmps209
     go_wp2
     refine bodyPost_ret (results_tmp2 rfl _ _ _) rfl ?_;exact⟨rfl,rfl⟩
   · have hn:¬(1048576 <= v /\ v<1114112):=by omega
     rw[if_neg hn,decide_eq_false hn];obtain⟨u,hu⟩:∃u,v-1048576=u:=⟨_,rfl⟩;have k3:decide ((65536:Int) <= (u:Int))=true:=decide_eq_true (by omega);have k4:decide (65536 <= u)=true:=decide_eq_true (by omega);rw[hu]at hw;clear hu hn h1 h2
     go_enter func209,ntmps209
     go_wp2
     refine bodyPost_ret (results_tmp2 rfl _ _ _) rfl ?_;exact⟨rfl,rfl⟩
def tgt (A:List Nat)(v:Nat):Int:=if 1048576 <= v /\ v<1114112 /\ v%2=0 /\ (v-1048576)/2∈A then(((v-1048576)/2:Nat):Int)else -1
theorem wtarget (w:World)(g m:Nat)(ob:Obj)(A:List Nat)(hc:w.cell? ⟨g,2,none⟩=some (.map (some m)))(hb:w.heap[m]?= some ob)(hmo:MapObj .i64 (mpOf A) ob)(v:Nat)(hv:v<18446744073709551616):
  Calls prog 203 #[pt g,.int .u64 v] w fun e w'=>e=.returned (.int .i64 (tgt A v)) /\ w'=w:=by
 have HW:=uh (sword w v hv);have HB:=uh hb;have HM:=uh hmo;have hz:∀w,(zeroValue 4).run prog w=.ok (.bool false) w:=fun _=>by kernel_rfl
 clear hb hmo
 by_cases h1:1048576 <= v /\ v<1114112
 · rw[if_pos h1,decide_eq_true h1]at HW
   obtain⟨u,hu⟩:∃u,v-1048576=u:=⟨_,rfl⟩;have hus:u<65536:=(by omega);have hm2:((u:Int)).tmod 2=((u%2:Nat):Int):=tmod_nat _ 2;have hm3:((u:Int))%2=((u%2:Nat):Int):=(by omega);have hd2:((u:Int)).tdiv 2=((u/2:Nat):Int):=tdiv_nat _ 2;have hd3:((u:Int))/2=((u/2:Nat):Int):=by omega
   by_cases h2:u%2=0
   · obtain⟨d,hd⟩:∃d,u/2=d:=⟨_,rfl⟩
     by_cases h3:d∈A
     · have ht:tgt A v=(d:Int):=by unfold tgt;rw[hu,hd,if_pos ⟨h1.1,h1.2,by omega,h3⟩]
       have HG:=uh (mpOf_get A d);rw[if_pos h3]at HG;rw[ht];rw[hu]at HW;rw[hd]at hd2 hd3;rw[h2]at hm2 hm3;clear ht hd hu h1 h3 h2
       go_enter func203,ntmps203
       go_wp2_with fail
       refine HW.out.mono ?_;rintro e w2 ⟨rfl,hw⟩;subst hw
       go_wp2_with (first
        | (show wpList _ _ _ (⟨_,Op.lookup 332 _ _ _,_,_,_,_⟩::_) _ _;refine wpList_mlookup_g (q:=.i64) (by rfl) _ _ 332 false rfl 3 4 underlying332 underlying3 (.bool false) (hz _) rfl HB.out HM.out (d:Int) rfl ?_;rw[HG.out];simp only[Option.getD_some])
        | fail)
       go_ret;exact⟨rfl,rfl⟩
     · have ht:tgt A v= -1:=by unfold tgt;rw[hu,hd,if_neg (fun h=>h3 h.2.2.2)]
       have HG:=uh (mpOf_get A d);rw[if_neg h3]at HG;rw[ht];rw[hu]at HW;rw[hd]at hd2 hd3;rw[h2]at hm2 hm3;clear ht hd hu h1 h3 h2
       go_enter func203,ntmps203
       go_wp2_with fail
       refine HW.out.mono ?_;rintro e w2 ⟨rfl,hw⟩;subst hw
       go_wp2_with (first
        | (show wpList _ _ _ (⟨_,Op.lookup 332 _ _ _,_,_,_,_⟩::_) _ _;refine wpList_mlookup_g (q:=.i64) (by rfl) _ _ 332 false rfl 3 4 underlying332 underlying3 (.bool false) (hz _) rfl HB.out HM.out (d:Int) rfl ?_;rw[HG.out];simp only[Option.getD_none])
        | fail)
       go_ret;exact⟨rfl,rfl⟩
   · have ht:tgt A v= -1:=by unfold tgt;rw[if_neg (fun h=>by omega)]
     have hm1:u%2=1:=(by omega);rw[ht];rw[hu]at HW;rw[hm1]at hm2 hm3;clear ht hu h1 h2 hm1
     go_enter func203,ntmps203
     go_wp2_with fail
     refine HW.out.mono ?_;rintro e w2 ⟨rfl,hw⟩;subst hw
     go_wp2_with fail
     go_ret;exact⟨rfl,rfl⟩
 · rw[if_neg h1,decide_eq_false h1]at HW
   have ht:tgt A v= -1:=(by unfold tgt;rw[if_neg (fun h=>h1 ⟨h.1,h.2.1⟩)]);rw[ht];clear ht h1
   go_enter func203,ntmps203
   go_wp2_with fail
   refine HW.out.mono ?_;rintro e w2 ⟨rfl,hw⟩;subst hw
   go_wp2_with fail
   go_ret;exact⟨rfl,rfl⟩
def prevB (B:List Nat):Nat -> Option Nat
 | 0=>if bitAt B 0 then some 0 else none
 | i+1=>if bitAt B (i+1)then some (i+1)else prevB B i
def prevI (B:List Nat)(j:Int):Option Nat:=if j<0 then none else prevB B j.toNat
theorem prevI_nat (B:List Nat)(j:Nat):prevI B j=prevB B j:=by
 unfold prevI;rw[if_neg (by omega),Int.toNat_natCast]
theorem prevB_hit {B:List Nat}{j:Nat}(h:bitAt B j=true):prevB B j=some j:=by
 cases j<;>simp[prevB,h]
theorem prevI_miss {B:List Nat}{j:Nat}(h:bitAt B j=false):prevI B ((j:Int)-1)=prevB B j:=by
 cases j with
 | zero=>simp[prevI,prevB,h]
 | succ j=>
  rw[show(((j+1:Nat):Int)-1)=(j:Nat)by omega,prevI_nat,prevB,h];simp
theorem prevI_skip {B:List Nat}{j:Nat}(h:B.getD (j/64) 0=0):∀r:Nat,r <= j%64 -> prevI B ((j:Int)-(r:Int)-1)=prevB B j
 | 0,_=>by
  rw[show((j:Int)-((0:Nat):Int)-1)=(j:Int)-1 by omega];exact prevI_miss (by unfold bitAt;rw[h,Nat.zero_testBit])
 | r+1,hr=>by
  have ih:=prevI_skip h r (by omega);rw[←ih,show((j:Int)-(r:Int)-1)=((j-(r+1):Nat):Int)by omega,prevI_nat,←prevI_miss (j:=j-(r+1)) (by unfold bitAt;rw[show(j-(r+1))/64=j/64 by omega,h,Nat.zero_testBit])]
  congr 1
  omega
theorem below_drewN {B:Nat}{w w':World}(h:Below B w w')(n:Nat):Below B w (w'.drewN n):=⟨h.os,h.tape,h.output,h.size,h.block⟩
theorem prevI_neg (B:List Nat){j:Int}(h:j<0):prevI B j=none:=if_pos h
theorem bprev (w:World)(bb n0:Nat)(B:List Nat)(bo:Option Addr)(cap:Nat)(hA:BitAt w bb B n0 bo cap)(hB:u64ok B)(hL:(n0+63)/64 <= B.length)(g:Nat)(h:g<n0)(h0:n0 <= 65536):
  Calls prog 210 #[pt bb,.int .i64 g] w fun e w'=>e=.returned (.tuple #[.int .i64 ((prevB B g).getD 0:Nat),.bool (prevB B g).isSome]) /\ Below w.heap.size w w':=by
 have c1:=hA.c1;have HA:=uh hA;have HB:=uh hB;have hmn:(g:Int) <= (n0:Int)-1:=by omega
 clear hA hB
 go_enter func210,ntmps210
 go_wp2_with fail
 clear c1
 go_loopw [1] (fun v1 wr=>∃j:Int,v1=.int .i64 j /\ -1 <= j /\ j <= g /\ prevI B j=prevB B g /\ Below w.heap.size w wr) (fun v1 _=>(intOf v1+1).toNat)
 case atStart=>exact⟨g,(by first|rfl|rw[Int.min_eq_left hmn]),by omega,by omega,prevI_nat _ _,Below.refl _ _⟩
 case round=>
  obtain⟨j,rfl,hj1,hjg,hP,hBw⟩:=hrel;have HP:=uh hP;clear hP
  by_cases hj:0 <= j
  · obtain⟨j,rfl⟩:∃q:Nat,j=q:=⟨j.toNat,by omega⟩
    have Hat:=uh (bat wr j (by omega));have hA1:=HA.out.below hBw;have hq:j/64<B.length:=(by omega);have hgd:B.getD (j/64) 0=B[j/64]:=(by rw[List.getD_eq_getElem?_getD,List.getElem?_eq_getElem hq];rfl);have hv:(u64s B)[j/64]?= some (.int .u64 (B.getD (j/64) 0:Nat)):=(by rw[hgd];exact u64s_get (List.getElem?_eq_getElem hq));have hub:=getD_u64 HB.out (j/64);have hbit:=has_bits (b:=j%64) hub;have Hres:Hid (bitAt B j=(B.getD (j/64) 0).testBit (j%64)):=uh rfl;have Hsk:=uh (fun(h:B.getD (j/64) 0=0)=>(prevI_skip h (j%64) (Nat.le_refl _)).trans ((prevI_nat B j).symm.trans HP.out));have Hhit:=uh (fun(h:bitAt B j=true)=>(prevB_hit h).symm.trans ((prevI_nat B j).symm.trans HP.out));have Hmis:=uh (fun(h:bitAt B j=false)=>(prevI_miss h).trans ((prevI_nat B j).symm.trans HP.out));obtain⟨gb,off,rfl,hcell⟩:=hA1.src.form (by rw[u64s_length];omega);have hcg:=hcell _ _ hv;have hqi:((j/64:Nat):Int)<(B.length:Int):=(by omega);have hr:j%64<64:=(by omega);have hrj:j%64 <= j:=Nat.mod_le _ _;have hq6:j/64 <= 65536:=(by omega);have HBw:=uh hBw;clear hA1 hcell hv hgd HP hBw;generalize B.getD (j/64) 0=bv at*;generalize j/64=q at*;generalize j%64=r at*
    go_wp2_with fail
    refine Hat.out.mono ?_;rintro e w1 ⟨rfl,hB1⟩;have T1:=((Turn.refl (Has.nil wr)).call hB1).alloc (.cells #[.int .i64 q,.int .i64 r] 272);have hA2:=HA.out.below (HBw.out.trans (T1.below.mono HBw.out.size));have c0:=hA2.c0;have hcg1:=(T1.below.cell (p:=⟨gb,off+q,none⟩) (World.block_lt_of_cell? wr _ hcg)).trans hcg;have d0:(w1.alloc (.cells #[.int .i64 q,.int .i64 r] 272)).cell? ⟨w1.heap.size,0,none⟩=some (.int .i64 q):=T1.cell1 0;have d1:(w1.alloc (.cells #[.int .i64 q,.int .i64 r] 272)).cell? ⟨w1.heap.size,1,none⟩=some (.int .i64 r):=T1.cell1 1;have HT1:=uh (HBw.out.trans (T1.below.mono HBw.out.size));clear hA2 hB1 Hat hcg T1 HBw
    go_upto_region 7 with fail
    generalize w1.alloc (.cells #[.int .i64 q,.int .i64 r] 272)=w2 at*;generalize w1.heap.size=b5 at*
    by_cases hz:bv=0
    · have hz2:((bv:Nat):Int)=0:=by omega
      go_quiet (fail)
      go_wp2_with fail
      go_roundw
      case rel=>exact⟨(j:Int)-(r:Int)-1,by go_num,by omega,by omega,Hsk.out hz,below_drewN HT1.out _⟩
      case measure=>simp[intOf];omega
    · have hz2:¬((bv:Nat):Int)=0:=by omega
      have HT2:=uh (fun n=>below_drewN HT1.out n);clear HT1
      go_quiet (fail)
      have e0:(w2.drewN nq).cell? ⟨b5,0,none⟩=some (.int .i64 q):=d0;have e1:(w2.drewN nq).cell? ⟨b5,1,none⟩=some (.int .i64 r):=d1
      go_upto_region 9 with fail
      go_quiet (fail)
      have hb2:(bits .and .u64 ((bv:Int)/2^r) 1 == 1)=bv.testBit r:=by
       rw[Int.fdiv_eq_ediv_of_nonneg _ (Int.le_of_lt (Int.pow_pos (by decide)))]at hbit;rw[hbit]
       cases bv.testBit r<;>rfl
      cases hbt:bv.testBit r with
      | true=>
       rw[hbt]at hb2;have hres:=Hhit.out (Hres.out.trans hbt);have HR:=uh hres;clear hres Hres Hsk Hhit Hmis hbit
       go_wp2_with fail
       refine bodyPost_ret (results_tmp2 rfl _ _ _) rfl ?_;exact⟨by rw[←HR.out];rfl,below_drewN (HT2.out _) _⟩
      | false=>
       rw[hbt]at hb2;have hres:=Hmis.out (Hres.out.trans hbt);clear Hres Hsk Hhit Hmis hbit
       go_wp2_with fail
       go_roundw
       case rel=>exact⟨(j:Int)-1,by go_num,by omega,by omega,hres,HT2.out _⟩
       case measure=>simp[intOf]<;>omega
  · have hn:=HP.out
    rw[prevI_neg B (by omega)]at hn;have Hn:=uh hn;have HBw:=uh hBw;clear hn HP hBw
    go_wp2_with fail
    refine bodyPost_ret (results_tmp2 rfl _ _ _) rfl ?_;exact⟨by rw[←Hn.out];rfl,HBw.out⟩
end
section
open Go Go.RowKit Go.Shelf Go.IntWalk
attribute [local go_sem] Oper.semAt_some
theorem scells_g (n:Nat)(hn:2 <= n)(wb:World)(sb a aw tb:Nat)(W:List Nat)(tao:Option Addr)(tcap:Nat)(L:List Ty)(hA:SpAt wb sb a aw tb W tao tcap L)(hf:W.length <= 65536)(hu:∀v∈W,v<18446744073709551616)(hTy:∀t∈L,TyIn t)(hL:L.length <= 1000)
  (cs:List Ce)(hC:Chain L W 0 cs (W.length/2))(Bs:Nat)(D:World -> Nat -> Prop)(G:World -> Prop)(hGD:∀A,G A -> ∀b,D A b -> b<A.heap.size /\ b≠Bs)(hDD:∀A B b,G A -> Below A.heap.size A B -> D B b -> D A b)(w:World)(hw:Below wb.heap.size wb w)(hBs:w.heap[Bs]?= some (bS sb)):
  SeqG Fence.wide n prog 149 #[pt Bs] ceArgs (KpD wb.heap.size D) (fun pre x=>∃post,cs=pre++x::post) (fun xs=>xs=cs) G w:=fun l J W0 hW hJ hG hY h0=>by
 have hBl:Bs<w.heap.size:=lt_of_block hBs;have hB0:W0.heap[Bs]?= some (bS sb):=(hW.block Bs hBl).trans hBs;have hw0:Below wb.heap.size wb W0:=hw.trans (hW.mono hw.size);have hW0:=hW.size;have HA0:=uh hw.size;have HA0:=uh hw.size;have HA0:=uh hw.size;have HA0:=uh hw.size;have hFl:Fence.wide.fn 149:= trivial;have hf1:Fence.wide.fn 13:= trivial;have hf2:Fence.wide.fn 126:= trivial;have hf3:Fence.wide.fn 128:= trivial;refine callsIn_of_wp func149 rfl hFl ?_ rfl;simp only[ntmps149,List.size_toArray,List.length_cons,List.length_nil,Nat.reduceAdd,Nat.reduceSub,Array.replicate_succ,Array.replicate_zero,List.push_toArray,List.append_toArray,List.nil_append,List.cons_append];have h1:1 <= n:=by omega
 have hro:Fence.wide.round=none:=rfl;have h2:1 <= n-1:=by omega
 have HY:=uh hY;have HJ:=uh hJ;have hszH:=sz_head;have Hgr:=uh (fun w' (hB:Below wb.heap.size wb w')=>sgran w' (hA.below hB).c0 (hA.below hB).ar hf);have Hhd:=uh (fun w' (hB:Below wb.heap.size wb w') (g:Int)=>shead w' (hA.below hB).fields (hA.below hB).ar hu g);have Hft:=uh (fun w' (hB:Below wb.heap.size wb w') h hi=>hfits w' (hA.below hB).fields L hTy hL tb tao tcap (hA.below hB).tab h hi);have HA:=uh hA;have HC:=uh hC;have hlen:=hC.len;obtain⟨z,hz⟩:∃z:Nat,W.length/2=z:=⟨_,rfl⟩;have hzb:z <= 32768:=by omega
 rw[hz]at Hgr HC hlen;have Hw0:=uh hw0;have HB0:=uh hB0;have HG:=uh hG;clear hY hJ hG hW hw hBs hB0 hw0 hA hu hTy hC
 gi_wp2_with fail
 gi_loopw [3] (fun v3 wr=>∃(pre post:List Ce) (g:Nat),cs=pre++post /\ v3=.int .i64 g /\ Chain L W g post z /\ J pre wr /\ Below wb.heap.size wb wr /\ wr.heap[Bs]?= some (bS sb) /\ w.heap.size <= wr.heap.size) (fun v3 _=>z+1-(intOf v3).toNat)
 case atStart=>exact⟨[],cs,0,rfl,by go_num,HC.out,h0,Hw0.out,HB0.out,hW0⟩
 case round=>
  clear HC h0 Hw0 HB0;obtain⟨pre,post,g,hcs,rfl,hch,hJw,hwr,hBw,hwl⟩:=hrel;have hH1:Has wr [(Bs,bS sb)]:=Has.one hBw;have hbx:wr.cell? ⟨Bs,0,none⟩=some (pt sb):=hH1.cell (List.mem_cons_self ..) 0;have hsp:=HA.out.below hwr;have q0:=hsp.c0
  cases post with
  | nil=>
   obtain rfl:g=z:=hch;rw[List.append_nil]at hcs;have HX:=uh (⟨hcs.symm,hJw⟩:pre=cs /\ J pre wr);have Hg:=uh (Hgr.out wr hwr);have hnl:¬(g:Int)<(g:Int):=(by omega);clear hJw hsp hH1 hcs hwr hBw
   gi_wp2_with (gi_at_call 13;refine(callsIn_wide.2 Hg.out).mono ?_;rintro e w' ⟨rfl,hw⟩;rw[hw];clear hw w')
   go_end0;exact⟨⟨_,rfl⟩,pre,HX.out.1,HX.out.2⟩
  | cons c post=>
   obtain⟨cg,h⟩:=c;obtain⟨hcg,hst,hnext⟩:=hch;simp only at hcg hst hnext;subst hcg;have hpos:=hst.pos;have hroom:cg+h.size <= z:=hnext.le;obtain⟨e1,e2,e3,e4⟩:=stands_head hst;have hmay:=hst.2.1.1;have Hh2:=uh (Hhd.out wr hwr cg);rw[e1,e2]at Hh2;simp only[Option.getD_some]at Hh2;have HF1:=uh (fun w' (hB:Below wr.heap.size wr w')=>Hft.out w' (hwr.trans (hB.mono (Nat.le_trans HA0.out hwl))) h (may_in hmay));rw[e3]at HF1;have HY2:=uh (fun W1=>HY.out pre (cg,h) W1 ⟨post,hcs⟩);unfold ceArgs at HY2;have Hgr2:=uh (fun w' X (V:Turn [] wr X w')=>Hgr.out w' (hwr.trans (V.below.mono (Nat.le_trans HA0.out hwl))));obtain⟨xa,xb,xc,xd⟩:=h;simp only at hpos hroom HY2;have hoX:=hd_one ⟨xa,xb,xc,xd⟩;simp only at hoX;have k1:IntKind.i64.wrap ((z:Int)-(cg:Int))=(z:Int)-(cg:Int):=i64_in _ (by omega);have k2:decide (((z:Int)-(cg:Int))<(xd:Int))=false:=decide_eq_false (by omega);have k3:¬((z:Int)-(cg:Int))<(xd:Int):=(by omega);have k4:(cg:Int)<(z:Int):=(by omega);have Hnext:=uh hnext;have Hcs:=uh hcs;have HJw:=uh hJw;have Hg:=uh (Hgr.out wr hwr);have hT0:=uh (Turn.refl (Has.nil wr))
   have HS:=uh (fun w' b4 (V:Turn [] wr [(b4,.cells #[.int .u8 xa,.int .i64 xb,.int .i64 xc,.int .i64 xd] 79)] w')=>
    (⟨(V.below.cell (p:=⟨Bs,0,none⟩) (World.block_lt_of_cell? wr _ hbx)).trans hbx,(V.below.cell (p:=⟨sb,1,none⟩) (World.block_lt_of_cell? wr _ hsp.c1)).trans hsp.c1,V.range1⟩:w'.cell? ⟨Bs,0,none⟩=some (pt sb) /\ w'.cell? ⟨sb,1,none⟩=some (pt tb) /\ w'.rangeAt b4 0 [.int .u8 xa,.int .i64 xb,.int .i64 xc,.int .i64 xd]))
   have hsbl:sb<wb.heap.size:=World.block_lt_of_cell? wb _ HA.out.c0;have hGr:=HG.out pre wr hJw
   have HS2:=uh (fun w8 w' b4 (k:KpD wb.heap.size D w' w8) (V:Turn [] wr [(b4,.cells #[.int .u8 xa,.int .i64 xb,.int .i64 xc,.int .i64 xd] 79)] w')=>by
    have h:=HS.out w' b4 V;have h9:wr.heap.size <= b4:=(V.new b4 (by simp[keys])).resolve_left (by simp[keys]);have h8:=k.same b4 _ (V.has.own _ _ (List.mem_cons_self ..)) rfl (fun hd=>by have:=(hGD wr hGr b4 (hDD wr w' b4 hGr V.below hd)).1;omega);have h7:=k.same Bs _ ((V.below.block Bs (lt_of_block hBw)).trans hBw) rfl (fun hd=>(hGD wr hGr Bs (hDD wr w' Bs hGr V.below hd)).2 rfl);exact(⟨(Has.one h7).cell (List.mem_cons_self ..) 0,(k.below.cell (p:=⟨sb,1,none⟩) hsbl).trans h.2.1,(Has.one h8).range (List.mem_cons_self ..)⟩:w8.cell? ⟨Bs,0,none⟩=some (pt sb) /\ w8.cell? ⟨sb,1,none⟩=some (pt tb) /\ w8.rangeAt b4 0 [.int .u8 xa,.int .i64 xb,.int .i64 xc,.int .i64 xd]))
   have HN8:=uh (fun w8 w' b4 (hj:J (pre++[(cg,⟨xa,xb,xc,xd⟩)]) w8) (k:KpD wb.heap.size D w' w8) (V:Turn [] wr [(b4,.cells #[.int .u8 xa,.int .i64 xb,.int .i64 xc,.int .i64 xd] 79)] w')=>
    (⟨hj,(hwr.trans (V.below.mono (Nat.le_trans HA0.out hwl))).trans k.below,k.same Bs _ ((V.below.block Bs (lt_of_block hBw)).trans hBw) rfl (fun hd=>(hGD wr hGr Bs (hDD wr w' Bs hGr V.below hd)).2 rfl),Nat.le_trans hwl (Nat.le_trans V.size k.size)⟩:J (pre++[(cg,⟨xa,xb,xc,xd⟩)]) w8 /\ Below wb.heap.size wb w8 /\ w8.heap[Bs]?= some (bS sb) /\ w.heap.size <= w8.heap.size))
   clear hGr hJw hsp hH1 hcs hwr hBw hnext hst e1 e2 e3 e4 hmay HY
   gi_wp2_with (first
    | (gi_at_call 13;refine(callsIn_wide.2 Hg.out).mono ?_;rintro e w' ⟨rfl,hw⟩;rw[hw];clear hw w')
    | (gi_at_call 126;refine(callsIn_wide.2 Hh2.out).mono ?_;rintro e w1 ⟨rfl,hB1⟩;have T2:=(hT0.out.call hB1).alloc zH;have hth:(w1.alloc zH).there w1.heap.size 0 4:=T2.there1;have HT2:=uh (T2.laid [.int .u8 xa,.int .i64 xb,.int .i64 xc,.int .i64 xd] rfl);clear hB1 T2)
    | (show wpListIn _ _ _ _ _ (⟨_,Op.store 79 _ _,_,_,_,_⟩::_) _ _;refine wpListIn_by (follows_wide _ _) rfl (by intro c h;cases h) (wp_store_mid 79 _ _ rfl _ 0 #[.int .u8 xa,.int .i64 xb,.int .i64 xc,.int .i64 xd] rfl rfl hth hszH hoX ?_);clear hth)
    | fail)
   generalize(w1.alloc zH).setCells w1.heap.size 0 [.int .u8 xa,.int .i64 xb,.int .i64 xc,.int .i64 xd]=w5 at*;generalize w1.heap.size=b4 at*;have HT5:=uh HT2.out.drew;have hS5:=HS.out _ _ HT5.out;have HF2:=uh (HF1.out _ HT5.out.below);have HY3:=HY2;clear HT2 q0 hbx Hg Hh2 hT0;refine wpIn_region_noPanic ?_;refine wpIn_region_listedHI (S:=fun W'=>W'.cell? ⟨Bs,0,none⟩=some (pt sb) /\ W'.cell? ⟨sb,1,none⟩=some (pt tb) /\ W'.rangeAt b4 0 [.int .u8 xa,.int .i64 xb,.int .i64 xc,.int .i64 xd]) 28 [false,false,false,false,false,false,false,false,false,false,false,false,false,false,false,false,false,false,false,false,false,false,false,false,false,false,false,false] rfl rfl (by kernel_rfl) ?_;refine tkI 0 19 hro hS5 ?_;refine tkI 1 20 hro hS5 ?_;refine tkI 2 21 hro hS5 ?_;refine tkJ 3 22 hro hS5 (fun w hSw=>hSw.1) ?_;refine tkI 4 23 hro hS5 ?_;refine tkI 5 24 hro hS5 ?_;refine tkJ 6 25 hro hS5 (fun w hSw=>hSw.2.1) ?_;refine takeGI 7 26 hro rfl rfl (by rfl) (by kernel_rfl) (by kernel_rfl) (by kernel_rfl) (fun _ _ _ _ h=>h) hS5 (fun _=>rfl) (fun w' hSw=>load_mid_run 79 _ rfl b4 0 rfl [.int .u8 xa,.int .i64 xb,.int .i64 xc,.int .i64 xd] _ hSw.2.2 underlying79 rfl hszH) ?_;simp only[st1,st2];refine wpAnyHI_call (i:=8) (by kernel_rfl) rfl (fun K hK=>?_)
   go_simp
   refine(callsIn_wide.2 HF2.out).mono ?_;rintro e w6 ⟨rfl,hB6⟩;have HT6:=uh (HT5.out.call hB6);have hS6:=HS.out _ _ HT6.out;clear hB6 HF2 HT5 hS5;refine hK.out _ _ hS6 ?_;clear hK K;simp only[st0,st1,st2];refine tkI 9 28 hro hS6 ?_;refine tkI 10 29 hro hS6 ?_;refine tkI 11 30 hro hS6 ?_;refine tkI 12 31 hro hS6 ?_;refine tkJ 13 32 hro hS6 (fun w hSw=>hSw.2.2 3 _ rfl) ?_;refine tkJ 14 33 hro hS6 (fun w hSw=>hSw.1) ?_;refine tkI 16 35 hro hS6 ?_;refine wpAnyHI_call (i:=15) (by kernel_rfl) rfl (fun K hK=>?_)
   go_simp
   refine(callsIn_wide.2 (Hgr2.out _ _ HT6.out)).mono ?_;rintro e w7 ⟨rfl,hw7⟩;subst hw7;refine hK.out _ _ hS6 ?_;clear hK K;simp only[st0,st1,st2];refine tkI 17 36 hro hS6 ?_;refine tkI 18 37 hro hS6 ?_;refine tkI 19 38 hro hS6 ?_;refine tkI 20 39 hro hS6 ?_;refine tkI 21 40 hro hS6 ?_;refine tkI 22 41 hro hS6 ?_;refine takeGI 23 42 hro rfl rfl (by rfl) (by kernel_rfl) (by kernel_rfl) (by kernel_rfl) (fun _ _ _ _ h=>h) hS6 (fun _=>rfl) (fun w' hSw=>load_mid_run 79 _ rfl b4 0 rfl [.int .u8 xa,.int .i64 xb,.int .i64 xc,.int .i64 xd] _ hSw.2.2 underlying79 rfl hszH) ?_;simp only[st1,st2];refine tkI 24 43 hro hS6 ?_;obtain⟨fn,tmps,assign,body,hy,hR⟩:=HY3.out _ (HJ.out pre wr _ none HJw.out (below_grownBy HT6.out.below) (fun r e=>by cases e));have HR:=uh hR;clear hR;refine wpAnyHI_call (i:=25) (by kernel_rfl) rfl (fun K hK=>?_)
   go_simp
   refine HR.out.mono ?_;rintro e w8 ⟨rfl,hJ8,hk8⟩
   · have hS8:=HS2.out _ _ _ hk8 HT6.out
     refine hK.out _ _ hS8 ?_;clear hK K;simp only[st0,st1,st2];refine tkI 26 45 hro hS8 ?_;refine tkI 27 46 hro hS8 ?_;refine wpAnyHI_done (by kernel_rfl) ?_ _;refine NoPanic.normal ?_;have hc4:=hS8.2.2 3 _ rfl;have HN:=uh (HN8.out _ _ _ hJ8 hk8 HT6.out);clear hS8 hS6 HT6 HS HS2 hJ8 hk8 HR hy
     gi_wp2_with fail
     go_roundw
     case rel=>exact⟨pre++[(cg,⟨xa,xb,xc,xd⟩)],post,cg+xd,by rw[Hcs.out];simp,by go_num,Hnext.out,HN.out.1,HN.out.2.1,HN.out.2.2.1,HN.out.2.2.2⟩
     case measure=>simp[intOf];omega
theorem scells_all (w:World)(sb a aw tb:Nat){W:List Nat}(tao:Option Addr)(tcap:Nat)(L:List Ty)(hA:SpAt w sb a aw tb W tao tcap L)(hf:W.length <= 65536)(hu:∀v∈W,v<18446744073709551616)(hTy:∀t∈L,TyIn t)(hL:L.length <= 1000)
  (cs:List Ce)(hC:Chain L W 0 cs (W.length/2)):
  Calls prog 59 #[pt sb] w fun e w'=>∃ao cap l,e=.returned (.slice ao cs.length cap) /\ Row 81 5 ao cs.length cap (ces cs) l /\ Turn [] w l w':=by
 refine(callsIn_wide (n:=6)).1 ?_;have h3:Fence.wide.fn 59:= trivial;have h6:Fence.wide.fn 65:= trivial;have h7:Fence.wide.fn 149:= trivial;have hro:Fence.wide.round=none:=rfl;have h1:1 <= 6:=by omega
 have hsbl:sb<w.heap.size:=World.block_lt_of_cell? w _ hA.c0;have hlen:=hC.len;have hcl:cs.length <= 32768:=by omega
 refine callsIn_of_wp_marks func59 rfl h3 ?_ hro;simp only[ntmps59,List.size_toArray,List.length_cons,List.length_nil,Nat.reduceAdd,Nat.reduceSub,Array.replicate_succ,Array.replicate_zero,List.push_toArray,List.append_toArray,List.nil_append,List.cons_append];have HC:=uh hC;have HA:=uh hA;have hT0:=uh (Turn.refl (Has.nil w));clear hA hC hlen
 gi_wp2_with (first
  | (gi_at_call 65;refine(scells_in (6-1) sb _).mono ?_;rintro e w' ⟨rfl,hw⟩;rw[hw];clear hw w')
  | fail)
 obtain⟨n4,hn4⟩:∃n4,w.heap.size=n4:=⟨_,rfl⟩;have T5:=(hT0.out.alloc (.cells #[.slice none 0 0] 75)).alloc (bS sb);have hsz0:((w.alloc (.cells #[.slice none 0 0] 75)).alloc (bS sb)).heap.size=w.heap.size+1+1:=by simp
 simp only[World.size_alloc]at T5;generalize(w.alloc (.cells #[.slice none 0 0] 75)).alloc (bS sb)=W0 at T5 hsz0 ⊢;have R8:Below w.heap.size w W0:=T5.below;rw[hn4]at T5 hsz0 hsbl ⊢;clear hT0;have hBs:W0.heap[n4+1]?= some (bS sb):=T5.has.own _ _ (by simp);have T8:Turn [] w ([]++[(n4,.cells #[.slice none 0 0] 75),(n4+1,bS sb)]) W0:=T5.perm po;clear T5;have hA0:SpAt w sb a aw tb W tao tcap L:=HA.out;have hw0W:w.heap.size <= W0.heap.size:=R8.size
 apply wpIn_rangeFunc_g (β:=Nat) hro h1 (gf:=149) (lb:=#[pt (n4+1)]) rfl h7 (enters_of func149 (by kernel_rfl) rfl)
  (scells_g (6-1) (by omega) w sb a aw tb W tao tcap L hA0 hf hu hTy hL _ HC.out (n4+1) (ResD n4) (ResG n4 (n4+1)) (fun A h=>h) (fun A B b hg hB=>ResD.old hg hB) W0 R8 hBs)
  (fun h k=>h.t k) (KpD.b (by omega) (fun W l o' hl b=>ResD.put (by omega) o')) (Below.refl _ _) (fun _=>rfl)
  (fun pre W'=>∃ao cap lr,Row 81 5 ao pre.length cap (ces pre) lr /\ pre.length <= 32768 /\ Turn [] w (lr++[(n4,.cells #[.slice ao pre.length cap] 75),(n4+1,bS sb)]) W')
  (fun x nb pre W'=>∃ao cap lr,Row 81 5 ao pre.length cap (ces pre) lr /\ pre.length+1 <= 32768 /\ Turn [] w ((nb,ceObj x)::(lr++[(n4,.cells #[.slice ao pre.length cap] 75),(n4+1,bS sb)])) W')
  (fun s A D row ⟨ao,cap,lr,e1,e2,hT⟩ hg hr=>⟨ao,cap,lr,e1,e2,hT.grownB hw0W (resBx_cells e1) hg hr⟩)
  (fun x nb s A D row ⟨ao,cap,lr,e1,e2,hT⟩ hg hr=>⟨ao,cap,lr,e1,e2,hT.grownB hw0W (by
    intro y hy;rcases List.mem_cons.1 hy with rfl|hy
    ·rfl
    ·exact resBx_cells e1 y hy) hg hr⟩)
  ⟨none,0,[],Row.nil _ _,by simp,T8⟩
  (fun pre W' ⟨ao,cap,lr,e1,e2,hT⟩=>resG_of e1 hT)
 case hassign=>
  rintro l1 pre x W2 ⟨post,hnx⟩ ⟨ao,cap,lr,e1,e2,hT⟩;have hpl:pre.length+1 <= 32768:=by rw[hnx,List.length_append,List.length_cons]at hcl;omega
  have T2:=hT.alloc (.cells #[.int .i64 0,.int .u8 0,.int .i64 0,.int .i64 0,.int .i64 0] 81);have hth:(W2.alloc (.cells #[.int .i64 0,.int .u8 0,.int .i64 0,.int .i64 0,.int .i64 0] 81)).there W2.heap.size 0 5:=T2.there1;have HT2:=uh (T2.laid [.int .i64 x.1,.int .u8 x.2.tag,.int .i64 x.2.typ,.int .i64 x.2.len,.int .i64 x.2.size] rfl);have HX:=uh (((Turn.refl (Has.nil W2)).alloc (.cells #[.int .i64 0,.int .u8 0,.int .i64 0,.int .i64 0,.int .i64 0] 81)).laid [.int .i64 x.1,.int .u8 x.2.tag,.int .i64 x.2.typ,.int .i64 x.2.len,.int .i64 x.2.size] rfl);have hszC:=sz_cell;have hoC:=ce_one x;have hGb:=resG_of e1 hT;have hE1:=uh e1;have hw2:=hT.size;unfold ceArgs;clear T2 hnx hT e1
  gi_wp2_with (first
   | (show wpListIn _ _ _ _ _ (⟨_,Op.store 81 _ _,_,_,_,_⟩::_) _ _;refine wpListIn_by (follows_round _ _ _) rfl (by intro c h;cases h) (wp_store_mid 81 _ _ rfl _ 0 #[.int .i64 x.1,.int .u8 x.2.tag,.int .i64 x.2.typ,.int .i64 x.2.len,.int .i64 x.2.size] rfl rfl hth hszC hoC ?_);clear hth)
   | fail)
  have HK:=uh (⟨((KeepsOthers.alloc _ _).trans (keepsOthers_setCells _ _ _)).from _,KpD.of HX.out (by omega) (fun b hb=>by cases hb) (fun b hb hd=>ResD.old hGb HX.out.below hd)⟩:
   KeepsFrom W0.heap.size W2 ((W2.alloc (.cells #[.int .i64 0,.int .u8 0,.int .i64 0,.int .i64 0,.int .i64 0] 81)).setCells W2.heap.size 0 [.int .i64 x.1,.int .u8 x.2.tag,.int .i64 x.2.typ,.int .i64 x.2.len,.int .i64 x.2.size]) /\ KpD w.heap.size (ResD n4) W2 ((W2.alloc (.cells #[.int .i64 0,.int .u8 0,.int .i64 0,.int .i64 0,.int .i64 0] 81)).setCells W2.heap.size 0 [.int .i64 x.1,.int .u8 x.2.tag,.int .i64 x.2.typ,.int .i64 x.2.len,.int .i64 x.2.size]))
  clear HX hoC hGb;generalize(W2.alloc (.cells #[.int .i64 0,.int .u8 0,.int .i64 0,.int .i64 0,.int .i64 0] 81)).setCells W2.heap.size 0 [.int .i64 x.1,.int .u8 x.2.tag,.int .i64 x.2.typ,.int .i64 x.2.len,.int .i64 x.2.size]=W3 at*;generalize W2.heap.size=nb at*;exact⟨HK.out.1,HK.out.2,nb,rfl,ao,cap,lr,hE1.out,hpl,HT2.out⟩
 case hbody=>
  rintro l1 pre x nb W2-⟨ao,cap,lr,e1,e2,hT⟩;have q0:W2.cell? ⟨n4,0,none⟩=some (.slice ao pre.length cap):=hT.has.cell (b:=n4) (c:=#[.slice ao pre.length cap]) (e:=75) (f:=(0,0)) (by simp) 0;have hrg:W2.rangeAt nb 0 [.int .i64 x.1,.int .u8 x.2.tag,.int .i64 x.2.typ,.int .i64 x.2.len,.int .i64 x.2.size]:=hT.range1;have hszC:=sz_cell;have h63:pre.length+1 <= maxLen:=by unfold maxLen;omega
  have hby:(pre.length+1)*40 <= 140737488355328:=by omega
  have hcv:∀u∈ceCells x,u.oneCell'=true:=by
   intro u hu;simp only[ceCells,List.mem_cons,List.not_mem_nil,or_false]at hu;rcases hu with rfl|rfl|rfl|rfl|rfl<;>rfl
  have hg2:=resG_of e1 hT.tail;have HT:=uh hT;have H1:=uh e1;have HH:=uh (hT.has.sub (l':=lr++[(n4,.cells #[.slice ao pre.length cap] 75)]) (by simp));clear hT e1
  gi_wp2_with (first
   | (show wpListIn _ _ _ _ _ (⟨_,Op.load 81 _,_,_,_,_⟩::_) _ _;refine wpListIn_by (follows_round _ _ _) rfl (by intro c h;cases h) (wp_load_mid 81 _ rfl nb 0 rfl [.int .i64 x.1,.int .u8 x.2.tag,.int .i64 x.2.typ,.int .i64 x.2.len,.int .i64 x.2.size] _ hrg underlying81 rfl hszC ?_))
   | (gi_at_builtin;have T3:=uh (HT.out.alloc (.cells #[.int .i64 x.1,.int .u8 x.2.tag,.int .i64 x.2.typ,.int .i64 x.2.len,.int .i64 x.2.size] 81));have K3:=uh (((Turn.refl HH.out).alloc (.cells #[.int .i64 x.1,.int .u8 x.2.tag,.int .i64 x.2.typ,.int .i64 x.2.len,.int .i64 x.2.size] 81)).perm (l2:=lr++[(W2.heap.size,.cells #[.int .i64 x.1,.int .u8 x.2.tag,.int .i64 x.2.typ,.int .i64 x.2.len,.int .i64 x.2.size] 81),(n4,.cells #[.slice ao pre.length cap] 75)]) po);refine wpListIn_by (follows_round _ _ _) rfl (by intro c h;cases h) (wp_append_row _ _ rfl el_cell rfl H1.out (R:=[(W2.heap.size,.cells #[.int .i64 x.1,.int .u8 x.2.tag,.int .i64 x.2.typ,.int .i64 x.2.len,.int .i64 x.2.size] 81),(n4,.cells #[.slice ao pre.length cap] 75)]) K3.out.has rfl (news:=[.int .i64 x.1,.int .u8 x.2.tag,.int .i64 x.2.typ,.int .i64 x.2.len,.int .i64 x.2.size]) rfl (news_of (heap_alloc_new _ _)) hcv h63 hby ?_);intro a9 p9 l9 w4 hr9 V4 hno;have T4:=(((T3.out.perm (l2:=(lr++[(W2.heap.size,.cells #[.int .i64 x.1,.int .u8 x.2.tag,.int .i64 x.2.typ,.int .i64 x.2.len,.int .i64 x.2.size] 81),(n4,.cells #[.slice ao pre.length cap] 75)])++[(nb,ceObj x),(n4+1,bS sb)]) po)).trans (V4.more ((T3.out.perm (l2:=(lr++[(W2.heap.size,.cells #[.int .i64 x.1,.int .u8 x.2.tag,.int .i64 x.2.typ,.int .i64 x.2.len,.int .i64 x.2.size] 81),(n4,.cells #[.slice ao pre.length cap] 75)])++[(nb,ceObj x),(n4+1,bS sb)]) po).has))).perm (l2:=(n4,.cells #[.slice ao pre.length cap] 75)::(l9++[(W2.heap.size,.cells #[.int .i64 x.1,.int .u8 x.2.tag,.int .i64 x.2.typ,.int .i64 x.2.len,.int .i64 x.2.size] 81),(nb,ceObj x),(n4+1,bS sb)])) po;have q5:=T4.cell1 0;have f5:=T4.free1 0;have K5:=((K3.out.trans V4).perm (l2:=(n4,.cells #[.slice ao pre.length cap] 75)::(l9++[(W2.heap.size,.cells #[.int .i64 x.1,.int .u8 x.2.tag,.int .i64 x.2.typ,.int .i64 x.2.len,.int .i64 x.2.size] 81)])) po).setCell 0 (.slice a9 (pre.length+1) p9);have HT5:=uh (T4.setCell 0 (.slice a9 (pre.length+1) p9));have HK5:=uh (KpD.res (n₀:=w.heap.size) H1.out hr9 K5 HH.out (by omega) (fun b hb=>(HT.out.new b (by simp[keys]at hb ⊢;exact .inr (.inl hb))).resolve_left (by simp[keys])));have HKO:=uh (Turn.keepsOthers K5 HH.out (resBx1_cells H1.out));have Hr9:=uh hr9;clear V4 T4 K5 K3 T3 hno hr9 q0)
   | fail)
  have hce:ces (pre++[x])=ces pre++[.int .i64 x.1,.int .u8 x.2.tag,.int .i64 x.2.typ,.int .i64 x.2.len,.int .i64 x.2.size]:=ces_append _ _;have hl1:(pre++[x]).length=pre.length+1:=by simp
  refine⟨HKO.out.from _,HK5.out,a9,p9,l9,by rw[hl1,hce];exact Hr9.out,by omega,by rw[hl1];exact(HT5.out.perm (l2:=[(W2.heap.size,.cells #[.int .i64 x.1,.int .u8 x.2.tag,.int .i64 x.2.typ,.int .i64 x.2.len,.int .i64 x.2.size] 81),(nb,ceObj x)]++(l9++[(n4,.cells #[.slice a9 (pre.length+1) p9] 75),(n4+1,bS sb)])) po).drop⟩
 case hdone=>
  rintro D xs W2 hD rfl ⟨ao,cap,lr,e1,e2,hT⟩ hK;have hHb:Has W2 ((n4,.cells #[.slice ao xs.length cap] 75)::(lr++[(n4+1,bS sb)])):=hT.has.perm po;have q0:W2.cell? ⟨n4,0,none⟩=some (.slice ao xs.length cap):=hHb.cell (List.mem_cons_self ..) 0;have f0:W2.frozen? ⟨n4,0,none⟩=false:=hHb.free (List.mem_cons_self ..) 0;have HT:=uh hT;have H1:=uh e1;have HK:=uh hK;clear hT e1 hHb hK
  gi_wp2_with fail
  have T9:=(HT.out.perm (l2:=(n4,.cells #[.slice ao xs.length cap] 75)::(lr++[(n4+1,bS sb)])) po).setCell 0 (.slice ao xs.length cap)
  have hK5:(W2.setCell ⟨n4,0,none⟩ (.slice ao xs.length cap)).heap[D]?= some (.deferred (some [])):=by
   rw[Below.heap_setCell _ _ _ _ (by show D≠n4;omega)];exact HK.out
  have T10:=T9.grownB (B:=W0.heap.size) hw0W (fun y hy=>by
   rcases List.mem_cons.1 hy with rfl|hy
   ·rfl
   rcases List.mem_append.1 hy with hy|hy
   ·exact H1.out.cells y hy
   ·rw[List.mem_singleton.1 hy];rfl) (grownBy_putObj' _ D (.deferred none)) (fun r e=>by cases e;exact⟨hD,_,hK5,rfl⟩)
  have hcl:((W2.setCell ⟨n4,0,none⟩ (.slice ao xs.length cap)).putObj D (.deferred none)).cell? ⟨n4,0,none⟩=some (.slice ao xs.length cap):=T10.cell1 0;have HT10:=uh T10;clear T9 T10 HT q0 f0;refine⟨by simp,.inl ⟨_,_,rfl,run_takeDeferred hK5,?_⟩⟩;refine⟨.slice ao xs.length cap,?_,ao,cap,lr,rfl,H1.out,(HT10.out.perm (l2:=(n4,.cells #[.slice ao xs.length cap] 75)::((n4+1,bS sb)::lr)) po).tail.tail⟩;simp[results,results59,go_sem,hcl]
end
section
open Go Go.RowKit Go.Shelf Go.IntWalk
attribute [local go_sem] Oper.semAt_some
def svs (W:List Nat)(g:Nat)(rs:List Nat):List (Nat×Nat):=rs.map fun s=>(s,W.getD (2*g+1+s) 0)
def svArgs (x:Nat×Nat):Array Value:=#[.int .i64 x.1,.int .u64 x.2]
theorem svs_at {W:List Nat}{g i s:Nat}{rs:List Nat}(h:rs[i]?= some s):(svs W g rs)[i]?= some (s,W.getD (2*g+1+s) 0):=by unfold svs;rw[List.getElem?_map,h];rfl
theorem svs_len (W:List Nat)(g:Nat)(rs:List Nat):(svs W g rs).length=rs.length:=by simp[svs]
theorem take_nextA {α:Type}{l:List α}{j:Nat}{d:α}(h:l[j]?= some d):l.take (j+1)=l.take j++[d]:=by rw[List.take_add_one,h];rfl
theorem drop_nextA {α:Type}{l:List α}{j:Nat}{d:α}(h:l[j]?= some d):l.drop j=d::l.drop (j+1):=by
 obtain⟨hj,rfl⟩:=List.getElem?_eq_some_iff.1 h;exact List.drop_eq_getElem_cons hj
theorem svs_split {W:List Nat}{g i s:Nat}{rs:List Nat}(h:rs[i]?= some s):svs W g rs=(svs W g rs).take i++(s,W.getD (2*g+1+s) 0)::(svs W g rs).drop (i+1):=by
 rw[←drop_nextA (svs_at h),List.take_append_drop]
theorem vrefs_in (n:Nat)(vb:Nat)(w:World):
  CallsIn Fence.wide n prog 168 #[pt vb] w fun e w'=>e=.returned (.func (.func 217) #[] #[pt w.heap.size]) /\ w'=w.alloc (.cells #[pt vb] 124):=by
 have hf:Fence.wide.fn 168:= trivial;refine callsIn_of_wp func168 rfl hf ?_ rfl;simp only[ntmps168,List.size_toArray,List.length_cons,List.length_nil,Nat.reduceAdd,Nat.reduceSub,Array.replicate_succ,Array.replicate_zero,List.push_toArray,List.append_toArray,List.nil_append,List.cons_append]
 gi_wp2
 go_ret;exact⟨rfl,rfl⟩
theorem range_off {w:World}{b o:Nat}{xs ys:List Value}(h:w.rangeAt b o (xs++ys)):w.rangeAt b (o+xs.length) ys:=fun j v hv=>by
 have:=h (xs.length+j) v (by rw[List.getElem?_append_right (by omega),Nat.add_sub_cancel_left];exact hv)
 rwa [←Nat.add_assoc]at this
theorem vrefs_g (n:Nat)(hn:2 <= n)(wb:World)(vb a aw g:Nat)(W:List Nat)(h:Hd)(t:Ty)(hA:ArAt wb a aw W)(hv:VwAt wb vb a g h t)(ht:TyIn t)(he:t.err h.len=0)(hg:g <= 65536)(hwl:∀s∈t.refs h.len,s<t.slots h.len /\ 2*g+1+s<W.length)
  (Bs:Nat)(D:World -> Nat -> Prop)(G:World -> Prop)(hGD:∀A,G A -> ∀b,D A b -> b<A.heap.size /\ b≠Bs)(hDD:∀A B b,G A -> Below A.heap.size A B -> D B b -> D A b)(w:World)(hw:Below wb.heap.size wb w)(hBs:w.heap[Bs]?= some (.cells #[pt vb] 124)):
  SeqG Fence.wide n prog 217 #[pt Bs] svArgs (KpD wb.heap.size D) (fun pre x=>∃post,svs W g (t.refs h.len)=pre++x::post) (fun xs=>xs=svs W g (t.refs h.len)) G w:=fun l J W0 hW hJ hG hY h0=>by
 have hBl:Bs<w.heap.size:=lt_of_block hBs;have hB0:W0.heap[Bs]?= some (.cells #[pt vb] 124):=(hW.block Bs hBl).trans hBs;have hw0:Below wb.heap.size wb W0:=hw.trans (hW.mono hw.size);have hFl:Fence.wide.fn 217:= trivial;have hf1:Fence.wide.fn 218:= trivial;have hf2:Fence.wide.fn 103:= trivial;refine callsIn_of_wp func217 rfl hFl ?_ rfl;simp only[ntmps217,List.size_toArray,List.length_cons,List.length_nil,Nat.reduceAdd,Nat.reduceSub,Array.replicate_succ,Array.replicate_zero,List.push_toArray,List.append_toArray,List.nil_append,List.cons_append];have h1:1 <= n:=by omega
 have hro:Fence.wide.round=none:=rfl;have h2:1 <= n-1:=by omega
 have HRf:=uh (fun w'=>krefs w' t ht h.len he);have HLd:=uh (fun w' (hB:Below wb.heap.size wb w') s v hs hvv=>vload w' (hA.below hB) (range_below hv hB) ht he hg s v hs hvv);have HV:=uh (fun w' (hB:Below wb.heap.size wb w')=>(range_below hv hB:w'.rangeAt vb 0 (viewCells a g h t)));have Hwl:=uh (fun i s (hi:(t.refs h.len)[i]?= some s)=>hwl s (List.mem_of_getElem? hi))
 have hrl:(t.refs h.len).length <= 65536:=by
  have h1:=refsTo_len t (t.slots h.len);have h2:t.refs h.len=refsTo t (t.slots h.len):=rfl;obtain⟨hm,-,hn9,-⟩:=err_ok.1 he;have:=slots_most hm (n:=h.len) (by omega);rw[h2];omega
 have hszT:=sz_type;generalize t.refs h.len=rs at*;generalize hsl:t.slots h.len=sl at*;have Hsp:=uh (fun i s (hi:rs[i]?= some s)=>svs_split (W:=W) (g:=g) hi);have Hfin:=uh (svs_len W g rs);have HY:=uh hY;have HJ:=uh hJ;have HG:=uh hG;have HJ0:=uh h0;have Hw0:=uh hw0;have hbx:W0.cell? ⟨Bs,0,none⟩=some (pt vb):=(Has.one hB0).cell (List.mem_cons_self ..) 0;have HB0:=uh hB0;have HAb:=uh hA;obtain⟨tk,tw,tm⟩:=t;clear hY hJ hG hW hw hBs hB0 hw0 hA hv he ht hwl h0 hsl
 gi_wp2_with fail
 have hT0:Turn [] W0 [] W0.drew:=(Turn.refl (Has.nil W0)).drew;have HS:=uh (fun w' X (V:Turn [] W0 X w')=>(⟨(V.below.cell (p:=⟨Bs,0,none⟩) (World.block_lt_of_cell? W0 _ hbx)).trans hbx,HV.out w' (Hw0.out.trans (V.below.mono Hw0.out.size))⟩:(fun W'=>W'.cell? ⟨Bs,0,none⟩=some (pt vb) /\ W'.rangeAt vb 0 (viewCells a g h ⟨tk,tw,tm⟩)) w'));have hS:=HS.out _ _ hT0;have HT0:=uh hT0;clear hT0;refine wpIn_region_noPanic ?_;refine wpIn_region_listedHI (S:=fun W'=>W'.cell? ⟨Bs,0,none⟩=some (pt vb) /\ W'.rangeAt vb 0 (viewCells a g h ⟨tk,tw,tm⟩)) 15 [false,false,false,false,false,false,false,false,false,false,false,false,false,false,false] rfl rfl (by kernel_rfl) ?_;refine tkJ 0 12 hro hS (fun w hSw=>hSw.1) ?_;refine tkI 1 13 hro hS ?_;refine tkI 2 14 hro hS ?_;refine takeGI 3 15 hro rfl rfl (by rfl) (by kernel_rfl) (by kernel_rfl) (by kernel_rfl) (fun _ _ _ _ h=>h) hS (fun _=>rfl) (fun w' hSw=>load_mid_run 49 _ rfl vb 6 rfl [.int .u8 tk,.int .i64 tw,.int .u64 tm] _ (range_off (xs:=[pt a,.int .i64 g,.int .u8 h.tag,.int .i64 h.typ,.int .i64 h.len,.int .i64 h.size]) hSw.2) underlying49 rfl hszT) ?_;simp only[st1,st2];refine tkJ 4 16 hro hS (fun w hSw=>hSw.1) ?_;refine tkI 5 17 hro hS ?_;refine tkI 6 18 hro hS ?_;refine tkI 7 19 hro hS ?_;refine tkJ 8 20 hro hS (fun w hSw=>hSw.2 4 _ rfl) ?_;refine wpAnyHI_call (i:=9) (by kernel_rfl) rfl (fun K hK=>?_)
 go_simp
 refine(callsIn_wide.2 (HRf.out _)).mono ?_;rintro e w3 ⟨a3,p3,l3,rfl,hr3,T3⟩;have T4:Turn [] W0 l3 w3:=HT0.out.trans T3;have hS3:=HS.out _ _ T4;have HT4:=uh T4;have Hr3:=uh hr3;refine hK.out _ _ hS3 ?_;clear hK K T3 T4 hr3 hS;simp only[st0,st1,st2];refine tkI 10 11 hro hS3 ?_;refine tkI 11 22 hro hS3 ?_;refine tkI 12 23 hro hS3 ?_;refine tkI 13 3 hro hS3 ?_;refine tkI 14 4 hro hS3 ?_;refine wpAnyHI_done (by kernel_rfl) ?_ _;refine NoPanic.normal ?_;have hbx3:=hS3.1;have hG0:=HG.out [] W0 HJ0.out
 have HN0:=uh (fun x (hx:x∈l3)=>(⟨HT4.out.has.own x.1 x.2 hx,fun hd=>by
  have h1:=(hGD W0 hG0 x.1 (hDD W0 w3 x.1 hG0 HT4.out.below hd)).1;have h2:=(HT4.out.new x.1 (mem_keys.2 ⟨x.2,hx⟩)).resolve_left (by simp[keys]);omega⟩:w3.heap[x.1]?= some x.2 /\ ¬D w3 x.1))
 have HJ3:=uh (HJ.out [] W0 _ none HJ0.out (below_grownBy HT4.out.below) (fun r e=>by cases e));have HB3:=uh ((HT4.out.below.block Bs (lt_of_block HB0.out)).trans HB0.out);have Hw3:=uh (Hw0.out.trans (HT4.out.below.mono Hw0.out.size));have Hnd:=uh HT4.out.has.nd;clear hS3 HS HT0 HT4 HJ0 HB0 hbx hG0
 gi_wp2_with fail
 gi_loopw [26] (fun v26 wr=>∃(i:Nat),i <= rs.length /\ v26=.int .i64 i /\ J ((svs W g rs).take i) wr /\ Below wb.heap.size wb wr /\ wr.heap[Bs]?= some (.cells #[pt vb] 124) /\ (∀x∈l3,wr.heap[x.1]?= some x.2 /\ ¬D wr x.1)) (fun v26 _=>rs.length-(intOf v26).toNat)
 case atStart=>exact⟨0,Nat.zero_le _,by go_num,HJ3.out,Hw3.out,HB3.out,HN0.out⟩
 case round=>
  clear HJ3 Hw3 HB3 HN0 hbx3;obtain⟨i,hi,rfl,hJw,hwr,hBw,hNw⟩:=hrel
  by_cases hlt:i<rs.length
  · have hlt':(i:Int)<(rs.length:Int):=by omega
    obtain⟨s,hs⟩:∃s,rs[i]?= some s:=⟨rs[i],List.getElem?_eq_getElem hlt⟩;have hwls:=Hwl.out i s hs;obtain⟨v,hvv⟩:∃v,W[2*g+1+s]?= some v:=⟨W[2*g+1+s]'(hwls.2),List.getElem?_eq_getElem _⟩;have hvg:W.getD (2*g+1+s) 0=v:=(by rw[List.getD_eq_getElem?_getD,hvv];rfl);have hbx:wr.cell? ⟨Bs,0,none⟩=some (pt vb):=(Has.one hBw).cell (List.mem_cons_self ..) 0;have hsrc:=Hr3.out.src (R:=[]) (w:=wr) (by rw[List.append_nil];exact⟨Hnd.out,fun b o hm=>(hNw (b,o) hm).1⟩);obtain⟨b3,off3,rfl,hc3⟩:=hsrc.form (by rw[nats_length];omega);have q3:=hc3 i _ (nats_at hs);have HL:=uh (HLd.out wr hwr s v hwls.1 hvv);have hspl:=Hsp.out i s hs;rw[hvg]at hspl;have hGr:=HG.out _ wr hJw;have HY2:=uh (fun W1=>HY.out ((svs W g rs).take i) (s,v) W1 ⟨_,hspl⟩);unfold svArgs at HY2;have hnx:(svs W g rs).take (i+1)=(svs W g rs).take i++[(s,v)]:=(by rw[take_nextA (svs_at hs),hvg]);have HNx:=uh hnx;have HJw:=uh hJw
    have HK:=uh (fun w' w8 (hB:Below wr.heap.size wr w') (k:KpD wb.heap.size D w' w8)=>(⟨(hwr.trans (hB.mono hwr.size)).trans k.below,k.same Bs _ ((hB.block Bs (lt_of_block hBw)).trans hBw) rfl (fun hd=>(hGD wr hGr Bs (hDD wr w' Bs hGr hB hd)).2 rfl),fun x hx=>by
     have hx1:=(hB.block x.1 (lt_of_block (hNw x hx).1)).trans (hNw x hx).1;have hx2:¬D w' x.1:=fun hd=>(hNw x hx).2 (hDD wr w' x.1 hGr hB hd)
     exact⟨k.same x.1 x.2 hx1 (Hr3.out.cells x hx) hx2,fun hd=>hx2 (k.own x.1 (lt_of_block hx1) hd)⟩⟩:
      Below wb.heap.size wb w8 /\ w8.heap[Bs]?= some (.cells #[pt vb] 124) /\ (∀x∈l3,w8.heap[x.1]?= some x.2 /\ ¬D w8 x.1)))
    clear hs hwls hvv hvg hsrc hc3 hspl hGr hnx hJw hwr hBw hNw
    gi_wp2_with (first
     | (gi_at_call 103;refine(callsIn_wide.2 HL.out).mono ?_;rintro e w5 ⟨rfl,hB5⟩;have HB5:=uh hB5;obtain⟨fn,tmps,assign,body,hy,hR⟩:=HY2.out _ (HJ.out _ wr _ none HJw.out (below_grownBy hB5) (fun r e=>by cases e));have HR:=uh hR;clear hR hB5 HL q3 hbx)
     | fail)
    refine HR.out.mono ?_;rintro e w8 ⟨rfl,hJ8,hk8⟩;have HN:=uh (HK.out _ _ HB5.out hk8);have HJ8:=uh hJ8;clear hJ8 hk8 HR hy HK HY2 HB5
    gi_wp2_with fail
    go_roundw
    case rel=>exact⟨i+1,by omega,by go_num,by rw[HNx.out];exact HJ8.out,HN.out.1,HN.out.2.1,HN.out.2.2⟩
    case measure=>simp[intOf];omega
  · obtain rfl:i=rs.length:=by omega
    have hnl:¬((rs.length:Nat):Int)<(rs.length:Int):=(by omega);have HX:=uh (show J (svs W g rs) wr by rw[←Hfin.out,List.take_length]at hJw;exact hJw);clear hJw hwr hBw hNw
    gi_wp2_with fail
    go_end0;exact⟨⟨_,rfl⟩,HX.out⟩
end
section
open Go Go.RowKit Go.Shelf Go.IntWalk
attribute [local go_sem] Oper.semAt_some
theorem vrefs_all (w:World)(vb a aw g:Nat)(W:List Nat)(h:Hd)(t:Ty)(hA:ArAt w a aw W)(hv:VwAt w vb a g h t)(ht:TyIn t)(he:t.err h.len=0)(hg:g <= 65536)(hwl:∀s∈t.refs h.len,s<t.slots h.len /\ 2*g+1+s<W.length):
  Calls prog 102 #[pt vb] w fun e w'=>∃ao cap l,e=.returned (.slice ao (t.refs h.len).length cap) /\ Row 3 1 ao (t.refs h.len).length cap (nats (t.refs h.len)) l /\ Turn [] w l w':=by
 refine(callsIn_wide (n:=6)).1 ?_;have h3:Fence.wide.fn 102:= trivial;have h6:Fence.wide.fn 168:= trivial;have h7:Fence.wide.fn 217:= trivial;have hro:Fence.wide.round=none:=rfl;have h1:1 <= 6:=by omega
 have hvbl:vb<w.heap.size:=World.block_lt_of_cell? w _ (hv.c (i:=0) rfl)
 have hcl:(t.refs h.len).length <= 65536:=by
  have h1:=refsTo_len t (t.slots h.len);have h2:t.refs h.len=refsTo t (t.slots h.len):=rfl;obtain⟨hm,-,hn9,-⟩:=err_ok.1 he;have:=slots_most hm (n:=h.len) (by omega);rw[h2];omega
 refine callsIn_of_wp_marks func102 rfl h3 ?_ hro;simp only[ntmps102,List.size_toArray,List.length_cons,List.length_nil,Nat.reduceAdd,Nat.reduceSub,Array.replicate_succ,Array.replicate_zero,List.push_toArray,List.append_toArray,List.nil_append,List.cons_append];have HIt:=uh (fun Bs D G hGD hDD w0 hw hBs=>vrefs_g (6-1) (by omega) w vb a aw g W h t hA hv ht he hg hwl Bs D G hGD hDD w0 hw hBs);generalize t.refs h.len=rs at*;have Hfin:=uh (svs_len W g rs);have hT0:=uh (Turn.refl (Has.nil w));clear hA hv ht he hg hwl
 gi_wp2_with (first
  | (gi_at_call 168;refine(vrefs_in (6-1) vb _).mono ?_;rintro e w' ⟨rfl,hw⟩;rw[hw];clear hw w')
  | fail)
 obtain⟨n4,hn4⟩:∃n4,w.heap.size=n4:=⟨_,rfl⟩;have T5:=(hT0.out.alloc (.cells #[.slice none 0 0] 38)).alloc (.cells #[pt vb] 124);have hsz0:((w.alloc (.cells #[.slice none 0 0] 38)).alloc (.cells #[pt vb] 124)).heap.size=w.heap.size+1+1:=by simp
 simp only[World.size_alloc]at T5;generalize(w.alloc (.cells #[.slice none 0 0] 38)).alloc (.cells #[pt vb] 124)=W0 at T5 hsz0 ⊢;have R8:Below w.heap.size w W0:=T5.below;rw[hn4]at T5 hsz0 hvbl ⊢;clear hT0;have hBs:W0.heap[n4+1]?= some (.cells #[pt vb] 124):=T5.has.own _ _ (by simp);have T8:Turn [] w ([]++[(n4,.cells #[.slice none 0 0] 38),(n4+1,.cells #[pt vb] 124)]) W0:=T5.perm po;clear T5;have hw0W:w.heap.size <= W0.heap.size:=R8.size
 apply wpIn_rangeFunc_g (β:=Nat) hro h1 (gf:=217) (lb:=#[pt (n4+1)]) rfl h7 (enters_of func217 (by kernel_rfl) rfl)
  (HIt.out (n4+1) (ResD n4) (ResG n4 (n4+1)) (fun A h=>h) (fun A B b hg hB=>ResD.old hg hB) W0 R8 hBs)
  (fun h k=>h.t k) (KpD.b (by omega) (fun W l o' hl b=>ResD.put (by omega) o')) (Below.refl _ _) (fun _=>rfl)
  (fun pre W'=>∃ao cap lr,Row 3 1 ao pre.length cap (nats (pre.map (·.1))) lr /\ pre.length <= 65536 /\ Turn [] w (lr++[(n4,.cells #[.slice ao pre.length cap] 38),(n4+1,.cells #[pt vb] 124)]) W')
  (fun(x:Nat×Nat) (nb:Nat) pre W'=>∃ao cap lr,Row 3 1 ao pre.length cap (nats (pre.map (·.1))) lr /\ pre.length+1 <= 65536 /\ Turn [] w (lr++[(n4,.cells #[.slice ao pre.length cap] 38),(n4+1,.cells #[pt vb] 124)]) W')
  (fun s A D row ⟨ao,cap,lr,e1,e2,hT⟩ hg hr=>⟨ao,cap,lr,e1,e2,hT.grownB hw0W (resBx_cells e1) hg hr⟩)
  (fun x nb s A D row ⟨ao,cap,lr,e1,e2,hT⟩ hg hr=>⟨ao,cap,lr,e1,e2,hT.grownB hw0W (resBx_cells e1) hg hr⟩)
  ⟨none,0,[],Row.nil _ _,by simp,T8⟩
  (fun pre W' ⟨ao,cap,lr,e1,e2,hT⟩=>resG_of e1 hT)
 case hassign=>
  rintro l1 pre x W2 ⟨post,hnx⟩ ⟨ao,cap,lr,e1,e2,hT⟩
  have hpl:pre.length+1 <= 65536:=by
   have h9:=Hfin.out;rw[hnx,List.length_append,List.length_cons]at h9;omega
  have hwn:w.heap.size <= W2.heap.size:=hT.size;have HX:=uh (⟨e1,hT⟩:Row 3 1 ao pre.length cap (nats (pre.map (·.1))) lr /\ Turn [] w (lr++[(n4,.cells #[.slice ao pre.length cap] 38),(n4+1,.cells #[pt vb] 124)]) W2);unfold svArgs;clear hT e1 hnx
  gi_wp2_with fail
  obtain⟨z,-⟩:∃z:Nat,z=0:=⟨0,rfl⟩;exact⟨KeepsFrom.refl _ _,⟨Below.refl _ _,Nat.le_refl _,fun _ _ h _ _=>h,fun _ _ h=>h⟩,z,rfl,ao,cap,lr,HX.out.1,hpl,HX.out.2⟩
 case hbody=>
  rintro l1 pre x nb W2-⟨ao,cap,lr,e1,e2,hT⟩;have q0:W2.cell? ⟨n4,0,none⟩=some (.slice ao pre.length cap):=hT.has.cell (b:=n4) (c:=#[.slice ao pre.length cap]) (e:=38) (f:=(0,0)) (by simp) 0;have h63:pre.length+1 <= maxLen:=by unfold maxLen;omega
  have hby:(pre.length+1)*8 <= 140737488355328:=by omega
  have HT:=uh hT;have H1:=uh e1;have HH:=uh (hT.has.sub (l':=lr++[(n4,.cells #[.slice ao pre.length cap] 38)]) (by simp));clear hT e1
  gi_wp2_with (first
   | (gi_at_builtin;have T3:=uh (HT.out.alloc (.cells #[.int .i64 x.1] 3));have K3:=uh (((Turn.refl HH.out).alloc (.cells #[.int .i64 x.1] 3)).perm (l2:=lr++[(W2.heap.size,.cells #[.int .i64 x.1] 3),(n4,.cells #[.slice ao pre.length cap] 38)]) po);refine wpListIn_by (follows_round _ _ _) rfl (by intro c h;cases h) (wp_append_row _ _ rfl el_int rfl H1.out (R:=[(W2.heap.size,.cells #[.int .i64 x.1] 3),(n4,.cells #[.slice ao pre.length cap] 38)]) K3.out.has rfl (news:=[.int .i64 x.1]) rfl (news_of (heap_alloc_new _ _)) (by simp[Value.oneCell']) h63 hby ?_);intro a9 p9 l9 w4 hr9 V4 hno;have T4:=(((T3.out.perm (l2:=(lr++[(W2.heap.size,.cells #[.int .i64 x.1] 3),(n4,.cells #[.slice ao pre.length cap] 38)])++[(n4+1,.cells #[pt vb] 124)]) po)).trans (V4.more ((T3.out.perm (l2:=(lr++[(W2.heap.size,.cells #[.int .i64 x.1] 3),(n4,.cells #[.slice ao pre.length cap] 38)])++[(n4+1,.cells #[pt vb] 124)]) po).has))).perm (l2:=(n4,.cells #[.slice ao pre.length cap] 38)::(l9++[(W2.heap.size,.cells #[.int .i64 x.1] 3),(n4+1,.cells #[pt vb] 124)])) po;have q5:=T4.cell1 0;have f5:=T4.free1 0;have K5:=((K3.out.trans V4).perm (l2:=(n4,.cells #[.slice ao pre.length cap] 38)::(l9++[(W2.heap.size,.cells #[.int .i64 x.1] 3)])) po).setCell 0 (.slice a9 (pre.length+1) p9);have HT5:=uh (T4.setCell 0 (.slice a9 (pre.length+1) p9));have HK5:=uh (KpD.res (n₀:=w.heap.size) H1.out hr9 K5 HH.out (by omega) (fun b hb=>(HT.out.new b (by simp[keys]at hb ⊢;exact .inl hb)).resolve_left (by simp[keys])));have HKO:=uh (Turn.keepsOthers K5 HH.out (resBx1_cells H1.out));have Hr9:=uh hr9;clear V4 T4 K5 K3 T3 hno hr9 q0)
   | fail)
  have hce:nats ((pre++[x]).map (·.1))=nats (pre.map (·.1))++[.int .i64 x.1]:=by rw[List.map_append,nats_append];rfl
  have hl1:(pre++[x]).length=pre.length+1:=by simp
  refine⟨HKO.out.from _,HK5.out,a9,p9,l9,by rw[hl1,hce];exact Hr9.out,by omega,by rw[hl1];exact(HT5.out.perm (l2:=[(W2.heap.size,.cells #[.int .i64 x.1] 3)]++(l9++[(n4,.cells #[.slice a9 (pre.length+1) p9] 38),(n4+1,.cells #[pt vb] 124)])) po).drop⟩
 case hdone=>
  rintro D xs W2 hD hxs ⟨ao,cap,lr,e1,e2,hT⟩ hK;have hxl:xs.length=rs.length:=by rw[hxs];exact Hfin.out
  have hxn:nats (xs.map (·.1))=nats rs:=by
   rw[hxs];unfold svs;rw[List.map_map]
   congr 1
   exact List.map_id _
  rw[hxl]at e1 e2 hT;rw[hxn]at e1;clear hxs hxl hxn;have hHb:Has W2 ((n4,.cells #[.slice ao rs.length cap] 38)::(lr++[(n4+1,.cells #[pt vb] 124)])):=hT.has.perm po;have q0:W2.cell? ⟨n4,0,none⟩=some (.slice ao rs.length cap):=hHb.cell (List.mem_cons_self ..) 0;have f0:W2.frozen? ⟨n4,0,none⟩=false:=hHb.free (List.mem_cons_self ..) 0;have HT:=uh hT;have H1:=uh e1;have HK:=uh hK;clear hT e1 hHb hK
  gi_wp2_with fail
  have T9:=(HT.out.perm (l2:=(n4,.cells #[.slice ao rs.length cap] 38)::(lr++[(n4+1,.cells #[pt vb] 124)])) po).setCell 0 (.slice ao rs.length cap)
  have hK5:(W2.setCell ⟨n4,0,none⟩ (.slice ao rs.length cap)).heap[D]?= some (.deferred (some [])):=by
   rw[Below.heap_setCell _ _ _ _ (by show D≠n4;omega)];exact HK.out
  have T10:=T9.grownB (B:=W0.heap.size) hw0W (fun y hy=>by
   rcases List.mem_cons.1 hy with rfl|hy
   ·rfl
   rcases List.mem_append.1 hy with hy|hy
   ·exact H1.out.cells y hy
   ·rw[List.mem_singleton.1 hy];rfl) (grownBy_putObj' _ D (.deferred none)) (fun r e=>by cases e;exact⟨hD,_,hK5,rfl⟩)
  have hcl:((W2.setCell ⟨n4,0,none⟩ (.slice ao rs.length cap)).putObj D (.deferred none)).cell? ⟨n4,0,none⟩=some (.slice ao rs.length cap):=T10.cell1 0;have HT10:=uh T10;clear T9 T10 HT q0 f0;refine⟨by simp,.inl ⟨_,_,rfl,run_takeDeferred hK5,?_⟩⟩;refine⟨.slice ao rs.length cap,?_,ao,cap,lr,rfl,H1.out,(HT10.out.perm (l2:=(n4,.cells #[.slice ao rs.length cap] 38)::((n4+1,.cells #[pt vb] 124)::lr)) po).tail.tail⟩;simp[results,results102,go_sem,hcl]
end
section
open Go Go.RowKit Go.Shelf Go.IntWalk
attribute [local go_sem] Oper.semAt_some
abbrev Ed:=Nat×Nat×Int×Nat
def edg (W A:List Nat)(c s:Nat):Ed:=(c,s,tgt A (W.getD (2*c+1+s) 0),W.getD (2*c+1+s) 0)
def edsOf (L:List Ty)(W A:List Nat)(c:Ce):List Ed:=((tyAt L c.2.typ).refs c.2.len).map (edg W A c.1)
def eds (L:List Ty)(W A:List Nat)(os:List Ce):List Ed:=os.flatMap (edsOf L W A)
def edArgs (x:Ed):Array Value:=#[.agg #[.int .i64 x.1,.int .i64 x.2.1,.int .i64 x.2.2.1],.int .u64 x.2.2.2]
theorem edsOf_at {L:List Ty}{W A:List Nat}{c:Ce}{j s:Nat}(h:((tyAt L c.2.typ).refs c.2.len)[j]?= some s):(edsOf L W A c)[j]?= some (edg W A c.1 s):=by unfold edsOf;rw[List.getElem?_map,h];rfl
theorem eds_next {L:List Ty}{W A:List Nat}{os:List Ce}{i:Nat}{c:Ce}(h:os[i]?= some c):eds L W A (os.take (i+1))=eds L W A (os.take i)++edsOf L W A c:=by
 rw[take_next h];unfold eds;rw[List.flatMap_append];simp
theorem eds_split {L:List Ty}{W A:List Nat}{os:List Ce}{i j s:Nat}{c:Ce}(h:os[i]?= some c)(hj:((tyAt L c.2.typ).refs c.2.len)[j]?= some s):
  ∃post,eds L W A os=(eds L W A (os.take i)++(edsOf L W A c).take j)++edg W A c.1 s::post:=by
 have h1:eds L W A os=eds L W A (os.take i)++(edsOf L W A c++eds L W A (os.drop (i+1))):=by
  conv=>lhs;rw[←List.take_append_drop i os,drop_next h]
  unfold eds;rw[List.flatMap_append,List.flatMap_cons]
 have h2:edsOf L W A c=(edsOf L W A c).take j++edg W A c.1 s::(edsOf L W A c).drop (j+1):=by
  rw[←drop_nextA (edsOf_at hj),List.take_append_drop]
 refine⟨(edsOf L W A c).drop (j+1)++eds L W A (os.drop (i+1)),?_⟩;rw[h1]
 conv=>lhs;rw[h2]
 simp
theorem grefs_in (n:Nat)(g:Nat)(w:World):
  CallsIn Fence.wide n prog 147 #[pt g] w fun e w'=>e=.returned (.func (.func 202) #[] #[pt w.heap.size]) /\ w'=w.alloc (.cells #[pt g] 260):=by
 have hf:Fence.wide.fn 147:= trivial;refine callsIn_of_wp func147 rfl hf ?_ rfl;simp only[ntmps147,List.size_toArray,List.length_cons,List.length_nil,Nat.reduceAdd,Nat.reduceSub,Array.replicate_succ,Array.replicate_zero,List.push_toArray,List.append_toArray,List.nil_append,List.cons_append]
 gi_wp2
 go_ret;exact⟨rfl,rfl⟩
structure ObIn (L:List Ty)(W:List Nat)(c:Ce):Prop where
 obj:objq L W (c.1:Int)=some c.2
 ty:TyIn (tyAt L c.2.typ)
 err:(tyAt L c.2.typ).err c.2.len=0
 at_:c.1 <= 65536
 in_:∀s∈(tyAt L c.2.typ).refs c.2.len,s<(tyAt L c.2.typ).slots c.2.len /\ 2*c.1+1+s<W.length
theorem obIn_of {L:List Ty}{W:List Nat}{cs:List Ce}(hC:Chain L W 0 cs (W.length/2))(hf:W.length <= 65536)(hTy:∀t∈L,TyIn t){c:Ce}(hc:c∈objs cs):ObIn L W c:=by
 obtain⟨h1,h2⟩:=objs_mem hc;have hm:=hC.mem c h1;have h3:=stands_ty hm.2.2 h2 hTy;have h4:=(stands_slots hm.2.2 h2).1;refine⟨objq_of hm.2.2 h2,h3.2,h3.1,by omega,fun s hs=>?_⟩;obtain⟨p,hp⟩:=List.mem_iff_getElem?.1 hs
 have h5:s<(tyAt L c.2.typ).slots c.2.len:=by
  unfold Ty.refs at hs;exact List.mem_range.1 (List.mem_filter.1 hs).1
 exact⟨h5,by omega⟩
theorem grefs_g (n:Nat)(hn:2 <= n)(w1:World)(a aw tb:Nat){W:List Nat}(tao:Option Addr)(tcap:Nat)(L:List Ty)(hA:WkAt w1 a aw tb W tao tcap L)(hf:W.length <= 65536)(hu:∀v∈W,v<18446744073709551616)(hTy:∀t∈L,TyIn t)(hL:L.length <= 1000)
  (cs:List Ce)(hC:Chain L W 0 cs (W.length/2))(g m Bs:Nat)(ob:Obj)(ao:Option Addr)(cap:Nat)(lr:List Blk)(en:Int)(hmo:MapObj .i64 (mpOf (ats cs)) ob)(hrow:Row 3 1 ao (ats cs).length cap (nats (ats cs)) lr)
  (XB:List Blk)(hx1:(Bs,.cells #[pt g] 260)∈XB)(hx2:(g,.cells #[pt a,pt tb,.map (some m),.slice ao (ats cs).length cap,.int .i64 en] 334)∈XB)(hx3:∀x∈lr,x∈XB)(hXc:∀x∈XB,x.2.isCells=true)
  (D:World -> Nat -> Prop)(G:World -> Prop)(hGD:∀A,G A -> ∀b,D A b -> b<A.heap.size /\ b∉keys XB)(hDD:∀A B b,G A -> Below A.heap.size A B -> D B b -> D A b)
  (w:World)(hw:Below w1.heap.size w1 w)(hX:∀x∈XB,w.heap[x.1]?= some x.2)(hnd:(keys lr).Nodup)(hmb:w.heap[m]?= some ob):
  SeqG Fence.wide n prog 202 #[pt Bs] edArgs (fun A B=>KpD w1.heap.size D A B /\ B.heap[m]?= A.heap[m]?) (fun pre x=>∃post,eds L W (ats cs) (objs cs)=pre++x::post) (fun xs=>xs=eds L W (ats cs) (objs cs)) G w:=fun l J W0 hW hJ hG hY h0=>by
 have hX0:∀x∈XB,W0.heap[x.1]?= some x.2:=fun x hx=>(hW.block x.1 (lt_of_block (hX x hx))).trans (hX x hx);have hm0:W0.heap[m]?= some ob:=(hW.block m (lt_of_block hmb)).trans hmb;have hw0:Below w1.heap.size w1 W0:=hw.trans (hW.mono hw.size);have hFl:Fence.wide.fn 202:= trivial;have hf1:Fence.wide.fn 49:= trivial;have hf2:Fence.wide.fn 103:= trivial;have hf3:Fence.wide.fn 102:= trivial;have hf4:Fence.wide.fn 203:= trivial;refine callsIn_of_wp func202 rfl hFl ?_ rfl;simp only[ntmps202,List.size_toArray,List.length_cons,List.length_nil,Nat.reduceAdd,Nat.reduceSub,Array.replicate_succ,Array.replicate_zero,List.push_toArray,List.append_toArray,List.nil_append,List.cons_append];have h1:1 <= n:=by omega
 have hro:Fence.wide.round=none:=rfl;have h2:1 <= n-1:=by omega
 have Hob:=uh (fun(i:Nat) (c:Ce) (hi:(objs cs)[i]?= some c)=>obIn_of hC hf hTy (List.mem_of_getElem? hi));have Hat:=uh (fun(i:Nat) (c:Ce) (hi:(objs cs)[i]?= some c)=>(show(ats cs)[i]?= some c.1 by unfold ats;rw[List.getElem?_map,hi];rfl));have hal:(ats cs).length=(objs cs).length:=by unfold ats;rw[List.length_map]
 have hol:(objs cs).length <= 32768:=by
  have h5:=hC.len;have h6:(objs cs).length <= cs.length:=by unfold objs;exact List.length_filter_le ..
  omega
 have Hsof:=uh (fun(w':World) (hB:Below w1.heap.size w1 w') (c:Ce) (hc:ObIn L W c)=>by
  have h7:=sof w' (hA.below hB).fields (hA.below hB).ar hu L hTy hL tb tao tcap (hA.below hB).tab (c.1:Int);rw[hc.obj]at h7;exact h7)
 have Hvr:=uh (fun(w':World) (hB:Below w1.heap.size w1 w') (c:Ce) (hc:ObIn L W c) vb (hv:VwAt w' vb a c.1 c.2 (tyAt L c.2.typ))=>vrefs_all w' vb a aw c.1 W c.2 _ (hA.below hB).ar hv hc.ty hc.err hc.at_ hc.in_);have Hld:=uh (fun(w':World) (hB:Below w1.heap.size w1 w') (c:Ce) (hc:ObIn L W c) vb (hv:VwAt w' vb a c.1 c.2 (tyAt L c.2.typ)) s v hs hvv=>vload w' (hA.below hB).ar hv hc.ty hc.err hc.at_ s v hs hvv);have Htg:=uh (fun(w':World) (hX':∀x∈XB,w'.heap[x.1]?= some x.2) (hm':w'.heap[m]?= some ob) v (hv:v<18446744073709551616)=>wtarget w' g m ob (ats cs) ((Has.one (hX' _ hx2)).cell (List.mem_cons_self ..) 2) hm' hmo v hv);have Hu:=uh (fun(i v:Nat) (hv:W[i]?= some v)=>hu v (List.mem_of_getElem? hv));have HY:=uh hY;have HJ:=uh hJ;have HG:=uh hG;have HJ0:=uh h0;have Hw0:=uh hw0;have Hm0:=uh hm0;have Hrow:=uh hrow;have Hnd:=uh hnd;have Hen:=uh (fun(i:Nat) (c:Ce) (hi:(objs cs)[i]?= some c)=>eds_next (L:=L) (W:=W) (A:=ats cs) hi);have Hes:=uh (fun(i j s:Nat) (c:Ce) (hi:(objs cs)[i]?= some c) (hj:((tyAt L c.2.typ).refs c.2.len)[j]?= some s)=>eds_split (L:=L) (W:=W) (A:=ats cs) hi hj);have HI0:=uh (fun x (hx:x∈XB)=>(⟨hX0 x hx,fun hd=>(hGD W0 (hG [] W0 h0) x.1 hd).2 (mem_keys.2 ⟨x.2,hx⟩)⟩:W0.heap[x.1]?= some x.2 /\ ¬D W0 x.1))
 -- what stays, whatever list of blocks of cells is looked at
 have HKb:=uh (fun(Z:List Blk) (wr w':World) (hGr:G wr) (hz:∀x∈Z,wr.heap[x.1]?= some x.2 /\ ¬D wr x.1) (hB:Below wr.heap.size wr w')=>(fun x hx=>⟨(hB.block x.1 (lt_of_block (hz x hx).1)).trans (hz x hx).1,fun hd=>(hz x hx).2 (hDD wr w' x.1 hGr hB hd)⟩:∀x∈Z,w'.heap[x.1]?= some x.2 /\ ¬D w' x.1));have HKk:=uh (fun(Z:List Blk) (wr w':World) (hZc:∀x∈Z,x.2.isCells=true) (hz:∀x∈Z,wr.heap[x.1]?= some x.2 /\ ¬D wr x.1) (k:KpD w1.heap.size D wr w')=>(fun x hx=>⟨k.same x.1 x.2 (hz x hx).1 (hZc x hx) (hz x hx).2,fun hd=>(hz x hx).2 (k.own x.1 (lt_of_block (hz x hx).1) hd)⟩:∀x∈Z,w'.heap[x.1]?= some x.2 /\ ¬D w' x.1));have HXc:=uh hXc;have Hx3:=uh hx3
 have HcS:=uh (fun(w':World) (hX':∀x∈XB,w'.heap[x.1]?= some x.2)=>(⟨(Has.one (hX' _ hx1)).cell (List.mem_cons_self ..) 0,(Has.one (hX' _ hx2)).cell (List.mem_cons_self ..) 0,(Has.one (hX' _ hx2)).cell (List.mem_cons_self ..) 1,(Has.one (hX' _ hx2)).cell (List.mem_cons_self ..) 3⟩:
  w'.cell? ⟨Bs,0,none⟩=some (pt g) /\ w'.cell? ⟨g,0,none⟩=some (pt a) /\ w'.cell? ⟨g,1,none⟩=some (pt tb) /\ w'.cell? ⟨g,3,none⟩=some (.slice ao (ats cs).length cap)))
 have HDn:=uh (fun(wr w':World) (hGr:G wr) (Z:List Blk) (V:Turn [] wr Z w')=>(fun x hx=>⟨V.has.own x.1 x.2 hx,fun hd=>by
  have h8:=(hGD wr hGr x.1 (hDD wr w' x.1 hGr V.below hd)).1;have h9:=(V.new x.1 (mem_keys.2 ⟨x.2,hx⟩)).resolve_left (by simp[keys]);omega⟩:∀x∈Z,w'.heap[x.1]?= some x.2 /\ ¬D w' x.1))
 have c0:=HcS.out W0 hX0;have q0:=c0.1;have q3:=c0.2.2.2;generalize hos:objs cs=os at*;clear hY hJ hG hW hw hX hX0 hm0 hw0 hA hu hTy hC h0 hmo hrow hnd hmb hXc c0 hos hx1 hx2 hx3
 gi_wp2_with fail
 gi_loopw [16] (fun v16 wr=>∃(i:Nat),i <= os.length /\ v16=.int .i64 i /\ J (eds L W (ats cs) (os.take i)) wr /\ Below w1.heap.size w1 wr /\ (∀x∈XB,wr.heap[x.1]?= some x.2 /\ ¬D wr x.1) /\ wr.heap[m]?= some ob) (fun v16 _=>os.length-(intOf v16).toNat)
 case atStart=>exact⟨0,Nat.zero_le _,by go_num,HJ0.out,Hw0.out,HI0.out,Hm0.out⟩
 case round=>
  clear HJ0 Hw0 HI0 Hm0 q0 q3;obtain⟨i,hi,rfl,hJw,hwr,hIw,hmw⟩:=hrel
  by_cases hlt:i<os.length
  · have hlt':(i:Int)<((ats cs).length:Int):=by omega
    obtain⟨c,hc⟩:∃c,os[i]?= some c:=⟨os[i],List.getElem?_eq_getElem hlt⟩;have hci:=Hob.out i c hc;have hsrc:=Hrow.out.src (R:=[]) (w:=wr) (by rw[List.append_nil];exact⟨Hnd.out,fun b o hm=>(hIw (b,o) (Hx3.out _ hm)).1⟩);obtain⟨b3,off3,rfl,hc3⟩:=hsrc.form (by rw[nats_length];omega);have q3:=hc3 i _ (nats_at (Hat.out i c hc));have hGr:=HG.out _ wr hJw;have HIw:=uh hIw;have Hmw:=uh hmw;have HJw:=uh hJw;have Hwr:=uh hwr;have Hci:=uh hci;have HGr:=uh hGr;have Hc:=uh hc;clear hc hci hsrc hc3 hJw hwr hIw hmw hGr
    gi_wp2_with fail
    clear q3;have hT0:Turn [] wr [] wr.drew:=(Turn.refl (Has.nil wr)).drew
    have HS:=uh (fun(w':World) (X:List Blk) (V:Turn [] wr X w')=>by
     have h9:=HcS.out w' (fun x hx=>(HKb.out _ wr w' HGr.out HIw.out V.below x hx).1);exact(⟨h9.1,h9.2.1,h9.2.2.1⟩:(fun W'=>W'.cell? ⟨Bs,0,none⟩=some (pt g) /\ W'.cell? ⟨g,0,none⟩=some (pt a) /\ W'.cell? ⟨g,1,none⟩=some (pt tb)) w'))
    have hS:=HS.out _ _ hT0;have HT0:=uh hT0;clear hT0;refine wpIn_region_noPanic ?_;refine wpIn_region_listedHI (S:=fun W'=>W'.cell? ⟨Bs,0,none⟩=some (pt g) /\ W'.cell? ⟨g,0,none⟩=some (pt a) /\ W'.cell? ⟨g,1,none⟩=some (pt tb)) 15 [false,false,false,false,false,false,false,false,false,false,false,false,false,false,false] rfl rfl (by kernel_rfl) ?_;refine tkJ 0 21 hro hS (fun w hSw=>hSw.1) ?_;refine tkI 1 22 hro hS ?_;refine tkI 2 23 hro hS ?_;refine tkJ 3 24 hro hS (fun w hSw=>hSw.2.1) ?_;refine tkJ 4 25 hro hS (fun w hSw=>hSw.1) ?_;refine tkI 5 26 hro hS ?_;refine tkI 6 27 hro hS ?_;refine tkJ 7 28 hro hS (fun w hSw=>hSw.2.2) ?_;refine tkI 8 29 hro hS ?_;refine wpAnyHI_call (i:=9) (by kernel_rfl) rfl (fun K hK=>?_)
    go_simp
    refine(callsIn_wide.2 (Hsof.out _ (Hwr.out.trans (HT0.out.below.mono Hwr.out.size)) c Hci.out)).mono ?_;rintro e w3 ⟨vb,rfl,T3⟩;have T4:Turn [] wr [(vb,.cells (viewCells a c.1 c.2 (tyAt L c.2.typ)).toArray 238)] w3:=HT0.out.trans T3;have hS3:=HS.out _ _ T4;have HT4:=uh T4;refine hK.out _ _ hS3 ?_;clear hK K T3 T4 hS;simp only[st0,st1,st2];refine tkI 10 20 hro hS3 ?_;refine tkI 11 31 hro hS3 ?_;refine tkI 12 32 hro hS3 ?_;refine tkI 13 5 hro hS3 ?_;refine tkI 14 6 hro hS3 ?_;refine wpAnyHI_done (by kernel_rfl) ?_ _;refine NoPanic.normal ?_;clear hS3 HS HT0;have hv:VwAt w3 vb a c.1 c.2 (tyAt L c.2.typ):=HT4.out.range1;have HVR:=uh (Hvr.out w3 (Hwr.out.trans (HT4.out.below.mono Hwr.out.size)) c Hci.out vb hv);clear hv
    gi_wp2_with fail
    refine(callsIn_wide.2 HVR.out).mono ?_;rintro e w5 ⟨a15,p15,l15,rfl,hr15,T5⟩;have HT5:=uh (HT4.out.grow T5);have Hr15:=uh hr15;obtain⟨Z,hZ⟩:∃Z,Z=l15++((vb,.cells (viewCells a c.1 c.2 (tyAt L c.2.typ)).toArray 238)::(XB)):=⟨_,rfl⟩;have HZ:=uh hZ
    have hZc:∀x∈Z,x.2.isCells=true:=by
     intro x hx;rw[hZ]at hx;rcases List.mem_append.1 hx with hx|hx
     ·exact hr15.cells x hx
     rcases List.mem_cons.1 hx with rfl|hx
     ·rfl
     ·exact HXc.out x hx
    have HZc:=uh hZc
    have HI5:=uh (show ∀x∈Z,w5.heap[x.1]?= some x.2 /\ ¬D w5 x.1 from by
     intro x hx;rw[hZ]at hx;rcases List.mem_append.1 hx with hx|hx
     ·exact HDn.out wr w5 HGr.out _ HT5.out x (by simp[hx])
     rcases List.mem_cons.1 hx with rfl|hx
     ·exact HDn.out wr w5 HGr.out _ HT5.out _ (by simp)
     ·exact HKb.out _ wr w5 HGr.out HIw.out HT5.out.below x hx)
    have HJ5:=uh (HJ.out _ wr w5 none HJw.out (below_grownBy HT5.out.below) (fun r e=>by cases e));have Hw5:=uh (Hwr.out.trans (HT5.out.below.mono Hwr.out.size));have Hm5:=uh ((HT5.out.below.block m (lt_of_block Hmw.out)).trans Hmw.out)
    have Hnd15:=uh (show(keys l15).Nodup from by
     have h9:=HT5.out.has.nd;rw[keys_append,List.nodup_append]at h9;exact h9.1)
    have hrl:((tyAt L c.2.typ).refs c.2.len).length <= 65536:=by
     have h1:=refsTo_len (tyAt L c.2.typ) ((tyAt L c.2.typ).slots c.2.len);have h2:(tyAt L c.2.typ).refs c.2.len=refsTo (tyAt L c.2.typ) ((tyAt L c.2.typ).slots c.2.len):=rfl;obtain⟨hm9,-,hn9,-⟩:=err_ok.1 Hci.out.err;have:=slots_most hm9 (n:=c.2.len) (by omega);rw[h2];omega
    clear hr15 T5 hZ hZc HVR HT4 HT5 HIw Hmw HJw Hwr HGr
    gi_wp2_with fail
    gi_loopw [38] (fun v38 wr=>∃(j:Nat),j <= ((tyAt L c.2.typ).refs c.2.len).length /\ v38=.int .i64 j /\ J (eds L W (ats cs) (os.take i)++(edsOf L W (ats cs) c).take j) wr /\ Below w1.heap.size w1 wr /\ (∀x∈Z,wr.heap[x.1]?= some x.2 /\ ¬D wr x.1) /\ wr.heap[m]?= some ob) (fun v38 _=>((tyAt L c.2.typ).refs c.2.len).length-(intOf v38).toNat)
    case atStart=>exact⟨0,Nat.zero_le _,by go_num,by rw[List.take_zero,List.append_nil];exact HJ5.out,Hw5.out,HI5.out,Hm5.out⟩
    case round=>
     clear HJ5 Hw5 HI5 Hm5;obtain⟨j,hj,rfl,hJq,hwr,hIq,hmq⟩:=hrel
     by_cases hltj:j<((tyAt L c.2.typ).refs c.2.len).length
     · have hltj':(j:Int)<(((tyAt L c.2.typ).refs c.2.len).length:Int):=by omega
       obtain⟨s,hs⟩:∃s,((tyAt L c.2.typ).refs c.2.len)[j]?= some s:=⟨((tyAt L c.2.typ).refs c.2.len)[j],List.getElem?_eq_getElem hltj⟩;have hin:=Hci.out.in_ s (List.mem_of_getElem? hs);obtain⟨v,hvv⟩:∃v,W[2*c.1+1+s]?= some v:=⟨W[2*c.1+1+s]'(hin.2),List.getElem?_eq_getElem _⟩;have hvg:W.getD (2*c.1+1+s) 0=v:=(by rw[List.getD_eq_getElem?_getD,hvv];rfl);have hsrc:=Hr15.out.src (R:=[]) (w:=wr) (by rw[List.append_nil];exact⟨Hnd15.out,fun b o hm=>(hIq (b,o) (by rw[HZ.out];simp[hm])).1⟩);obtain⟨b15,off15,rfl,hc15⟩:=hsrc.form (by rw[nats_length];omega);have q15:=hc15 j _ (nats_at hs);have hvq:VwAt wr vb a c.1 c.2 (tyAt L c.2.typ):=(Has.one (hIq (vb,.cells (viewCells a c.1 c.2 (tyAt L c.2.typ)).toArray 238) (by rw[HZ.out];simp)).1).range (List.mem_cons_self ..);have HL:=uh (Hld.out wr hwr c Hci.out vb hvq s v hin.1 hvv);have hGq:=HG.out _ wr hJq;have hspl:=Hes.out i j s c Hc.out hs;have hedg:edg W (ats cs) c.1 s=(c.1,s,tgt (ats cs) v,v):=(by unfold edg;rw[hvg]);rw[hedg]at hspl;have hnx:(edsOf L W (ats cs) c).take (j+1)=(edsOf L W (ats cs) c).take j++[(c.1,s,tgt (ats cs) v,v)]:=(by rw[take_nextA (edsOf_at hs),hedg]);have HNx:=uh hnx;have HY2:=uh (fun W1=>HY.out _ (c.1,s,tgt (ats cs) v,v) W1 hspl);unfold edArgs at HY2
       have HTg:=uh (fun(w':World) (hB:Below wr.heap.size wr w')=>Htg.out w' (fun x hx=>(HKb.out Z wr w' hGq hIq hB x (by rw[HZ.out];simp only[List.mem_append,List.mem_cons]at hx ⊢;exact .inr (.inr hx))).1) ((hB.block m (lt_of_block hmq)).trans hmq) v (Hu.out _ v hvv));have HB1:=uh (fun(w':World) (hB:Below wr.heap.size wr w')=>(HcS.out w' (fun x hx=>(HKb.out Z wr w' hGq hIq hB x (by rw[HZ.out];simp only[List.mem_append,List.mem_cons]at hx ⊢;exact .inr (.inr hx))).1)).1);have HJq:=uh hJq
       have HK:=uh (fun(w' w8:World) (hB:Below wr.heap.size wr w') (k:KpD w1.heap.size D w' w8 /\ w8.heap[m]?= w'.heap[m]?)=>(⟨(hwr.trans (hB.mono hwr.size)).trans k.1.below,HKk.out Z w' w8 HZc.out (HKb.out Z wr w' hGq hIq hB) k.1,k.2.trans ((hB.block m (lt_of_block hmq)).trans hmq)⟩:
        Below w1.heap.size w1 w8 /\ (∀x∈Z,w8.heap[x.1]?= some x.2 /\ ¬D w8 x.1) /\ w8.heap[m]?= some ob))
       clear hs hin hvv hvg hsrc hc15 hvq hGq hspl hedg hnx hJq hwr hIq hmq
       gi_wp2_with (first
        | (gi_at_call 103;refine(callsIn_wide.2 HL.out).mono ?_;rintro e w6 ⟨rfl,hB6⟩;have HB6:=uh hB6;have q0:=HB1.out w6 hB6;have HT6:=uh (HTg.out w6 hB6);obtain⟨fn,tmps,assign,body,hy,hR⟩:=HY2.out _ (HJ.out _ wr _ none HJq.out (below_grownBy hB6) (fun r e=>by cases e));have HR:=uh hR;clear hR hB6 HL q15)
        | (gi_at_call 203;refine(callsIn_wide.2 HT6.out).mono ?_;rintro e w7 ⟨rfl,hw7⟩;subst hw7;clear HT6 q0)
        | fail)
       refine HR.out.mono ?_;rintro e w8 ⟨rfl,hJ8,hk8⟩;have HN:=uh (HK.out _ _ HB6.out hk8);have HJ8:=uh hJ8;clear hJ8 hk8 HR hy HK HY2 HB6
       gi_wp2_with fail
       go_roundw
       case rel=>exact⟨j+1,by omega,by go_num,by rw[HNx.out,←List.append_assoc];exact HJ8.out,HN.out.1,HN.out.2.1,HN.out.2.2⟩
       case measure=>simp[intOf];omega
     · obtain rfl:j=((tyAt L c.2.typ).refs c.2.len).length:=by omega
       have hnl:¬((((tyAt L c.2.typ).refs c.2.len).length:Nat):Int)<(((tyAt L c.2.typ).refs c.2.len).length:Int):=by omega
       have hJ9:J (eds L W (ats cs) (os.take (i+1))) wr:=by
        rw[Hen.out i c Hc.out];have h9:(edsOf L W (ats cs) c).length=((tyAt L c.2.typ).refs c.2.len).length:=by unfold edsOf;rw[List.length_map]
        rw[←h9,List.take_length]at hJq;exact hJq
       have HR:=uh (⟨hJ9,hwr,fun x hx=>hIq x (by rw[HZ.out];simp[hx]),hmq⟩:J (eds L W (ats cs) (os.take (i+1))) wr /\ Below w1.heap.size w1 wr /\ (∀x∈XB,wr.heap[x.1]?= some x.2 /\ ¬D wr x.1) /\ wr.heap[m]?= some ob);clear hJ9 hJq hwr hIq hmq
       gi_wp2_with fail
       go_roundw
       case rel=>exact⟨i+1,by omega,by go_num,HR.out.1,HR.out.2.1,HR.out.2.2.1,HR.out.2.2.2⟩
       case measure=>simp[intOf];omega
  · obtain rfl:i=os.length:=by omega
    have hnl:¬((os.length:Nat):Int)<(os.length:Int):=(by omega);have HX:=uh (show J (eds L W (ats cs) os) wr by rw[List.take_length]at hJw;exact hJw);clear hJw hwr hIw hmw
    gi_wp2_with fail
    go_end0;exact⟨⟨_,rfl⟩,HX.out⟩
end
section
open Go Go.RowKit Go.Shelf Go.IntWalk
attribute [local go_sem] Oper.semAt_some
def lvs (x:Ed):Bool:=decide (0 <= x.2.2.1)
def edCells (x:Ed):List Value:=[.int .i64 x.1,.int .i64 x.2.1,.int .i64 x.2.2.1]
def edgs (l:List Ed):List Value:=l.flatMap edCells
theorem sz_edge:(prog.info? 264).map (·.size)=some 3:=by kernel_rfl
theorem eds_len {L:List Ty}{W A:List Nat}{os:List Ce}(h:∀c∈os,((tyAt L c.2.typ).refs c.2.len).length <= 65536):(eds L W A os).length <= os.length*65536:=by
 induction os with
 | nil=>simp[eds]
 | cons c os ih=>
  have h1:=h c (List.mem_cons_self ..);have h2:=ih fun d hd=>h d (List.mem_cons_of_mem _ hd)
  have h3:(eds L W A (c::os)).length=((tyAt L c.2.typ).refs c.2.len).length+(eds L W A os).length:=by
   unfold eds edsOf;rw[List.flatMap_cons,List.length_append,List.length_map]
  rw[h3,List.length_cons,Nat.succ_mul];omega
def edgesOf (L:List Ty)(W:List Nat)(cs:List Ce):Nat:=((eds L W (ats cs) (objs cs)).filter lvs).length
end
section
open Go Go.RowKit Go.Shelf Go.IntWalk
attribute [local go_sem] Oper.semAt_some
section
variable {P:Program} {w:World} {o:Oper} {a:Act} {K:Act -> World -> Prop} {Q:Exit -> Act -> World -> Prop} {q:IntKind} {mp:List (Int×Value)} {b:Nat} {ob:Obj}
theorem wp_mlookup_g (m x:Operand)(t:TypeId)(ok:Bool)(hop:o.op=Op.lookup t m x ok)(kt e:TypeId)(ht:P.underlying t=some (.map kt e))(hk:P.underlying kt=some (.int q))(z:Value)(hz:(zeroValue e).run P w=.ok z w)
  (hm:a.eval m=.map (some b))(hb:w.heap[b]?= some ob)(hmo:MapObj q mp ob)(k:Int)(hx:a.eval x=.int q k)
  (hK:K (a.put o.dst (let v:=(mget mp k).getD z;if ok then .tuple #[v,.bool (mget mp k).isSome]else v)) w):o.wp P a w K Q:=by
 have hrun:=run_mlookup hb hmo ht hk hz k ok;unfold Oper.wp;simp only[execOp,hop,hm,hx,hrun,Sem.run_bind,Result.andThen_ok,Sem.run_pure];exact hK
end
def bad (x:Ed):Bool:=x.2.2.2 != 0 && decide (x.2.2.1<0)
def ftCells (x:Ed):List Value:=[.int .i64 x.1,.int .i64 x.2.1,.int .i64 8]
def fts (l:List Ed):List Value:=l.flatMap ftCells
theorem fts_append (a b:List Ed):fts (a++b)=fts a++fts b:=by simp[fts]
theorem el_fault:Elem prog 274 279 3 24 (.agg #[.int .i64 0,.int .i64 0,.int .i64 0]):=Elem.of underlying274 (by kernel_rfl) rfl
def badsOf (L:List Ty)(W:List Nat)(cs:List Ce):List Ed:=(eds L W (ats cs) (objs cs)).filter bad
theorem filter_bad_le (l:List Ed):(l.filter bad).length <= l.length:=List.length_filter_le ..
theorem filter_bad_snoc (l:List Ed)(x:Ed):(l++[x]).filter bad=l.filter bad++if bad x=true then [x]else []:=by
 rw[List.filter_append]
 congr 1
 by_cases h:bad x=true
 ·rw[if_pos h,List.filter_cons_of_pos h];rfl
 ·rw[if_neg h,List.filter_cons_of_neg h];rfl
theorem endOf_chain {L:List Ty}{W:List Nat}:∀{cs:List Ce} {g e:Nat},Chain L W g cs e -> endOf g cs=e
 | [],_,_,h=>h
 | c::cs,g,e,h=>by
  have h2:=h.2.2;rw[←h.1]at h2
  show endOf (c.1+c.2.size) cs=e
  exact endOf_chain h2
theorem mem_ats {cs:List Ce}{i:Nat}:i∈ats cs↔∃c∈objs cs,c.1=i:=by
 unfold ats;rw[List.mem_map]
theorem wcheck (w:World)(a aw tb bb:Nat){W:List Nat}(tao:Option Addr)(tcap:Nat)(L:List Ty)(hWk:WkAt w a aw tb W tao tcap L)(hf:W.length <= 65536)(hu:∀v∈W,v<18446744073709551616)(hTy:∀t∈L,TyIn t)(hL:L.length <= 1000)
  (cs:List Ce)(hC:Chain L W 0 cs (W.length/2))(B:List Nat)(bo:Option Addr)(bcap:Nat)(hB:BitAt w bb B (W.length/2) bo bcap)(hBu:u64ok B)(hBl:B.length=(W.length/2+63)/64)(hbits:bitsOf B (W.length/2) (objs cs)):
  Calls prog 156 #[pt a,pt tb,pt bb] w fun e w'=>∃ao cap l,e=.returned (.tuple #[.slice ao (badsOf L W cs).length cap,.int .i64 0]) /\ Row 279 3 ao (badsOf L W cs).length cap (fts (badsOf L W cs)) l /\ Turn [] w l w':=by
 refine(callsIn_wide (n:=6)).1 ?_;have h3:Fence.wide.fn 156:= trivial;have h6:Fence.wide.fn 147:= trivial;have h7:Fence.wide.fn 202:= trivial;have h8:Fence.wide.fn 146:= trivial;have h9:Fence.wide.fn 71:= trivial;have h10:Fence.wide.fn 63:= trivial;have hro:Fence.wide.round=none:=rfl;have h1:1 <= 6:=by omega
 have hel:(eds L W (ats cs) (objs cs)).length <= 2147483648:=by
  have h5:=hC.len;have h6:(objs cs).length <= cs.length:=by unfold objs;exact List.length_filter_le ..
  have h7:=eds_len (L:=L) (W:=W) (A:=ats cs) (os:=objs cs) (fun c hc=>by
   have hi:=obIn_of hC hf hTy hc;have h1:=refsTo_len (tyAt L c.2.typ) ((tyAt L c.2.typ).slots c.2.len);have h2:(tyAt L c.2.typ).refs c.2.len=refsTo (tyAt L c.2.typ) ((tyAt L c.2.typ).slots c.2.len):=rfl;obtain⟨hm9,-,hn9,-⟩:=err_ok.1 hi.err;have:=slots_most hm9 (n:=c.2.len) (by omega);rw[h2];omega)
  omega
 refine callsIn_of_wp_marks func156 rfl h3 ?_ hro;simp only[ntmps156,List.size_toArray,List.length_cons,List.length_nil,Nat.reduceAdd,Nat.reduceSub,Array.replicate_succ,Array.replicate_zero,List.push_toArray,List.append_toArray,List.nil_append,List.cons_append];have HIt:=uh (fun g m Bs ob ao cap lr en hmo hrow XB hx1 hx2 hx3 hXc D G hGD hDD w0 hw hX hnd hmb=>grefs_g (6-1) (by omega) w a aw tb tao tcap L hWk hf hu hTy hL cs hC g m Bs ob ao cap lr en hmo hrow XB hx1 hx2 hx3 hXc D G hGD hDD w0 hw hX hnd hmb);have HTh:=uh (wthrough w a aw tb tao tcap L hWk hf hu hTy hL cs hC);have hz6:W.length/2 <= 32768:=by omega
 have Hhas:=uh (fun w' (hk:Below w.heap.size w w') (i:Nat) (hi:i<W.length/2)=>bhas w' bb (W.length/2) B bo bcap (hB.below hk) hBu (by omega) i hi (by omega))
 have Hbit:=uh (fun(i:Nat) (hi:i<W.length/2)=>(by
  have h:=hbits i hi;rw[←mem_ats]at h
  by_cases hm:i∈ats cs
  ·rw[decide_eq_true hm];exact h.2 hm
  ·rw[decide_eq_false hm];exact Bool.eq_false_iff.2 (fun hb=>hm (h.1 hb)):bitAt B i=decide (i∈ats cs)))
 have Hln:=uh (fun w' (hk:Below w.heap.size w w')=>alen w' (hWk.below hk).ar);have hdiv:((W.length:Int)).tdiv 2=((W.length/2:Nat):Int):=tdiv_nat _ 2;have hdiv2:(W.length:Int)/2=((W.length/2:Nat):Int):=by omega
 have hend:endOf 0 cs=W.length/2:=endOf_chain hC;obtain⟨z,hz⟩:∃z,W.length/2=z:=⟨_,rfl⟩;rw[hz]at Hhas Hbit hdiv hdiv2 hend hz6;have hzb:∀w,(zeroValue 4).run prog w=.ok (.bool false) w:=fun _=>by kernel_rfl
 clear hC hu hTy hWk hB hBu hBl hbits hz
 gi_wp2_with fail
 refine(callsIn_wide.2 HTh.out).mono ?_;rintro e w3 ⟨g,m,ob,go_,gcap,lg,rfl,hmo,hrg,T3⟩;obtain⟨n4,hn4⟩:∃n4,w3.heap.size=n4:=⟨_,rfl⟩;have hw3:w.heap.size <= n4:=by rw[←hn4];exact T3.size
 have T4:=T3.alloc (.cells #[.slice none 0 0] 274);rw[hn4]at T4;have Hmo:=uh hmo;have Hrg:=uh hrg
 have HG:=uh (fun(W':World) (V:Turn [] w ((n4,.cells #[.slice none 0 0] 274)::((g,.cells #[pt a,pt tb,.map (some m),.slice go_ (ats cs).length gcap,.int .i64 (endOf 0 cs:Nat)] 334)::(m,ob)::lg)) W')=>(⟨V.has.cell (b:=g) (c:=#[pt a,pt tb,.map (some m),.slice go_ (ats cs).length gcap,.int .i64 (endOf 0 cs:Nat)]) (e:=334) (f:=(0,0)) (by simp) 2,V.has.cell (b:=g) (c:=#[pt a,pt tb,.map (some m),.slice go_ (ats cs).length gcap,.int .i64 (endOf 0 cs:Nat)]) (e:=334) (f:=(0,0)) (by simp) 4,V.has.own m ob (by simp)⟩:
  W'.cell? ⟨g,2,none⟩=some (.map (some m)) /\ W'.cell? ⟨g,4,none⟩=some (.int .i64 (endOf 0 cs:Nat)) /\ W'.heap[m]?= some ob))
 have HT4:=uh T4;have q4:=(HG.out _ T4).2.1;clear T3 T4 hmo hrg HTh
 gi_upto_region 5 with fail
 generalize w3.alloc (.cells #[.slice none 0 0] 274)=w4 at*
 gi_wp2_with fail
 gi_loopw [31] (fun v31 wr=>∃(i:Nat),i <= z /\ v31=.int .i64 i /\ Turn [] w ((n4,.cells #[.slice none 0 0] 274)::((g,.cells #[pt a,pt tb,.map (some m),.slice go_ (ats cs).length gcap,.int .i64 (endOf 0 cs:Nat)] 334)::(m,ob)::lg)) wr) (fun v31 _=>z-(intOf v31).toNat)
 case atStart=>exact⟨0,Nat.zero_le _,by go_num,HT4.out⟩
 case round=>
  clear HT4 q4;obtain⟨i,hi,rfl,hT⟩:=hrel;have q4:=(HG.out _ hT).2.1;rw[hend]at q4
  by_cases hlt:i<z
  · have hlt':(i:Int)<((z:Nat):Int):=by omega
    have HT:=uh hT;have Hh:=uh (Hhas.out wr hT.below i hlt);rw[Hbit.out i hlt]at Hh;have HMp:=uh (mpOf_get (ats cs) i);clear hT
    by_cases hm:i∈ats cs
    · rw[decide_eq_true hm]at Hh
      rw[if_pos hm]at HMp;clear hm
      gi_wp2_with fail
      refine(callsIn_wide.2 Hh.out).mono ?_;rintro e w5 ⟨rfl,hB5⟩;have HT5:=uh (HT.out.call hB5);have c5:=(HG.out _ HT5.out).1;have b5:=(HG.out _ HT5.out).2.2;clear hB5 HT Hh q4
      gi_wp2_with (first|(show wpListIn _ _ _ _ _ (⟨_,Op.lookup _ _ _ _,_,_,_,_⟩::_) _ _;refine wpListIn_byG (follows_wide _ _) (by rfl) (by intro c h;cases h) (wp_mlookup_g _ _ _ false rfl 3 4 underlying332 underlying3 _ (hzb _) rfl b5 Hmo.out (i:Int) rfl ?_);rw[HMp.out])|fail)
      go_roundw
      case rel=>exact⟨i+1,by omega,by go_num,HT5.out⟩
      case measure=>simp[intOf];omega
    · rw[decide_eq_false hm]at Hh
      rw[if_neg hm]at HMp;clear hm
      gi_wp2_with fail
      refine(callsIn_wide.2 Hh.out).mono ?_;rintro e w5 ⟨rfl,hB5⟩;have HT5:=uh (HT.out.call hB5);have c5:=(HG.out _ HT5.out).1;have b5:=(HG.out _ HT5.out).2.2;clear hB5 HT Hh q4
      gi_wp2_with (first|(show wpListIn _ _ _ _ _ (⟨_,Op.lookup _ _ _ _,_,_,_,_⟩::_) _ _;refine wpListIn_byG (follows_wide _ _) (by rfl) (by intro c h;cases h) (wp_mlookup_g _ _ _ false rfl 3 4 underlying332 underlying3 _ (hzb _) rfl b5 Hmo.out (i:Int) rfl ?_);rw[HMp.out])|fail)
      go_roundw
      case rel=>exact⟨i+1,by omega,by go_num,HT5.out⟩
      case measure=>simp[intOf];omega
  · have hnl:¬(i:Int)<((z:Nat):Int):=by omega
    have HT:=uh hT;clear hT
    gi_wp2_with fail
    have hS:Turn [] w ((n4,.cells #[.slice none 0 0] 274)::((g,.cells #[pt a,pt tb,.map (some m),.slice go_ (ats cs).length gcap,.int .i64 (endOf 0 cs:Nat)] 334)::(m,ob)::lg)) wr.drew:=HT.out.drew;clear q4 HT;refine wpIn_region_noPanic ?_;refine wpIn_region_listedHI (S:=fun W'=>Turn [] w ((n4,.cells #[.slice none 0 0] 274)::((g,.cells #[pt a,pt tb,.map (some m),.slice go_ (ats cs).length gcap,.int .i64 (endOf 0 cs:Nat)] 334)::(m,ob)::lg)) W') 8 [false,false,false,false,false,false,false,false] rfl rfl (by kernel_rfl) ?_;refine tkI 0 70 hro hS ?_;refine tkI 1 71 hro hS ?_;refine tkI 2 72 hro hS ?_;refine tkJ 3 73 hro hS (fun w hSw=>(HG.out _ hSw).2.1) ?_;refine tkI 4 74 hro hS ?_;refine wpAnyHI_call (i:=5) (by kernel_rfl) rfl (fun K hK=>?_)
    go_simp
    refine(callsIn_wide.2 (Hln.out _ hS.below)).mono ?_;rintro e w6 ⟨rfl,hw⟩;rw[hw];clear hw w6;refine hK.out _ _ hS ?_;clear hK K;simp only[st0,st1,st2];refine tkI 6 76 hro hS ?_;refine tkI 7 77 hro hS ?_;refine wpAnyHI_done (by kernel_rfl) ?_ _;refine NoPanic.normal ?_;have HS:=uh hS;clear hS hlt hi hnl hend;generalize wr.drew=w7 at*;have hwz:IntKind.i64.wrap (z:Int)=(z:Int):=i64_in _ (by omega)
    gi_wp2_with (first
     | (gi_at_call 147;refine(grefs_in (6-1) g _).mono ?_;rintro e w' ⟨rfl,hw⟩;rw[hw];clear hw w')
     | fail)
    have T5:=HS.out.alloc (.cells #[pt g] 260);generalize(w7.alloc (.cells #[pt g] 260))=W0 at T5 ⊢;generalize w7.heap.size=Bs at T5 ⊢;clear HS;have hw0W:w.heap.size <= W0.heap.size:=T5.size;have R8:Below w.heap.size w W0:=T5.below;have T8:Turn [] w ([]++((n4,.cells #[.slice none 0 0] 274)::((Bs,.cells #[pt g] 260)::(g,.cells #[pt a,pt tb,.map (some m),.slice go_ (ats cs).length gcap,.int .i64 (endOf 0 cs:Nat)] 334)::(m,ob)::lg))) W0:=T5.perm po;have hmW:m<W0.heap.size:=T8.has.lt (by simp[keys]);have hn4W:n4<W0.heap.size:=T8.has.lt (by simp[keys]);clear T5
    have hXc:∀x∈(((Bs,.cells #[pt g] 260):Blk)::(g,.cells #[pt a,pt tb,.map (some m),.slice go_ (ats cs).length gcap,.int .i64 (endOf 0 cs:Nat)] 334)::lg),x.2.isCells=true:=by
     intro x hx;rcases List.mem_cons.1 hx with rfl|hx
     ·rfl
     rcases List.mem_cons.1 hx with rfl|hx
     ·rfl
     ·exact Hrg.out.cells x hx
    have hX:∀x∈(((Bs,.cells #[pt g] 260):Blk)::(g,.cells #[pt a,pt tb,.map (some m),.slice go_ (ats cs).length gcap,.int .i64 (endOf 0 cs:Nat)] 334)::lg),W0.heap[x.1]?= some x.2:=fun x hx=>T8.has.own x.1 x.2 (by
     simp only[List.mem_cons,List.nil_append]at hx ⊢;rcases hx with h|h|h
     ·exact .inr (.inl h)
     ·exact .inr (.inr (.inl h))
     ·exact .inr (.inr (.inr (.inr h))))
    have hmb:W0.heap[m]?= some ob:=T8.has.own m ob (by simp)
    have hnd:(keys lg).Nodup:=by
     have h9:=T8.has.nd;simp only[List.nil_append,keys_cons,List.nodup_cons]at h9;exact h9.2.2.2.2
    have hAc:∀(lr:List Blk) (ao:Option Addr) (k cap:Nat),(∀x∈lr,x.2.isCells=true) -> ∀x∈lr++(((n4,.cells #[.slice ao k cap] 274):Blk)::((Bs,.cells #[pt g] 260)::(g,.cells #[pt a,pt tb,.map (some m),.slice go_ (ats cs).length gcap,.int .i64 (endOf 0 cs:Nat)] 334)::(m,ob)::lg)),x.2.isCells=true∨x.1<W0.heap.size:=fun lr ao k cap hl x hx=>by
     simp only[List.mem_cons,List.mem_append]at hx;rcases hx with hx|rfl|rfl|rfl|rfl|hx
     ·exact .inl (hl x hx)
     ·exact .inl rfl
     ·exact .inl rfl
     ·exact .inl rfl
     ·exact .inr hmW
     ·exact .inl (Hrg.out.cells x hx)
    have hGI:∀(lr:List Blk) (ao:Option Addr) (k cap:Nat) (xs:List Value) (W':World),Row 279 3 ao k cap xs lr -> Turn [] w (lr++((n4,.cells #[.slice ao k cap] 274)::((Bs,.cells #[pt g] 260)::(g,.cells #[pt a,pt tb,.map (some m),.slice go_ (ats cs).length gcap,.int .i64 (endOf 0 cs:Nat)] 334)::(m,ob)::lg))) W' -> ∀b,ResD n4 W' b -> b<W'.heap.size /\ b∉keys (((Bs,.cells #[pt g] 260):Blk)::(g,.cells #[pt a,pt tb,.map (some m),.slice go_ (ats cs).length gcap,.int .i64 (endOf 0 cs:Nat)] 334)::lg):=fun lr ao k cap xs W' hr T b hb=>by
     have hnd:=T.has.nd;rw[keys_append,List.nodup_append]at hnd;have hnr:=hnd.2.1;rw[keys_cons,List.nodup_cons]at hnr;rcases hb with rfl|⟨k',cap',t,hb⟩
     · refine⟨T.has.lt (by simp[keys]),fun hm=>hnr.1 ?_⟩
       simp only[keys_cons,List.mem_cons]at hm ⊢;rcases hm with h|h|h
       ·exact .inl h
       ·exact .inr (.inl h)
       ·exact .inr (.inr (.inr h))
     · rw[T.has.own n4 _ (by simp:(n4,Obj.cells #[.slice ao k cap] 274)∈_)]at hb
       simp only[Option.some.injEq,Obj.cells.injEq,Array.mk.injEq,List.cons.injEq,Value.slice.injEq]at hb;obtain⟨⟨⟨rfl,rfl,rfl⟩,-⟩,-⟩:=hb;rcases hr.2.2.2 with⟨h2,-⟩|⟨q,cur,h2,rfl,-⟩
       ·cases h2
       · cases h2
         refine⟨T.has.lt (by simp[keys]),fun hm=>hnd.2.2 b (by simp[keys]) b ?_ rfl⟩;simp only[keys_cons,List.mem_cons]at hm ⊢;rcases hm with h|h|h
         ·exact .inr (.inl h)
         ·exact .inr (.inr (.inl h))
         ·exact .inr (.inr (.inr (.inr h)))
    generalize hE:eds L W (ats cs) (objs cs)=E at*
    apply wpIn_rangeFunc_g (β:=Nat) hro h1 (gf:=202) (lb:=#[pt Bs]) rfl h7 (enters_of func202 (by kernel_rfl) rfl)
     (HIt.out g m Bs ob go_ gcap lg (endOf 0 cs:Nat) Hmo.out Hrg.out (((Bs,.cells #[pt g] 260):Blk)::(g,.cells #[pt a,pt tb,.map (some m),.slice go_ (ats cs).length gcap,.int .i64 (endOf 0 cs:Nat)] 334)::lg) (List.mem_cons_self ..) (by simp) (fun x hx=>by simp[hx]) hXc (ResD n4) (fun A=>∀b,ResD n4 A b -> b<A.heap.size /\ b∉keys (((Bs,.cells #[pt g] 260):Blk)::(g,.cells #[pt a,pt tb,.map (some m),.slice go_ (ats cs).length gcap,.int .i64 (endOf 0 cs:Nat)] 334)::lg)) (fun A h=>h) (fun A B b hg hB h=>by
       rcases h with h|⟨k,cap,t,h⟩
       ·exact .inl h
       · refine .inr ⟨k,cap,t,?_⟩
         rw[←hB.block n4 (hg n4 (.inl rfl)).1];exact h) W0 R8 hX hnd hmb)
     (fun h k=>⟨h.1.t k.1,k.2.trans h.2⟩) (fun W l o o' hl hlo hc hw=>⟨KpD.b (by omega) (fun W l o' hl b=>ResD.put (by omega) o') W l o o' hl hlo hc hw,World.putObj_heap_other (by omega)⟩) (Below.refl _ _) (fun _=>rfl)
     (fun pre W'=>∃ao cap lr,Row 279 3 ao (pre.filter bad).length cap (fts (pre.filter bad)) lr /\ pre.length <= 2147483648 /\ Turn [] w (lr++((n4,.cells #[.slice ao (pre.filter bad).length cap] 274)::((Bs,.cells #[pt g] 260)::(g,.cells #[pt a,pt tb,.map (some m),.slice go_ (ats cs).length gcap,.int .i64 (endOf 0 cs:Nat)] 334)::(m,ob)::lg))) W')
     (fun x nb pre W'=>∃ao cap lr,Row 279 3 ao (pre.filter bad).length cap (fts (pre.filter bad)) lr /\ pre.length+1 <= 2147483648 /\ Turn [] w ((nb,.cells #[.int .i64 x.1,.int .i64 x.2.1,.int .i64 x.2.2.1] 264)::(lr++((n4,.cells #[.slice ao (pre.filter bad).length cap] 274)::((Bs,.cells #[pt g] 260)::(g,.cells #[pt a,pt tb,.map (some m),.slice go_ (ats cs).length gcap,.int .i64 (endOf 0 cs:Nat)] 334)::(m,ob)::lg)))) W')
     (fun s A D row ⟨ao,cap,lr,e1,e2,hT⟩ hg hr=>⟨ao,cap,lr,e1,e2,hT.grownC hw0W (hAc lr ao _ cap e1.cells) hg hr⟩)
     (fun x nb s A D row ⟨ao,cap,lr,e1,e2,hT⟩ hg hr=>⟨ao,cap,lr,e1,e2,hT.grownC hw0W (by
       intro y hy;rcases List.mem_cons.1 hy with rfl|hy
       ·exact .inl rfl
       ·exact hAc lr ao _ cap e1.cells y hy) hg hr⟩)
     ⟨none,0,[],Row.nil _ _,by simp,T8⟩
     (fun pre W' ⟨ao,cap,lr,e1,e2,hT⟩=>hGI lr ao _ cap _ W' e1 hT)
    case hassign=>
     rintro l1 pre x W2 ⟨post,hnx⟩ ⟨ao,cap,lr,e1,e2,hT⟩;have hpl:pre.length+1 <= 2147483648:=by rw[hnx,List.length_append,List.length_cons]at hel;omega
     have T2:=hT.alloc (.cells #[.int .i64 0,.int .i64 0,.int .i64 0] 264);have hth:(W2.alloc (.cells #[.int .i64 0,.int .i64 0,.int .i64 0] 264)).there W2.heap.size 0 3:=T2.there1;have HT2:=uh (T2.laid [.int .i64 x.1,.int .i64 x.2.1,.int .i64 x.2.2.1] rfl);have HX:=uh (((Turn.refl (Has.nil W2)).alloc (.cells #[.int .i64 0,.int .i64 0,.int .i64 0] 264)).laid [.int .i64 x.1,.int .i64 x.2.1,.int .i64 x.2.2.1] rfl);have hszC:=sz_edge;have hoC:(#[.int .i64 x.1,.int .i64 x.2.1,.int .i64 x.2.2.1]:Array Value).all (·.oneCell')=true:=all_one (cs:=[.int .i64 x.1,.int .i64 x.2.1,.int .i64 x.2.2.1]) (by simp[Value.oneCell']);have hGb:=hGI lr ao _ cap _ W2 e1 hT;have hmW2:m<W2.heap.size:=hT.has.lt (by simp[keys]);have HE:=uh e1;have hw2:=hT.size;unfold edArgs;clear T2 hnx hT e1
     gi_wp2_with (first
      | (show wpListIn _ _ _ _ _ (⟨_,Op.store 264 _ _,_,_,_,_⟩::_) _ _;refine wpListIn_by (follows_round _ _ _) rfl (by intro c h;cases h) (wp_store_mid 264 _ _ rfl _ 0 #[.int .i64 x.1,.int .i64 x.2.1,.int .i64 x.2.2.1] rfl rfl hth hszC hoC ?_);clear hth)
      | fail)
     have HK:=uh (⟨((KeepsOthers.alloc _ _).trans (keepsOthers_setCells _ _ _)).from _,KpD.of HX.out (by omega) (fun b hb=>by cases hb) (fun b hb hd=>by
       rcases hd with h|⟨k,cap,t,h⟩
       ·exact .inl h
       · refine .inr ⟨k,cap,t,?_⟩
         rw[←HX.out.below.block n4 (hGb n4 (.inl rfl)).1];exact h),HX.out.below.block m hmW2⟩:
      KeepsFrom W0.heap.size W2 ((W2.alloc (.cells #[.int .i64 0,.int .i64 0,.int .i64 0] 264)).setCells W2.heap.size 0 [.int .i64 x.1,.int .i64 x.2.1,.int .i64 x.2.2.1]) /\ KpD w.heap.size (ResD n4) W2 ((W2.alloc (.cells #[.int .i64 0,.int .i64 0,.int .i64 0] 264)).setCells W2.heap.size 0 [.int .i64 x.1,.int .i64 x.2.1,.int .i64 x.2.2.1]) /\ ((W2.alloc (.cells #[.int .i64 0,.int .i64 0,.int .i64 0] 264)).setCells W2.heap.size 0 [.int .i64 x.1,.int .i64 x.2.1,.int .i64 x.2.2.1]).heap[m]?= W2.heap[m]?)
     clear HX hoC hGb;generalize(W2.alloc (.cells #[.int .i64 0,.int .i64 0,.int .i64 0] 264)).setCells W2.heap.size 0 [.int .i64 x.1,.int .i64 x.2.1,.int .i64 x.2.2.1]=W3 at*;generalize W2.heap.size=nb at*;exact⟨HK.out.1,⟨HK.out.2.1,HK.out.2.2⟩,nb,rfl,ao,cap,lr,HE.out,hpl,HT2.out⟩
    case hbody=>
     rintro l1 pre x nb W2-⟨ao,cap,lr,e1,e2,hT⟩;have q0:W2.cell? ⟨n4,0,none⟩=some (.slice ao (pre.filter bad).length cap):=hT.has.cell (b:=n4) (c:=#[.slice ao (pre.filter bad).length cap]) (e:=274) (f:=(0,0)) (by simp) 0;have r0:W2.cell? ⟨nb,0,none⟩=some (.int .i64 x.1):=hT.cell1 0;have r1:W2.cell? ⟨nb,1,none⟩=some (.int .i64 x.2.1):=hT.cell1 1;have q2:W2.cell? ⟨nb,2,none⟩=some (.int .i64 x.2.2.1):=hT.cell1 2;have hfl:=filter_bad_le pre;have HFs:=uh (filter_bad_snoc pre x)
     by_cases hbx:bad x=true
     · have hbx2:=hbx
       unfold bad at hbx2;rw[Bool.and_eq_true]at hbx2;obtain⟨k0,k1⟩:=hbx2;have k2:((x.2.2.2:Nat):Int)≠0:=by have:=bne_iff_ne.1 k0;omega
       have k3:x.2.2.1<0:=of_decide_eq_true k1;rw[if_pos hbx]at HFs;have h63:(pre.filter bad).length+1 <= maxLen:=(by unfold maxLen;omega);have hby:((pre.filter bad).length+1)*24 <= 140737488355328:=(by omega);have HT:=uh hT;have H1:=uh e1;have HH:=uh (hT.has.sub (l':=lr++[(n4,.cells #[.slice ao (pre.filter bad).length cap] 274)]) (by simp));clear hT e1 hbx k0
       gi_wp2_with (first
        | (gi_at_builtin;have K3:=uh (((Turn.refl HH.out).alloc (.cells #[.int .i64 x.1,.int .i64 x.2.1,.int .i64 8] 279)).perm (l2:=lr++[(W2.heap.size,.cells #[.int .i64 x.1,.int .i64 x.2.1,.int .i64 8] 279),(n4,.cells #[.slice ao (pre.filter bad).length cap] 274)]) po);refine wpListIn_by (follows_round _ _ _) rfl (by intro c h;cases h) (wp_append_row _ _ rfl el_fault rfl H1.out (R:=[(W2.heap.size,.cells #[.int .i64 x.1,.int .i64 x.2.1,.int .i64 8] 279),(n4,.cells #[.slice ao (pre.filter bad).length cap] 274)]) K3.out.has rfl (news:=[.int .i64 x.1,.int .i64 x.2.1,.int .i64 8]) rfl (news_of (heap_alloc_new _ _)) (by simp[Value.oneCell']) h63 hby ?_);intro a9 p9 l9 w4 hr9 V4 hno;have K4:=(K3.out.trans V4).perm (l2:=(n4,.cells #[.slice ao (pre.filter bad).length cap] 274)::(l9++[(W2.heap.size,.cells #[.int .i64 x.1,.int .i64 x.2.1,.int .i64 8] 279)])) po;have q5:=K4.cell1 0;have f5:=K4.free1 0;have K5:=K4.setCell 0 (.slice a9 ((pre.filter bad).length+1) p9);have HK5:=uh K5;have HKD:=uh (KpD.res (n₀:=w.heap.size) H1.out hr9 K5 HH.out (by omega) (fun b hb=>(HT.out.new b (by simp[keys]at hb ⊢;exact .inr (.inl hb))).resolve_left (by simp[keys])));have HKO:=uh (Turn.keepsOthers K5 HH.out (resBx1_cells H1.out));have HMm:=uh (K5.same m (HT.out.has.lt (by simp[keys])) (fun hm=>by have hnd:=HT.out.has.nd;simp only[keys_cons,keys_append,List.nodup_cons,List.nodup_append,List.mem_append,List.mem_cons]at hnd hm;rcases hm with hm|hm|hm;exact hnd.2.2.2 m hm m (by simp) rfl;exact hnd.2.2.1.1 (by rw[←hm];simp);cases hm));have Hr9:=uh hr9;clear V4 K4 K5 K3 hno hr9 q0)
        | fail)
       have hce:fts ((pre++[x]).filter bad)=fts (pre.filter bad)++[.int .i64 x.1,.int .i64 x.2.1,.int .i64 8]:=(by rw[HFs.out,fts_append];simp[fts,ftCells]);have hl1:((pre++[x]).filter bad).length=(pre.filter bad).length+1:=(by rw[HFs.out];simp);have hT9:=(HT.out.perm (l2:=(lr++[(n4,.cells #[.slice ao (pre.filter bad).length cap] 274)])++((nb,.cells #[.int .i64 x.1,.int .i64 x.2.1,.int .i64 x.2.2.1] 264)::((Bs,.cells #[pt g] 260)::(g,.cells #[pt a,pt tb,.map (some m),.slice go_ (ats cs).length gcap,.int .i64 (endOf 0 cs:Nat)] 334)::(m,ob)::lg))) po).trans (HK5.out.more ((HT.out.perm (l2:=(lr++[(n4,.cells #[.slice ao (pre.filter bad).length cap] 274)])++((nb,.cells #[.int .i64 x.1,.int .i64 x.2.1,.int .i64 x.2.2.1] 264)::((Bs,.cells #[pt g] 260)::(g,.cells #[pt a,pt tb,.map (some m),.slice go_ (ats cs).length gcap,.int .i64 (endOf 0 cs:Nat)] 334)::(m,ob)::lg))) po).has));refine⟨HKO.out.from _,⟨HKD.out,HMm.out⟩,a9,p9,l9,by rw[hl1,hce];exact Hr9.out,by simp;omega,?_⟩;rw[hl1]
       exact(hT9.perm (l2:=[(W2.heap.size,.cells #[.int .i64 x.1,.int .i64 x.2.1,.int .i64 8] 279),(nb,.cells #[.int .i64 x.1,.int .i64 x.2.1,.int .i64 x.2.2.1] 264)]++(l9++((n4,.cells #[.slice a9 ((pre.filter bad).length+1) p9] 274)::((Bs,.cells #[pt g] 260)::(g,.cells #[pt a,pt tb,.map (some m),.slice go_ (ats cs).length gcap,.int .i64 (endOf 0 cs:Nat)] 334)::(m,ob)::lg)))) po).drop
     · have HX:=uh (⟨e1,hT.tail⟩:Row 279 3 ao (pre.filter bad).length cap (fts (pre.filter bad)) lr /\ Turn [] w (lr++((n4,.cells #[.slice ao (pre.filter bad).length cap] 274)::((Bs,.cells #[pt g] 260)::(g,.cells #[pt a,pt tb,.map (some m),.slice go_ (ats cs).length gcap,.int .i64 (endOf 0 cs:Nat)] 334)::(m,ob)::lg))) W2)
       rw[if_neg hbx,List.append_nil]at HFs
       by_cases hx0:x.2.2.2=0
       · have k2:((x.2.2.2:Nat):Int)=0:=by omega
         clear hT e1 hbx hx0
         gi_wp2_with fail
         refine⟨KeepsFrom.refl _ _,⟨⟨Below.refl _ _,Nat.le_refl _,fun _ _ h _ _=>h,fun _ _ h=>h⟩,rfl⟩,ao,cap,lr,by rw[HFs.out];exact HX.out.1,by simp;omega,by rw[HFs.out];exact HX.out.2⟩
       · have k2:((x.2.2.2:Nat):Int)≠0:=by omega
         have k3:¬x.2.2.1<0:=fun h=>hbx (by unfold bad;rw[bne_iff_ne.2 hx0,decide_eq_true h];rfl);clear hT e1 hbx hx0
         gi_wp2_with fail
         refine⟨KeepsFrom.refl _ _,⟨⟨Below.refl _ _,Nat.le_refl _,fun _ _ h _ _=>h,fun _ _ h=>h⟩,rfl⟩,ao,cap,lr,by rw[HFs.out];exact HX.out.1,by simp;omega,by rw[HFs.out];exact HX.out.2⟩
    case hdone=>
     rintro D xs W2 hD hxs ⟨ao,cap,lr,e1,e2,hT⟩ hK;have hk:badsOf L W cs=xs.filter bad:=by unfold badsOf;rw[hE,hxs]
     have HKd:=uh hk;have q0:W2.cell? ⟨n4,0,none⟩=some (.slice ao (xs.filter bad).length cap):=hT.has.cell (b:=n4) (c:=#[.slice ao (xs.filter bad).length cap]) (e:=274) (f:=(0,0)) (by simp) 0;have HT:=uh hT;have H1:=uh e1;have HK:=uh hK;clear hT e1 hK hk hxs
     gi_wp2_with fail
     have T10:=HT.out.grownC (B:=W0.heap.size) hw0W (hAc lr ao _ cap H1.out.cells) (grownBy_putObj' _ D (.deferred none)) (fun r e=>by cases e;exact⟨hD,_,HK.out,rfl⟩);have HT10:=uh T10;clear T10 HT q0;refine⟨by simp,.inl ⟨_,_,rfl,run_takeDeferred HK.out,?_⟩⟩;refine⟨.tuple #[.slice ao (xs.filter bad).length cap,.int .i64 0],?_,ao,cap,lr,by rw[HKd.out],by rw[HKd.out];exact H1.out,HT10.out.sub (List.sublist_append_left _ _)⟩;simp[results,results156,go_sem]
end
section
open Go Go.RowKit Go.MapKept Go.Maps Go.WideElems
def MapSt (q:IntKind)(m:List (Int×Value))(o:Obj):Prop:=∃es clock,o=.map es clock /\ es.toList.map (fun e=>(e.key,e.val))=m.map (fun p=>(Value.int q p.1,p.2)) /\ Stamped es clock
theorem MapSt.obj {q:IntKind}{m:List (Int×Value)}{o:Obj}(h:MapSt q m o):MapObj q m o:=by
 obtain⟨es,clock,h1,h2,-⟩:=h;exact⟨es,clock,h1,h2⟩
theorem MapSt.new (q:IntKind):MapSt q [] (.map #[] 0):=⟨#[],0,rfl,rfl,stamped_empty 0⟩
theorem MapSt.keys {q:IntKind}{m:List (Int×Value)}{o:Obj}(h:MapSt q m o):(m.map (·.1)).Nodup:=by
 obtain⟨es,clock,-,h2,-,-,h3⟩:=h
 have e:es.toList.map (·.key)=m.map fun p=>Value.int q p.1:=by
  have h4:=congrArg (List.map (·.1)) h2;rw[List.map_map,List.map_map]at h4;exact h4
 rw[e]at h3;have e2:(m.map fun p=>Value.int q p.1)=(m.map (·.1)).map (Value.int q):=by rw[List.map_map];rfl
 rw[e2]at h3;exact h3.of_map _ fun a b hab he=>hab (by rw[he])
theorem mfind_none {k:Int}:∀{m:List (Int×Value)} {i:Nat},mfind m k i=none -> ∀p∈m,p.1≠k
 | [],_,_,p,hp=>by cases hp
 | p::m,i,h,p2,hp=>by
  rw[mfind]at h
  by_cases hk:k=p.1
  · rw[if_pos hk]at h
    cases h
  · rw[if_neg hk]at h
    rcases List.mem_cons.1 hp with rfl|hp
    ·exact fun e=>hk e.symm
    ·exact mfind_none h p2 hp
section
variable {P:Program} {w:World} {b:Nat} {q:IntKind} {m:List (Int×Value)} {o:Obj} {t kt e:TypeId}
theorem run_mupdate_st (hb:w.heap[b]?= some o)(hm:MapSt q m o)(ht:P.underlying t=some (.map kt e))(hk:P.underlying kt=some (.int q))(k:Int)(v:Value):
  ∃o',MapSt q (mput m k v) o' /\ (Instr.mapUpdate t (.map (some b)) (.int q k) v).run P w=.ok () { w with heap:=w.heap.setIfInBounds b o' }:=by
 obtain⟨es,clock,rfl,h,hst⟩:=hm;have hf:=run_findKey (P:=P) (w:=w) (kt:=kt) hk (find_spec (k:=k) 0 h);unfold Instr.mapUpdate;simp only[Sem.run_bind,run_underlying ht,Result.andThen_ok,MapKept.run_getObj_map hb,run_checkKey (e:=false) (n:=9999) hk (show IsKey (.int q) (.int q k)by simp[IsKey]),hf]
 have hkey:∀x∈es.toList,∃p∈m,x.key=Value.int q p.1:=by
  intro x hx
  have h1:(x.key,x.val)∈m.map (fun p=>(Value.int q p.1,p.2)):=by
   rw[←h];exact List.mem_map.2 ⟨x,hx,rfl⟩
  obtain⟨p,hp,he⟩:=List.mem_map.1 h1;exact⟨p,hp,by simpa using(congrArg Prod.fst he).symm⟩
 cases hx:mfind m k 0 with
 | none=>
  refine⟨_,⟨es.push { key:=.int q k,val:=v,born:=clock },clock+1,rfl,?_,stamped_push hst ?_⟩,MapKept.run_setObj_map _ hb⟩
  · rw[push_spec (q:=q) hx,List.map_append,Array.toList_push,List.map_append,h]
    rfl
  · intro x hx2
    obtain⟨p,hp,he⟩:=hkey x hx2;rw[he];intro h1
    cases h1
    exact mfind_none hx p hp rfl
 | some x=>
  obtain⟨i,u⟩:=x;obtain⟨h1,h2⟩:=modify_spec (v:=v) h hx;rw[Array.getElem?_toList]at h2;refine⟨_,⟨es.modify i fun e=>{ e with key:=.int q k,val:=v },clock,rfl,?_,stamped_modify hst i _ (fun _ _=>rfl) ?_⟩,?_⟩
  · rw[Array.toList_modify]
    exact h1
  · intro y _ hy
    rw[hy]at h2;exact(Option.some.inj h2).symm
  · simp only[h2,Option.getD_some,Instr.keyThatStays,same_int,if_true,Sem.run_bind,Sem.run_pure,Result.andThen_ok]
    exact MapKept.run_setObj_map _ hb
end
end
end Go.Proofs.YtbecgkejdacidaaGreatDoor
namespace Go.Proofs
open Go.RowKit Go.Maps Go.Sort Go.Shelf
end Go.Proofs
namespace Go.Proofs.YtbecgkejdacidaaGreatDoor
section
open Go Go.RowKit Go.IntWalk
structure SbAt (w:World)(sb a aw tb bb:Nat)(W B:List Nat)(bo:Option Addr)(bcap:Nat)(tao:Option Addr)(tcap:Nat)(L:List Ty):Prop where
 sp:SpAt w sb a aw tb W tao tcap L
 c2:w.cell? ⟨sb,2,none⟩=some (pt bb)
 bits:BitAt w bb B (W.length/2) bo bcap
theorem SbAt.below {w w':World}{sb a aw tb bb:Nat}{W B:List Nat}{bo:Option Addr}{bcap:Nat}{tao:Option Addr}{tcap:Nat}{L:List Ty}(h:SbAt w sb a aw tb bb W B bo bcap tao tcap L)(hk:Below w.heap.size w w'):SbAt w' sb a aw tb bb W B bo bcap tao tcap L:=
 ⟨h.sp.below hk,(hk.cell (p:=⟨sb,2,none⟩) (World.block_lt_of_cell? w _ h.c2)).trans h.c2,h.bits.below hk⟩
structure SdIn (L:List Ty)(W B:List Nat)(cs:List Ce):Prop where
 few:W.length <= 65536
 u64:∀v∈W,v<18446744073709551616
 ty:∀t∈L,TyIn t
 lt:L.length <= 1000
 chain:Chain L W 0 cs (W.length/2)
 bu:u64ok B
 bl:B.length=(W.length/2+63)/64
 bits:bitsOf B (W.length/2) (objs cs)
theorem prevB_some {B:List Nat}:∀{i p:Nat},prevB B i=some p -> p <= i /\ bitAt B p=true
 | 0,p,h=>by
  unfold prevB at h
  split at h
  ·rename_i hb;cases h;exact⟨Nat.le_refl _,hb⟩
  ·cases h
 | i+1,p,h=>by
  unfold prevB at h
  split at h
  ·rename_i hb;cases h;exact⟨Nat.le_refl _,hb⟩
  · have:=prevB_some h
    exact⟨by omega,this.2⟩
section
variable {L:List Ty} {W B:List Nat} {cs:List Ce}
theorem SdIn.obj (h:SdIn L W B cs){c:Ce}(hc:c∈objs cs):c.1+c.2.size <= W.length/2 /\ 1 <= c.2.size /\ stands L W c.1 c.2 /\ bitAt B c.1=true:=by
 have h1:=h.chain.mem c (List.mem_filter.1 hc).1;have h2:=h1.2.2.pos;exact⟨h1.2.1,h2,h1.2.2,(h.bits c.1 (by omega)).2 ⟨c,hc,rfl⟩⟩
theorem SdIn.hit (h:SdIn L W B cs){i p:Nat}(hi:i<W.length/2)(hp:prevB B i=some p):p <= i /\ ∃c∈objs cs,c.1=p:=by
 have h1:=prevB_some hp;exact⟨h1.1,(h.bits p (by omega)).1 h1.2⟩
theorem SdIn.at_ (h:SdIn L W B cs){c:Ce}(hc:c∈objs cs):prevB B c.1=some c.1:=prevB_hit (h.obj hc).2.2.2
end
def FdPost (cs:List Ce)(v:Nat)(w:World)(e:Ending)(w':World):Prop:=∃(r:Bool) (g:Nat),e=.returned (.tuple #[.int .i64 g,.bool r]) /\ (∀c∈objs cs,v=1048576+2*c.1 -> r=true /\ g=c.1) /\ (r=true -> ∃c∈objs cs,c.1=g) /\ g <= 65536 /\ Below w.heap.size w w'
theorem bfind (w:World)(sb a aw tb bb:Nat){W B:List Nat}(bo:Option Addr)(bcap:Nat)(tao:Option Addr)(tcap:Nat)(L:List Ty)(cs:List Ce)(hA:SbAt w sb a aw tb bb W B bo bcap tao tcap L)(hI:SdIn L W B cs)(v:Nat)(hv:v<18446744073709551616):
  Calls prog 159 #[pt sb,.int .u64 v] w (FdPost cs v w):=by
 have HW:=uh (sword w v hv)
 by_cases h1:1048576 <= v /\ v<1114112
 · rw[if_pos h1,decide_eq_true h1]at HW
   obtain⟨u,hu⟩:∃u,v-1048576=u:=⟨_,rfl⟩;have hus:u<65536:=(by omega);obtain⟨z,hz⟩:∃z,W.length/2=z:=⟨_,rfl⟩;have hzb:z <= 32768:=(by have:=hI.few;omega);have Hgr:=uh (sgran w hA.sp.c0 hA.sp.ar hI.few);rw[hz]at Hgr;rw[hu]at HW
   by_cases h2:2*z <= u
   · have h2z:2*(z:Int) <= (u:Int):=by omega
     have HN:=uh (fun(c:Ce) (hc:c∈objs cs) (h:v=1048576+2*c.1)=>(by have:=(hI.obj (c:=c) hc).1;have:=(hI.obj (c:=c) hc).2.1;omega:False));clear hA hI h1 hu hz
     go_enter func159,ntmps159
     go_wp2_with (first
      | (go_at_call 209;refine HW.out.mono ?_;rintro e w' ⟨rfl,hw⟩;rw[hw];clear hw w')
      | (go_at_call 13;refine Hgr.out.mono ?_;rintro e w' ⟨rfl,hw⟩;rw[hw];clear hw w')
      | fail)
     refine bodyPost_ret (results_tmp2 rfl _ _ _) rfl ?_;exact⟨false,0,rfl,fun c hc h=>(HN.out c hc h).elim,(fun h=>by cases h),by omega,Below.refl _ _⟩
   · have h2z:¬2*(z:Int) <= (u:Int):=by omega
     have Hst:=uh (sstarts w sb bb (W.length/2) B bo bcap hA.c2 hA.bits (by rw[hI.bl];omega));obtain⟨q,hqe⟩:∃q,u/2=q:=⟨_,rfl⟩;have hq:((u:Int)).tdiv 2=(q:Int):=(by rw[←hqe];exact tdiv_nat _ 2);have hq2:(u:Int)/2=(q:Int):=(by omega);have HQ:=uh hqe;have HVU:Hid (v=1048576+u):=uh (by omega);have hlu:q<z:=(by omega);have HI:=uh hI;have HA:=uh hA;have hbl:=hI.bl;rw[hz]at hbl;have Hpv:=uh (fun w' b2 bo2 cap2 (hb:BitAt w' b2 B (W.length/2) bo2 cap2)=>bprev w' b2 (W.length/2) B bo2 cap2 hb HI.out.bu (by rw[HI.out.bl];omega) q (by omega) (by omega));have Har:=uh (fun w' (hk:Below w.heap.size w w')=>sarena w' (a:=⟨a,0,none⟩) rfl (hA.below hk).sp.c0);have Hhd:=uh (fun w' (hk:Below w.heap.size w w') (g:Int)=>shead w' (hA.below hk).sp.fields (hA.below hk).sp.ar hI.u64 g);have hsz:=sz_head;clear hA hI h1 hu hqe
     go_enter func159,ntmps159
     go_wp2_with (first
      | (go_at_call 209;refine HW.out.mono ?_;rintro e w' ⟨rfl,hw⟩;rw[hw];clear hw w')
      | (go_at_call 13;refine Hgr.out.mono ?_;rintro e w' ⟨rfl,hw⟩;rw[hw];clear hw w')
      | fail)
     refine Hst.out.mono ?_;rintro e w1 ⟨b2,l2,rfl,hI2,T1⟩;obtain⟨bo2,cap2,hb2⟩:=hI2.at_ (R:=[]) (by rw[List.append_nil];exact T1.has);have Hp:=uh (Hpv.out w1 b2 bo2 cap2 hb2);have HT1:=uh T1;clear hb2 hI2 T1 Hst Hpv
     go_wp2_with fail
     refine Hp.out.mono ?_
     cases hp:prevB B q with
     | none=>
      rintro e w2 ⟨rfl,hB2⟩
      have HN:=uh (fun(c:Ce) (hc:c∈objs cs) (h:v=1048576+2*c.1)=>(by
       have h3:=HI.out.at_ (c:=c) hc;have hvu:=HVU.out;have hqe:=HQ.out;rw[show c.1=q by omega,hp]at h3;exact absurd h3 (by simp):False))
      have HB2:=uh (HT1.out.below.trans (hB2.mono HT1.out.size));clear hB2 Hp;simp only[Option.getD_none,Option.isSome_none]
      go_wp2_with fail
      refine bodyPost_ret (results_tmp2 rfl _ _ _) rfl ?_;exact⟨false,0,rfl,fun c hc h=>(HN.out c hc h).elim,(fun h=>by cases h),by omega,HB2.out⟩
     | some p=>
      rintro e w2 ⟨rfl,hB2⟩;obtain⟨hpu,c,hc,hcp⟩:=HI.out.hit (by omega) hp;have hob:=HI.out.obj hc;obtain⟨e1,e2,e3,e4⟩:=stands_head hob.2.2.1;have HB2:=uh (HT1.out.below.trans (hB2.mono HT1.out.size));have Hh2:=uh (Hhd.out w2 HB2.out (c.1:Int));rw[e1,e2]at Hh2;simp only[Option.getD_some]at Hh2;have Ha2:=uh (Har.out w2 HB2.out)
      have HC:=uh (fun(d:Ce) (hd:d∈objs cs) (h:v=1048576+2*d.1)=>(by
       have h3:=HI.out.at_ hd;have hvu:=HVU.out;have hqe:=HQ.out;rw[show d.1=q by omega,hp]at h3
       cases h3
       omega:d.1=p /\ u=2*p))
      have HM:=uh (⟨c,hc,hcp⟩:∃c∈objs cs,c.1=p);subst hcp;obtain⟨cg,xa,xb,xc,xd⟩:=c;simp only at hob hpu Hh2 HM HC;have hd1:cg+xd <= z:=(by rw[←hz];exact hob.1);have hd2:1 <= xd:=hob.2.1;have hoX:=hd_one ⟨xa,xb,xc,xd⟩;simp only at hoX;clear hc hob e1 e2 e3 e4 hB2 Hp Hhd Har HA hz;simp only[Option.getD_some,Option.isSome_some]
      go_wp2_with (first
       | (go_at_call 44;refine Ha2.out.mono ?_;rintro e w' ⟨rfl,hw⟩;rw[hw];clear hw w')
       | fail)
      refine Hh2.out.mono ?_;rintro e w3 ⟨rfl,hB3⟩;have T3:=((Turn.refl (Has.nil w2)).call hB3).alloc zH;have hth:(w3.alloc zH).there w3.heap.size 0 4:=T3.there1;have T4:=T3.laid [.int .u8 xa,.int .i64 xb,.int .i64 xc,.int .i64 xd] rfl;have q3:=T4.cell1 3;have HT4:=uh (HB2.out.trans (T4.below.mono HB2.out.size));clear hB3 T3 T4 Hh2 Ha2
      by_cases h5:2*(cg+xd) <= u
      · have h5z:2*((cg:Int)+(xd:Int)) <= (u:Int):=by omega
        go_wp2_with (first
         | (show sW 79;refine wpList_store_mid rfl 79 _ _ rfl _ 0 #[.int .u8 xa,.int .i64 xb,.int .i64 xc,.int .i64 xd] rfl rfl hth hsz hoX ?_;clear hth;generalize(w3.alloc zH).setCells w3.heap.size 0 [.int .u8 xa,.int .i64 xb,.int .i64 xc,.int .i64 xd]=w5 at*;generalize w3.heap.size=b4 at*)
         | fail)
        refine bodyPost_ret (results_tmp2 rfl _ _ _) rfl ?_;exact⟨false,0,rfl,fun d hd h=>(by have:=HC.out d hd h;omega:False).elim,(fun h=>by cases h),by omega,HT4.out⟩
      · have h5z:¬2*((cg:Int)+(xd:Int)) <= (u:Int):=by omega
        go_wp2_with (first
         | (show sW 79;refine wpList_store_mid rfl 79 _ _ rfl _ 0 #[.int .u8 xa,.int .i64 xb,.int .i64 xc,.int .i64 xd] rfl rfl hth hsz hoX ?_;clear hth;generalize(w3.alloc zH).setCells w3.heap.size 0 [.int .u8 xa,.int .i64 xb,.int .i64 xc,.int .i64 xd]=w5 at*;generalize w3.heap.size=b4 at*)
         | fail)
        refine bodyPost_ret (results_tmp2 rfl _ _ _) rfl ?_;exact⟨true,cg,rfl,fun d hd h=>⟨rfl,(HC.out d hd h).1.symm⟩,fun _=>HM.out,by omega,HT4.out⟩
 · rw[if_neg h1,decide_eq_false h1]at HW
   have HN:=uh (fun(c:Ce) (hc:c∈objs cs) (h:v=1048576+2*c.1)=>(by have:=(hI.obj (c:=c) hc).1;have:=(hI.obj (c:=c) hc).2.1;have:=hI.few;omega:False));clear hA hI h1
   go_enter func159,ntmps159
   go_wp2_with (first
    | (go_at_call 209;refine HW.out.mono ?_;rintro e w' ⟨rfl,hw⟩;rw[hw];clear hw w')
    | fail)
   refine bodyPost_ret (results_tmp2 rfl _ _ _) rfl ?_;exact⟨false,0,rfl,fun c hc h=>(HN.out c hc h).elim,(fun h=>by cases h),by omega,Below.refl _ _⟩
def lives (cs:List Ce)(v:Nat):Bool:=(objs cs).any fun c=>v == 1048576+2*c.1
theorem lives_iff {cs:List Ce}{v:Nat}:lives cs v=true↔∃c∈objs cs,v=1048576+2*c.1:=by
 unfold lives;rw[List.any_eq_true]
 constructor
 ·rintro⟨c,hc,h⟩;exact⟨c,hc,by simpa using h⟩
 ·rintro⟨c,hc,h⟩;exact⟨c,hc,by simpa using h⟩
theorem rise_nil (w:World):Calls prog 160 #[.slice none 0 0] w fun e w'=>e=.returned (.slice none 0 0) /\ w'=w:=by
 have Hs:=uh (fun w=>AnyM.slices_Sort_int_none Tryz.sortA none 0 w)
 have Hc:∀w,Calls prog 211 #[.slice none 0 0] w fun e w'=>e=.returned (.slice none 0 0) /\ w'=w:=fun w=>by
  go_enter func211,ntmps211
  go_wp2
  go_ret;exact⟨rfl,rfl⟩
 have HC:=uh Hc;clear Hc
 go_enter func160,ntmps160
 go_wp2_with (first
  | (go_at_call 199;refine(Hs.out _).mono ?_;rintro e w' ⟨rfl,hw⟩;rw[hw];clear hw w')
  | (go_at_call 211;refine(HC.out _).mono ?_;rintro e w' ⟨rfl,hw⟩;rw[hw];clear hw w')
  | fail)
 go_ret;exact⟨rfl,rfl⟩
theorem rise_one (w:World)(blk cap:Nat)(g:Int)(hc:w.cell? ⟨blk,0,none⟩=some (.int .i64 g))(hf:w.frozen? ⟨blk,0,none⟩=false):
  Calls prog 160 #[.slice (some ⟨blk,0,none⟩) 1 cap] w fun e w'=>e=.returned (.slice (some ⟨blk,0,none⟩) 1 cap) /\ Below w.heap.size w w':=by
 have hH:Sort.Holds (Value.int .i64) w blk 0 [g].toArray:=fun j hj=>by
  obtain rfl:j=0:=by simpa using hj
  exact⟨by simpa using hc,by simpa using hf⟩
 have Hs:=uh (AnyM.slices_Sort_int Tryz.sortA blk 0 cap [g] w hH (World.block_lt_of_cell? w _ hc) (by simp))
 have HB:=uh (fun n os=>(by
  have h:Sort.putRow (Value.int .i64) (Sort.ahead w n) blk 0 ([g].mergeSort fun x y=>decide (x <= y)).toArray=Sort.ahead w n:=by
   rw[List.mergeSort_singleton];exact Sort.putRow_self _ _ _ _ _ (Sort.holds_ahead _ _ _ _ _ _ hH)
  rw[h];exact Lib.below_grow _ _ (Nat.le_refl _) n os:Below w.heap.size w (Sort.grow (Sort.putRow (Value.int .i64) (Sort.ahead w n) blk 0 ([g].mergeSort fun x y=>decide (x <= y)).toArray) os)))
 have Hc:∀w,Calls prog 211 #[.slice (some ⟨blk,0,none⟩) 1 cap] w fun e w'=>e=.returned (.slice (some ⟨blk,0,none⟩) 1 cap) /\ w'=w:=fun w=>by
  go_enter func211,ntmps211
  go_wp2
  go_ret;exact⟨rfl,rfl⟩
 have HC:=uh Hc;clear Hc hH hc hf
 go_enter func160,ntmps160
 go_wp2_with fail
 refine Hs.out.mono ?_;rintro e w1 ⟨rfl,n,os,hw⟩;have hB:=HB.out n os;rw[←hw]at hB;have HB1:=uh hB;clear hB hw HB Hs
 go_wp2_with (first
  | (go_at_call 211;refine(HC.out _).mono ?_;rintro e w' ⟨rfl,hw⟩;rw[hw];clear hw w')
  | fail)
 go_ret;exact⟨rfl,HB1.out⟩
theorem bprec (w:World)(sb a aw tb bb:Nat){W B:List Nat}(bo:Option Addr)(bcap:Nat)(tao:Option Addr)(tcap:Nat)(L:List Ty)(cs:List Ce)(hA:SbAt w sb a aw tb bb W B bo bcap tao tcap L)(hI:SdIn L W B cs)(v vb:Nat)(hv:v<18446744073709551616)(hc:w.cell? ⟨vb,0,none⟩=some (.int .u64 v)):
  Calls prog 79 #[pt sb,.slice (some ⟨vb,0,none⟩) 1 1] w fun e w'=>∃(ao:Option Addr) (n cap:Nat) (ec:Int),e=.returned (.tuple #[.slice ao n cap,.int .i64 ec]) /\ (ec=0 /\ 0<n↔lives cs v=true) /\ Below w.heap.size w w':=by
 have Hf:=uh (bfind w sb a aw tb bb bo bcap tao tcap L cs hA hI v hv);have Hl0:Hid (v=0 -> ¬lives cs v=true):=uh (fun h hl=>by obtain⟨c,-,h2⟩:=lives_iff.1 hl;omega);clear hA hI
 go_enter func79,ntmps79
 go_wp2_with fail
 go_loopw [4,14] (fun v4 v14 wr=>(v14=.int .i64 0 /\ v4=.slice none 0 0 /\ w=wr)∨(v14=.int .i64 1 /\ v4=.slice none 0 0 /\ ¬lives cs v=true /\ w=wr)∨(v14=.int .i64 1 /\ lives cs v=true /\ ∃gb cap g,v4=.slice (some ⟨gb,0,none⟩) 1 cap /\ wr.cell? ⟨gb,0,none⟩=some (.int .i64 g) /\ wr.frozen? ⟨gb,0,none⟩=false /\ Below w.heap.size w wr)) (fun _ v14 _=>1-(intOf v14).toNat)
 case atStart=>exact .inl ⟨rfl,rfl,rfl⟩
 case round=>
  rcases hrel with⟨rfl,rfl,rfl⟩|⟨rfl,rfl,hl,rfl⟩|⟨rfl,hl,gb,cap,g,rfl,hcg,hfg,hBw⟩
  · by_cases h0:v=0
    · have h0z:((v:Nat):Int)=0:=by omega
      have HL:=uh (Hl0.out h0);clear h0 Hl0
      go_wp2_with fail
      go_roundw
      case rel=>exact .inr (.inl ⟨rfl,rfl,HL.out,by first|rfl|trivial⟩)
      case measure=>simp[intOf]
    · have h0z:¬((v:Nat):Int)=0:=by omega
      clear Hl0
      go_wp2_with fail
      refine Hf.out.mono ?_;rintro e w2 ⟨r,g,rfl,hr1,hr2,hg6,hB⟩;have HB:=uh hB;have HR2:=uh hr2;have HR1:=uh hr1;have Had:=uh (fun w=>saddr w g hg6);clear hB hr1 hr2 Hf
      cases r with
      | false=>
       have HL:Hid (¬lives cs v=true):=uh (fun hl=>by
        obtain⟨c,hc,h2⟩:=lives_iff.1 hl;have:=(HR1.out c hc h2).1
        cases this)
       go_wp2_with fail
       refine bodyPost_ret (results_tmp2 rfl _ _ _) rfl ?_;exact⟨none,0,0,8,rfl,⟨fun h=>by omega,fun h=>(HL.out h).elim⟩,HB.out⟩
      | true=>
       by_cases hg:1048576+2*g=v
       · have hgz:((1048576+2*g:Nat):Int)=((v:Nat):Int):=by omega
         have HL:Hid (lives cs v=true):=uh (lives_iff.2 (by obtain⟨c,hc,h2⟩:=HR2.out rfl;exact⟨c,hc,by omega⟩));have T2:=((Turn.refl (Has.nil w)).call HB.out).alloc (.cells #[.int .i64 g] 3);have HT2:=uh T2;clear T2
         go_wp2_with (first
          | (go_at_call 51;refine(Had.out _).mono ?_;rintro e w' ⟨rfl,hw⟩;rw[hw];clear hw w';rw[hgz])
          | (at_builtin;refine wpList_append_row rfl _ _ rfl el_int rfl (Row.nil _ _) (R:=[(w2.heap.size,.cells #[.int .i64 g] 3)]) HT2.out.has rfl (news:=[.int .i64 g]) rfl (news_of (heap_alloc_new _ _)) (by simp[Value.oneCell']) (by unfold maxLen;omega) (by omega) ?_;intro a9 p9 l9 w6 hr9 V9 hno;have HV9:=uh (HT2.out.trans V9);have Hr9:=uh hr9;clear V9 hno hr9)
          | fail)
         go_roundw
         case rel=>
          obtain⟨gb,cur,rfl,rfl,hsz,htk⟩:=Hr9.out.some_of (by omega);refine .inr (.inr ⟨rfl,HL.out,gb,p9,(g:Int),rfl,?_,HV9.out.free1 0,HV9.out.below⟩);rw[HV9.out.cell1 0,take_get htk 0 (by omega)]
          rfl
         case measure=>simp[intOf]
       · have hgz:¬((1048576+2*g:Nat):Int)=((v:Nat):Int):=by omega
         have HL:Hid (¬lives cs v=true):=uh (fun hl=>by
          obtain⟨c,hc,h2⟩:=lives_iff.1 hl;have:=(HR1.out c hc h2).2;omega)
         clear hg
         go_wp2_with (first
          | (go_at_call 51;refine(Had.out _).mono ?_;rintro e w' ⟨rfl,hw⟩;rw[hw];clear hw w')
          | fail)
         refine bodyPost_ret (results_tmp2 rfl _ _ _) rfl ?_;exact⟨none,0,0,8,rfl,⟨fun h=>by omega,fun h=>(HL.out h).elim⟩,HB.out⟩
  · have HL:=uh hl
    clear hl Hf Hl0
    go_wp2_with (first
     | (go_at_call 160;refine(rise_nil _).mono ?_;rintro e w' ⟨rfl,hw⟩;rw[hw];clear hw w')
     | fail)
    refine bodyPost_ret (results_tmp2 rfl _ _ _) rfl ?_;exact⟨none,0,0,0,rfl,⟨fun h=>by omega,fun h=>(HL.out h).elim⟩,Below.refl _ _⟩
  · have Hr:=uh (rise_one _ gb cap g hcg hfg)
    have HL:=uh hl;have HBw:=uh hBw;clear hl hBw hcg hfg Hf Hl0
    go_wp2_with fail
    refine Hr.out.mono ?_;rintro e w3 ⟨rfl,hB3⟩;have HB3:=uh (HBw.out.trans (hB3.mono HBw.out.size));clear hB3
    go_wp2_with fail
    refine bodyPost_ret (results_tmp2 rfl _ _ _) rfl ?_;exact⟨some ⟨gb,0,none⟩,1,cap,0,rfl,⟨fun _=>HL.out,fun _=>⟨rfl,by omega⟩⟩,HB3.out⟩
end
section
open Go Go.RowKit
theorem fm_get {α:Type}{f:α -> List Value}{sz:Nat}(hf:∀a,(f a).length=sz)(S:List α)(i j:Nat)(hj:j<sz):(S.flatMap f)[i*sz+j]?= S[i]?.bind fun a=>(f a)[j]? :=by
 induction S generalizing i with
 | nil=>simp
 | cons a S ih=>
  rw[List.flatMap_cons]
  cases i with
  | zero=>
   rw[Nat.zero_mul,Nat.zero_add,List.getElem?_append_left (by rw[hf];exact hj)]
   rfl
  | succ i=>
   have e:(i+1)*sz+j=sz+(i*sz+j):=(by rw[Nat.add_mul];omega);rw[e,List.getElem?_append_right (by rw[hf];omega),hf,Nat.add_sub_cancel_left,ih]
   rfl
theorem fm_len {α:Type}{f:α -> List Value}{sz:Nat}(hf:∀a,(f a).length=sz)(S:List α):(S.flatMap f).length=S.length*sz:=by
 induction S with
 | nil=>simp
 | cons a S ih=>rw[List.flatMap_cons,List.length_append,hf,ih,List.length_cons,Nat.add_mul];omega
theorem Src.fm {α:Type}{f:α -> List Value}{sz:Nat}(hf:∀a,(f a).length=sz){S:List α}{w:World}{b off n cap:Nat}(h:Src w (some ⟨b,off,none⟩) n cap sz (S.flatMap f)){i:Nat}{x:α}(hi:S[i]?= some x):w.rangeAt b (off+i*sz) (f x):=by
 intro j v hv;have hj:j<sz:=by rw[←hf x];exact(List.getElem?_eq_some_iff.1 hv).1
 have h1:=h.at_ _ rfl (i*sz+j) v (by rw[fm_get hf S i j hj,hi];exact hv);rw[add_lit]at h1;rw[Nat.add_assoc];exact h1
abbrev Br:=Nat×Nat×Nat×Nat×Nat
def brCells (x:Br):List Value:=[.int .u8 x.1,.int .i64 x.2.1,.int .i64 x.2.2.1,.int .u64 x.2.2.2.1,.int .i64 x.2.2.2.2]
def brs (l:List Br):List Value:=l.flatMap brCells
theorem brs_append (a b:List Br):brs (a++b)=brs a++brs b:=by simp[brs]
theorem brs_length (l:List Br):(brs l).length=l.length*5:=fm_len (sz:=5) (fun _=>rfl) l
theorem brs_one (l:List Br):∀v∈brs l,v.oneCell'=true:=fun v hv=>by
 obtain⟨x,-,h⟩:=List.mem_flatMap.1 hv;simp only[brCells,List.mem_cons,List.not_mem_nil,or_false]at h;rcases h with rfl|rfl|rfl|rfl|rfl<;>rfl
theorem el_breach:Elem prog 56 60 5 40 (.agg #[.int .u8 0,.int .i64 0,.int .i64 0,.int .u64 0,.int .i64 0]):=Elem.of underlying56 (by kernel_rfl) rfl
theorem sz_breach:(prog.info? 60).map (·.size)=some 5:=by kernel_rfl
theorem sz_fault:(prog.info? 279).map (·.size)=some 3:=by kernel_rfl
def refBr (x:Ed):Br:=(2,x.1,x.2.1,0,8)
theorem take_map_next {α β:Type}{f:α -> β}{l:List α}{i:Nat}{x:α}(h:l[i]?= some x):(l.take (i+1)).map f=(l.take i).map f++[f x]:=by
 rw[List.take_add_one,h];simp
theorem bads_len {L:List Ty}{W B:List Nat}{cs:List Ce}(h:SdIn L W B cs):(badsOf L W cs).length <= 2147483648:=by
 have h5:=h.chain.len;have hf:=h.few;have h6:(objs cs).length <= cs.length:=by unfold objs;exact List.length_filter_le ..
 have h7:=eds_len (L:=L) (W:=W) (A:=ats cs) (os:=objs cs) (fun c hc=>by
  have hi:=obIn_of h.chain h.few h.ty hc;have h1:=refsTo_len (tyAt L c.2.typ) ((tyAt L c.2.typ).slots c.2.len);have h2:(tyAt L c.2.typ).refs c.2.len=refsTo (tyAt L c.2.typ) ((tyAt L c.2.typ).slots c.2.len):=rfl;obtain⟨hm9,-,hn9,-⟩:=err_ok.1 hi.err;have:=slots_most hm9 (n:=c.2.len) (by omega);rw[h2];omega)
 have h8:=filter_bad_le (eds L W (ats cs) (objs cs));unfold badsOf;omega
end
section
open Go Go.RowKit Go.IntWalk
def n64s (l:List Nat):List Value:=l.map fun n=>.int .u64 (n:Nat)
theorem n64s_length (l:List Nat):(n64s l).length=l.length:=by simp[n64s]
theorem n64s_at {l:List Nat}{i v:Nat}(h:l[i]?= some v):(n64s l)[i]?= some (.int .u64 v):=by unfold n64s;rw[List.getElem?_map,h];rfl
def Tells (f:Nat)(e:TypeId)(p:Option Addr)(w:World)(xs:List Nat):Prop:=∀w',Below w.heap.size w w' -> Calls prog f #[.pointer p] w' fun en w2=>∃ao cap l,en=.returned (.slice ao xs.length cap) /\ Row e 1 ao xs.length cap (n64s xs) l /\ Turn [] w' l w2
theorem Tells.below {f:Nat}{e:TypeId}{p:Option Addr}{w w':World}{xs:List Nat}(h:Tells f e p w xs)(hk:Below w.heap.size w w'):Tells f e p w' xs:=fun w2 hk2=>h w2 (hk.trans (hk2.mono hk.size))
theorem alives (w:World)(sb a aw tb bb:Nat){W B:List Nat}(bo:Option Addr)(bcap:Nat)(tao:Option Addr)(tcap:Nat)(L:List Ty)(cs:List Ce)(hA:SbAt w sb a aw tb bb W B bo bcap tao tcap L)(hI:SdIn L W B cs)(bs:Nat)(hbs:w.cell? ⟨bs,0,none⟩=some (pt sb))(v:Nat)(hv:v<18446744073709551616):
  Calls prog 78 #[.int .u64 v,pt bs] w fun e w'=>e=.returned (.bool (lives cs v)) /\ Below w.heap.size w w':=by
 have T1:=(Turn.refl (Has.nil w)).alloc (.cells #[.int .u64 v] 47);have Hp:=uh (bprec _ sb a aw tb bb bo bcap tao tcap L cs (hA.below T1.below) hI v w.heap.size hv (T1.cell1 0));have HB:=uh T1.below;clear hA hI T1
 go_enter func78,ntmps78
 go_wp2_with fail
 refine Hp.out.mono ?_;rintro e w1 ⟨ao,n,cap,ec,rfl,hl,hB1⟩;have HB1:=uh (HB.out.trans (hB1.mono HB.out.size));clear hB1 HB Hp
 by_cases he:ec=0
 · subst he
   by_cases hn:0<n
   · have hnz:(0:Int)<(n:Int):=by omega
     have HL:=uh (hl.1 ⟨rfl,hn⟩);have HN:=uh hn;clear hl hn
     go_wp2_with fail
     go_ret;exact⟨by rw[HL.out];show Ending.returned (Value.bool (decide (0<n)))=_;rw[decide_eq_true HN.out],HB1.out⟩
   · have hnz:¬(0:Int)<(n:Int):=by omega
     have hf:lives cs v=false:=Bool.eq_false_iff.2 (fun h=>hn (hl.2 h).2);have HL:=uh hf;have HN:=uh hn;clear hl hn hf
     go_wp2_with fail
     go_ret;exact⟨by rw[HL.out];show Ending.returned (Value.bool (decide (0<n)))=_;rw[decide_eq_false HN.out],HB1.out⟩
 · have hf:lives cs v=false:=Bool.eq_false_iff.2 (fun h=>he (hl.2 h).1)
   have HL:=uh hf;clear hl hf
   go_wp2_with fail
   go_ret;exact⟨by rw[HL.out];rfl,HB1.out⟩
def lost (k:Nat)(cs:List Ce)(l:List (Nat×Nat)):List Br:=(l.filter fun x=> !lives cs x.2).map fun x=>(k,0,0,x.1,0)
theorem lost_snoc (k:Nat)(cs:List Ce)(l:List (Nat×Nat))(x:Nat×Nat):lost k cs (l++[x])=lost k cs l++if lives cs x.2=true then []else [(k,0,0,x.1,0)]:=by
 unfold lost;rw[List.filter_append,List.map_append]
 congr 1
 by_cases h:lives cs x.2=true<;>simp[h]
theorem lost_next {k:Nat}{cs:List Ce}{l:List (Nat×Nat)}{i:Nat}{x:Nat×Nat}(h:l[i]?= some x):lost k cs (l.take (i+1))=lost k cs (l.take i)++if lives cs x.2=true then []else [(k,0,0,x.1,0)]:=by
 rw[List.take_add_one,h];exact lost_snoc k cs (l.take i) x
theorem lost_le (k:Nat)(cs:List Ce)(l:List (Nat×Nat))(i:Nat):(lost k cs (l.take i)).length <= i:=by
 unfold lost;rw[List.length_map];refine Nat.le_trans (List.length_filter_le ..) ?_;rw[List.length_take];omega
def lostW (cs:List Ce)(l:List (Nat×Nat)):List Br:=lost 5 cs (l.filter fun x=>x.2 != 0)
theorem lostW_next {cs:List Ce}{l:List (Nat×Nat)}{i:Nat}{x:Nat×Nat}(h:l[i]?= some x):lostW cs (l.take (i+1))=lostW cs (l.take i)++if x.2=0∨lives cs x.2=true then []else [(5,0,0,x.1,0)]:=by
 rw[List.take_add_one,h];unfold lostW
 show lost 5 cs ((l.take i++[x]).filter _)=_
 rw[List.filter_append]
 by_cases h0:x.2=0
 ·simp[h0]
 · rw[List.filter_cons_of_pos (by simpa using h0),List.filter_nil,lost_snoc]
   simp[h0]
theorem lostW_le (cs:List Ce)(l:List (Nat×Nat))(i:Nat):(lostW cs (l.take i)).length <= i:=by
 unfold lostW;have h:=lost_le 5 cs ((l.take i).filter fun x=>x.2 != 0) ((l.take i).filter fun x=>x.2 != 0).length;rw[List.take_length]at h;refine Nat.le_trans h (Nat.le_trans (List.length_filter_le ..) ?_);rw[List.length_take];omega
theorem chands (w:World)(sb a aw tb bb:Nat){W B:List Nat}(bo:Option Addr)(bcap:Nat)(tao:Option Addr)(tcap:Nat)(L:List Ty)(cs:List Ce)(hA:SbAt w sb a aw tb bb W B bo bcap tao tcap L)(hI:SdIn L W B cs)(bs bl bh:Nat)(p:Option Addr)(hs:List (Nat×Nat))(hbs:w.cell? ⟨bs,0,none⟩=some (pt sb))
  (hbl:w.cell? ⟨bl,0,none⟩=some (.func (.func 78) #[] #[pt bs]))(hbh:w.cell? ⟨bh,0,none⟩=some (.pointer p))(hx:∀x∈hs,x.2<18446744073709551616)(hln:hs.length <= 65536)
  (hR:Tells 81 47 p w (hs.map (·.2)))(hLi:Tells 82 83 p w (hs.map (·.1))):
  Calls prog 80 #[pt bh,pt bl] w fun e w'=>∃ao cap l,e=.returned (.slice ao (lost 3 cs hs).length cap) /\ Row 60 5 ao (lost 3 cs hs).length cap (brs (lost 3 cs hs)) l /\ Turn [] w l w':=by
 have Hal:=uh (fun w' (hk:Below w.heap.size w w') (v:Nat) (hv:v<18446744073709551616)=>alives w' sb a aw tb bb bo bcap tao tcap L cs (hA.below hk) hI bs ((hk.cell (p:=⟨bs,0,none⟩) (World.block_lt_of_cell? w _ hbs)).trans hbs) v hv);have HBl:=uh (fun w' (hk:Below w.heap.size w w')=>(hk.cell (p:=⟨bl,0,none⟩) (World.block_lt_of_cell? w _ hbl)).trans hbl);have HBh:=uh (fun w' (hk:Below w.heap.size w w')=>(hk.cell (p:=⟨bh,0,none⟩) (World.block_lt_of_cell? w _ hbh)).trans hbh);have Hx:=uh (fun(i:Nat) (x:Nat×Nat) (h:hs[i]?= some x)=>hx x (List.mem_of_getElem? h));have Hsn:=uh (fun(i:Nat) (x:Nat×Nat) (h:hs[i]?= some x)=>lost_next (k:=3) (cs:=cs) h);have Hle:=uh (lost_le 3 cs hs);have HR:=uh (hR w (Below.refl _ _));have HLi:=uh (fun w' (hk:Below w.heap.size w w')=>hLi w' hk);clear hA hI hbs hbl hx hR hLi
 go_enter func80,ntmps80
 go_wp2_with fail
 refine HR.out.mono ?_;rintro e w1 ⟨a3,p3,l1,rfl,hr1,T1⟩;have hbh1:=HBh.out w1 T1.below;have HL1:=uh (HLi.out w1 T1.below);have Hr1:=uh hr1;have HT1:=uh T1;clear hr1 T1 HR HLi hbh
 go_wp2_with fail
 refine HL1.out.mono ?_;rintro e w2 ⟨a9,p9,l2,rfl,hrl,T2⟩;have Hrl:=uh hrl;have HT2:=uh (HT1.out.grow T2);have hln1:(hs.map (·.1)).length=hs.length:=List.length_map ..;have hln2:(hs.map (·.2)).length=hs.length:=List.length_map ..;rw[hln1]at Hrl;rw[hln2]at Hr1
 try simp only[List.length_map]
 clear hrl T2 HT1 HL1 hbh1 hln1 hln2
 go_wp2_with fail
 go_loopw [2,11] (fun v2 vi wr=>∃(i:Nat) (a2:Option Addr) (p2:Nat) (lr lj:List Blk),i <= hs.length /\ vi=.int .i64 i /\ v2=.slice a2 (lost 3 cs (hs.take i)).length p2 /\ Row 60 5 a2 (lost 3 cs (hs.take i)).length p2 (brs (lost 3 cs (hs.take i))) lr /\ Turn [] w (lr++(lj++(l2++l1))) wr) (fun _ vi _=>hs.length-(intOf vi).toNat)
 case atStart=>exact⟨0,none,0,[],[],Nat.zero_le _,by go_num,rfl,Row.nil _ _,HT2.out⟩
 case round=>
  clear HT2;obtain⟨i,a2,p2,lr,lj,hi,rfl,rfl,hr2,V⟩:=hrel
  by_cases hlt:i<hs.length
  · have hlt':(i:Int)<(hs.length:Int):=by omega
    obtain⟨x,hx⟩:∃x,hs[i]?= some x:=⟨hs[i],List.getElem?_eq_getElem hlt⟩;have hx2:=Hx.out i x hx;have hle:=Hle.out i;have hsn:=Hsn.out i x hx;have h63:(lost 3 cs (hs.take i)).length+1 <= maxLen:=(by unfold maxLen;omega);have hby:((lost 3 cs (hs.take i)).length+1)*40 <= 140737488355328:=(by omega);have hS1:=Hr1.out.src (V.has.perm (l':=l1++(lr++(lj++l2))) po);obtain⟨b1,off1,rfl,hc1⟩:=hS1.form (by rw[n64s_length,List.length_map];omega);have q1:=hc1 i _ (n64s_at (l:=hs.map (·.2)) (v:=x.2) (by rw[List.getElem?_map,hx];rfl));have hS2:=Hrl.out.src (V.has.perm (l':=l2++(lr++(lj++l1))) po);obtain⟨b2,off2,rfl,hc2⟩:=hS2.form (by rw[n64s_length,List.length_map];omega);have q2:=hc2 i _ (n64s_at (l:=hs.map (·.1)) (v:=x.1) (by rw[List.getElem?_map,hx];rfl));have Hr2:=uh hr2;have HL:=uh (fun u (hk:Below wr.heap.size wr u)=>(⟨HBl.out u (V.below.trans (hk.mono V.size)),(hk.cell (p:=⟨b1,off1+i,none⟩) (World.block_lt_of_cell? wr _ q1)).trans q1⟩:u.cell? ⟨bl,0,none⟩=some (.func (.func 78) #[] #[pt bs]) /\ u.cell? ⟨b1,off1+i,none⟩=some (.int .u64 x.2)));have hV:=V;have V:=uh hV;clear hr2 hV hx hS1 hS2 hc1 hc2
    go_wp2_with fail
    clear q1 q2;refine wp_region_noPanic ?_;have hS:Below wr.heap.size wr wr.drew:=(Turn.refl (Has.nil wr)).drew.below;refine wp_region_listed (S:=fun u=>Below wr.heap.size wr u) 7 [false,false,false,false,false,false,false] rfl rfl (by kernel_rfl) ?_;generalize wr.drew=u0 at*;refine tkB 0 16 hS (fun w hSw=>(HL.out w hSw).1) ?_;refine tkA 1 17 hS ?_;refine tkA 2 18 hS ?_;refine tkA 3 19 hS ?_;refine tkB 4 20 hS (fun w hSw=>(HL.out w hSw).2) ?_;refine rdyA 5 (fun K hK=>?_)
    go_simp
    refine(Hal.out u0 (V.out.below.trans (hS.mono V.out.size)) x.2 hx2).mono ?_;rintro e w4 ⟨rfl,hB4⟩;have hB5:Below wr.heap.size wr w4:=hS.trans (hB4.mono hS.size);have V4:=uh (V.out.call hB5);clear hB4 hS;refine hK.out _ _ hB5 fun _=>?_;clear hK K;simp only[st0,st1,st2];refine tkA 6 22 hB5 ?_;refine wpAnyH_done (by kernel_rfl) ?_ _;refine NoPanic.normal ?_;clear hB5
    by_cases hlv:lives cs x.2=true
    · rw[if_pos hlv,List.append_nil]at hsn
      have HSn:=uh hsn;rw[hlv];clear hsn hlv
      go_wp2_with fail
      go_roundw
      case rel=>exact⟨i+1,a2,p2,lr,lj,by omega,by go_num,by rw[HSn.out],by rw[HSn.out];exact Hr2.out,V4.out⟩
      case measure=>simp[intOf];omega
    · rw[if_neg hlv]at hsn
      have HSn:=uh hsn;rw[Bool.eq_false_iff.2 hlv];clear hsn hlv
      go_wp2_with (first
       | (at_builtin;have T6:=uh (V4.out.alloc (.cells #[.int .u8 3,.int .i64 0,.int .i64 0,.int .u64 x.1,.int .i64 0] 60));refine wpList_append_row rfl _ _ rfl el_breach rfl Hr2.out (R:=(w4.heap.size,.cells #[.int .u8 3,.int .i64 0,.int .i64 0,.int .u64 x.1,.int .i64 0] 60)::(lj++(l2++l1))) (T6.out.perm po).has rfl (news:=[.int .u8 3,.int .i64 0,.int .i64 0,.int .u64 x.1,.int .i64 0]) rfl (news_of (heap_alloc_new _ _)) (by simp[Value.oneCell']) h63 hby ?_;intro a9 p9 l9 w8 hr9 V9 hno;have HV9:=uh ((T6.out.perm po).trans V9);have Hr9:=uh hr9;clear V9 hr9 hno)
       | fail)
      go_roundw
      case rel=>
       have hl1:(lost 3 cs (hs.take (i+1))).length=(lost 3 cs (hs.take i)).length+1:=(by rw[HSn.out];simp);refine⟨i+1,a9,p9,l9,_::lj,by omega,by go_num,by rw[hl1],?_,HV9.out⟩;rw[hl1,HSn.out,brs_append];exact Hr9.out
      case measure=>simp[intOf];omega
  · obtain rfl:i=hs.length:=by omega
    have hnl:¬((hs.length:Nat):Int)<(hs.length:Int):=(by omega);rw[List.take_length]at hr2 ⊢;have Hr2:=uh hr2;have HV:=uh V;clear hr2 V
    go_wp2_with fail
    go_ret;exact⟨a2,p2,rfl,lr,Hr2.out,HV.out.sub (List.sublist_append_left ..)⟩
theorem cpins (w:World)(sb a aw tb bb:Nat){W B:List Nat}(bo:Option Addr)(bcap:Nat)(tao:Option Addr)(tcap:Nat)(L:List Ty)(cs:List Ce)(hA:SbAt w sb a aw tb bb W B bo bcap tao tcap L)(hI:SdIn L W B cs)(bs bl bh:Nat)(p:Option Addr)(hs:List (Nat×Nat))(hbs:w.cell? ⟨bs,0,none⟩=some (pt sb))
  (hbl:w.cell? ⟨bl,0,none⟩=some (.func (.func 78) #[] #[pt bs]))(hbh:w.cell? ⟨bh,0,none⟩=some (.pointer p))(hx:∀x∈hs,x.2<18446744073709551616)(hln:hs.length <= 65536)
  (hLi:Tells 84 47 p w (hs.map (·.2)))(h12:∀x∈hs,x.1=x.2):
  Calls prog 83 #[pt bh,pt bl] w fun e w'=>∃ao cap l,e=.returned (.slice ao (lost 4 cs hs).length cap) /\ Row 60 5 ao (lost 4 cs hs).length cap (brs (lost 4 cs hs)) l /\ Turn [] w l w':=by
 have Hal:=uh (fun w' (hk:Below w.heap.size w w') (v:Nat) (hv:v<18446744073709551616)=>alives w' sb a aw tb bb bo bcap tao tcap L cs (hA.below hk) hI bs ((hk.cell (p:=⟨bs,0,none⟩) (World.block_lt_of_cell? w _ hbs)).trans hbs) v hv);have HBl:=uh (fun w' (hk:Below w.heap.size w w')=>(hk.cell (p:=⟨bl,0,none⟩) (World.block_lt_of_cell? w _ hbl)).trans hbl);have HBh:=uh (fun w' (hk:Below w.heap.size w w')=>(hk.cell (p:=⟨bh,0,none⟩) (World.block_lt_of_cell? w _ hbh)).trans hbh);have Hx:=uh (fun(i:Nat) (x:Nat×Nat) (h:hs[i]?= some x)=>hx x (List.mem_of_getElem? h));have Hsn:=uh (fun(i:Nat) (x:Nat×Nat) (h:hs[i]?= some x)=>lost_next (k:=4) (cs:=cs) h);have Hle:=uh (lost_le 4 cs hs);have HLi:=uh (hLi w (Below.refl _ _));have H12:=uh (fun(i:Nat) (x:Nat×Nat) (h:hs[i]?= some x)=>h12 x (List.mem_of_getElem? h));clear hA hI hbs hbl hx hLi h12
 go_enter func83,ntmps83
 go_wp2_with fail
 refine HLi.out.mono ?_;rintro e w2 ⟨a3,p3,l1,rfl,hr1,T2⟩;have Hr1:=uh hr1;have HT2:=uh T2;have hln2:(hs.map (·.2)).length=hs.length:=List.length_map ..;rw[hln2]at Hr1
 try simp only[List.length_map]
 clear hr1 T2 HLi hbh hln2
 go_wp2_with fail
 go_loopw [2,8] (fun v2 vi wr=>∃(i:Nat) (a2:Option Addr) (p2:Nat) (lr lj:List Blk),i <= hs.length /\ vi=.int .i64 i /\ v2=.slice a2 (lost 4 cs (hs.take i)).length p2 /\ Row 60 5 a2 (lost 4 cs (hs.take i)).length p2 (brs (lost 4 cs (hs.take i))) lr /\ Turn [] w (lr++(lj++l1)) wr) (fun _ vi _=>hs.length-(intOf vi).toNat)
 case atStart=>exact⟨0,none,0,[],[],Nat.zero_le _,by go_num,rfl,Row.nil _ _,HT2.out⟩
 case round=>
  clear HT2;obtain⟨i,a2,p2,lr,lj,hi,rfl,rfl,hr2,V⟩:=hrel
  by_cases hlt:i<hs.length
  · have hlt':(i:Int)<(hs.length:Int):=by omega
    obtain⟨x,hx⟩:∃x,hs[i]?= some x:=⟨hs[i],List.getElem?_eq_getElem hlt⟩;have hx2:=Hx.out i x hx;have hle:=Hle.out i;have hsn:=Hsn.out i x hx;have h63:(lost 4 cs (hs.take i)).length+1 <= maxLen:=(by unfold maxLen;omega);have hby:((lost 4 cs (hs.take i)).length+1)*40 <= 140737488355328:=(by omega);have hS1:=Hr1.out.src (V.has.perm (l':=l1++(lr++(lj++[]))) po);obtain⟨b1,off1,rfl,hc1⟩:=hS1.form (by rw[n64s_length,List.length_map];omega);have q1:=hc1 i _ (n64s_at (l:=hs.map (·.2)) (v:=x.2) (by rw[List.getElem?_map,hx];rfl));have h12:=H12.out i x hx;have Hr2:=uh hr2;have HL:=uh (fun u (hk:Below wr.heap.size wr u)=>(⟨HBl.out u (V.below.trans (hk.mono V.size)),(hk.cell (p:=⟨b1,off1+i,none⟩) (World.block_lt_of_cell? wr _ q1)).trans q1⟩:u.cell? ⟨bl,0,none⟩=some (.func (.func 78) #[] #[pt bs]) /\ u.cell? ⟨b1,off1+i,none⟩=some (.int .u64 x.2)));have hV:=V;have V:=uh hV;clear hr2 hV hx hS1 hc1;have ql:=(HL.out wr (Below.refl _ _)).1;have hsn2:(4,0,0,x.1,0)=((4,0,0,x.2,0):Br):=(by rw[h12]);rw[hsn2]at hsn;clear hsn2 h12
    go_wp2_with fail
    refine(Hal.out wr V.out.below x.2 hx2).mono ?_;rintro e w4 ⟨rfl,hB4⟩;have V4:=uh (V.out.call hB4);clear hB4 q1 ql V
    by_cases hlv:lives cs x.2=true
    · rw[if_pos hlv,List.append_nil]at hsn
      have HSn:=uh hsn;rw[hlv];clear hsn hlv
      go_wp2_with fail
      go_roundw
      case rel=>exact⟨i+1,a2,p2,lr,lj,by omega,by go_num,by rw[HSn.out],by rw[HSn.out];exact Hr2.out,V4.out⟩
      case measure=>simp[intOf];omega
    · rw[if_neg hlv]at hsn
      have HSn:=uh hsn;rw[Bool.eq_false_iff.2 hlv];clear hsn hlv
      go_wp2_with (first
       | (at_builtin;have T6:=uh (V4.out.alloc (.cells #[.int .u8 4,.int .i64 0,.int .i64 0,.int .u64 x.2,.int .i64 0] 60));refine wpList_append_row rfl _ _ rfl el_breach rfl Hr2.out (R:=(w4.heap.size,.cells #[.int .u8 4,.int .i64 0,.int .i64 0,.int .u64 x.2,.int .i64 0] 60)::(lj++l1)) (T6.out.perm po).has rfl (news:=[.int .u8 4,.int .i64 0,.int .i64 0,.int .u64 x.2,.int .i64 0]) rfl (news_of (heap_alloc_new _ _)) (by simp[Value.oneCell']) h63 hby ?_;intro a9 p9 l9 w8 hr9 V9 hno;have HV9:=uh ((T6.out.perm po).trans V9);have Hr9:=uh hr9;clear V9 hr9 hno)
       | fail)
      go_roundw
      case rel=>
       have hl1:(lost 4 cs (hs.take (i+1))).length=(lost 4 cs (hs.take i)).length+1:=(by rw[HSn.out];simp);refine⟨i+1,a9,p9,l9,_::lj,by omega,by go_num,by rw[hl1],?_,HV9.out⟩;rw[hl1,HSn.out,brs_append];exact Hr9.out
      case measure=>simp[intOf];omega
  · obtain rfl:i=hs.length:=by omega
    have hnl:¬((hs.length:Nat):Int)<(hs.length:Int):=(by omega);rw[List.take_length]at hr2 ⊢;have Hr2:=uh hr2;have HV:=uh V;clear hr2 V
    go_wp2_with fail
    go_ret;exact⟨a2,p2,rfl,lr,Hr2.out,HV.out.sub (List.sublist_append_left ..)⟩
theorem cweaks (w:World)(sb a aw tb bb:Nat){W B:List Nat}(bo:Option Addr)(bcap:Nat)(tao:Option Addr)(tcap:Nat)(L:List Ty)(cs:List Ce)(hA:SbAt w sb a aw tb bb W B bo bcap tao tcap L)(hI:SdIn L W B cs)(bs bl bh:Nat)(p:Option Addr)(hs:List (Nat×Nat))(hbs:w.cell? ⟨bs,0,none⟩=some (pt sb))
  (hbl:w.cell? ⟨bl,0,none⟩=some (.func (.func 78) #[] #[pt bs]))(hbh:w.cell? ⟨bh,0,none⟩=some (.pointer p))(hx:∀x∈hs,x.2<18446744073709551616)(hln:hs.length <= 65536)
  (hR:Tells 87 47 p w (hs.map (·.2)))(hLi:Tells 86 86 p w (hs.map (·.1))):
  Calls prog 85 #[pt bh,pt bl] w fun e w'=>∃ao cap l,e=.returned (.slice ao (lostW cs hs).length cap) /\ Row 60 5 ao (lostW cs hs).length cap (brs (lostW cs hs)) l /\ Turn [] w l w':=by
 have Hal:=uh (fun w' (hk:Below w.heap.size w w') (v:Nat) (hv:v<18446744073709551616)=>alives w' sb a aw tb bb bo bcap tao tcap L cs (hA.below hk) hI bs ((hk.cell (p:=⟨bs,0,none⟩) (World.block_lt_of_cell? w _ hbs)).trans hbs) v hv);have HBl:=uh (fun w' (hk:Below w.heap.size w w')=>(hk.cell (p:=⟨bl,0,none⟩) (World.block_lt_of_cell? w _ hbl)).trans hbl);have HBh:=uh (fun w' (hk:Below w.heap.size w w')=>(hk.cell (p:=⟨bh,0,none⟩) (World.block_lt_of_cell? w _ hbh)).trans hbh);have Hx:=uh (fun(i:Nat) (x:Nat×Nat) (h:hs[i]?= some x)=>hx x (List.mem_of_getElem? h));have Hsn:=uh (fun(i:Nat) (x:Nat×Nat) (h:hs[i]?= some x)=>lostW_next (cs:=cs) h);have Hle:=uh (lostW_le cs hs);have HR:=uh (hLi w (Below.refl _ _));have HLi:=uh (fun w' (hk:Below w.heap.size w w')=>hR w' hk);clear hA hI hbs hbl hx hR hLi
 go_enter func85,ntmps85
 go_wp2_with fail
 refine HR.out.mono ?_;rintro e w1 ⟨a3,p3,l1,rfl,hr1,T1⟩;have hbh1:=HBh.out w1 T1.below;have HL1:=uh (HLi.out w1 T1.below);have Hr1:=uh hr1;have HT1:=uh T1;clear hr1 T1 HR HLi hbh
 go_wp2_with fail
 refine HL1.out.mono ?_;rintro e w2 ⟨a9,p9,l2,rfl,hrl,T2⟩;have Hrl:=uh hrl;have HT2:=uh (HT1.out.grow T2);have hln1:(hs.map (·.1)).length=hs.length:=List.length_map ..;have hln2:(hs.map (·.2)).length=hs.length:=List.length_map ..;rw[hln2]at Hrl;rw[hln1]at Hr1
 try simp only[List.length_map]
 clear hrl T2 HT1 HL1 hbh1 hln1 hln2
 go_wp2_with fail
 go_loopw [2,11] (fun v2 vi wr=>∃(i:Nat) (a2:Option Addr) (p2:Nat) (lr lj:List Blk),i <= hs.length /\ vi=.int .i64 i /\ v2=.slice a2 (lostW cs (hs.take i)).length p2 /\ Row 60 5 a2 (lostW cs (hs.take i)).length p2 (brs (lostW cs (hs.take i))) lr /\ Turn [] w (lr++(lj++(l2++l1))) wr) (fun _ vi _=>hs.length-(intOf vi).toNat)
 case atStart=>exact⟨0,none,0,[],[],Nat.zero_le _,by go_num,rfl,Row.nil _ _,HT2.out⟩
 case round=>
  clear HT2;obtain⟨i,a2,p2,lr,lj,hi,rfl,rfl,hr2,V⟩:=hrel
  by_cases hlt:i<hs.length
  · have hlt':(i:Int)<(hs.length:Int):=by omega
    obtain⟨x,hx⟩:∃x,hs[i]?= some x:=⟨hs[i],List.getElem?_eq_getElem hlt⟩;have hx2:=Hx.out i x hx;have hle:=Hle.out i;have hsn:=Hsn.out i x hx;have h63:(lostW cs (hs.take i)).length+1 <= maxLen:=(by unfold maxLen;omega);have hby:((lostW cs (hs.take i)).length+1)*40 <= 140737488355328:=(by omega);have hS1:=Hr1.out.src (V.has.perm (l':=l1++(lr++(lj++l2))) po);obtain⟨b1,off1,rfl,hc1⟩:=hS1.form (by rw[n64s_length,List.length_map];omega);have q1:=hc1 i _ (n64s_at (l:=hs.map (·.1)) (v:=x.1) (by rw[List.getElem?_map,hx];rfl));have hS2:=Hrl.out.src (V.has.perm (l':=l2++(lr++(lj++l1))) po);obtain⟨b2,off2,rfl,hc2⟩:=hS2.form (by rw[n64s_length,List.length_map];omega);have q2:=hc2 i _ (n64s_at (l:=hs.map (·.2)) (v:=x.2) (by rw[List.getElem?_map,hx];rfl));have Hr2:=uh hr2;have HL:=uh (fun u (hk:Below wr.heap.size wr u)=>(⟨HBl.out u (V.below.trans (hk.mono V.size)),(hk.cell (p:=⟨b1,off1+i,none⟩) (World.block_lt_of_cell? wr _ q1)).trans q1⟩:u.cell? ⟨bl,0,none⟩=some (.func (.func 78) #[] #[pt bs]) /\ u.cell? ⟨b1,off1+i,none⟩=some (.int .u64 x.1)));have hV:=V;have V:=uh hV;clear hr2 hV hS1 hS2 hc1 hc2;have ql:=(HL.out wr (Below.refl _ _)).1;have HQ2:=uh (fun u (hk:Below wr.heap.size wr u)=>(HL.out u hk).2);clear q1 hx
    by_cases h0:x.2=0
    · have h0z:((x.2:Nat):Int)=0:=by omega
      rw[if_pos (Or.inl h0),List.append_nil]at hsn;have HSn:=uh hsn;clear hsn h0
      go_wp2_with fail
      go_roundw
      case rel=>exact⟨i+1,a2,p2,lr,lj,by omega,by go_num,by rw[HSn.out],by rw[HSn.out];exact Hr2.out,V.out⟩
      case measure=>simp[intOf];omega
    · have h0z:¬((x.2:Nat):Int)=0:=by omega
      go_wp2_with fail
      refine(Hal.out wr V.out.below x.2 hx2).mono ?_;rintro e w4 ⟨rfl,hB4⟩;have V4:=uh (V.out.call hB4);have q4:=HQ2.out w4 hB4;clear hB4 q2 ql V HQ2
      by_cases hlv:lives cs x.2=true
      · rw[if_pos (Or.inr hlv),List.append_nil]at hsn
        have HSn:=uh hsn;rw[hlv];clear hsn hlv
        go_wp2_with fail
        go_roundw
        case rel=>exact⟨i+1,a2,p2,lr,lj,by omega,by go_num,by rw[HSn.out],by rw[HSn.out];exact Hr2.out,V4.out⟩
        case measure=>simp[intOf];omega
      · rw[if_neg (fun h=>h.elim h0 hlv)]at hsn
        have HSn:=uh hsn;rw[Bool.eq_false_iff.2 hlv];clear hsn hlv
        go_wp2_with (first
         | (at_builtin;have T6:=uh (V4.out.alloc (.cells #[.int .u8 5,.int .i64 0,.int .i64 0,.int .u64 x.1,.int .i64 0] 60));refine wpList_append_row rfl _ _ rfl el_breach rfl Hr2.out (R:=(w4.heap.size,.cells #[.int .u8 5,.int .i64 0,.int .i64 0,.int .u64 x.1,.int .i64 0] 60)::(lj++(l2++l1))) (T6.out.perm po).has rfl (news:=[.int .u8 5,.int .i64 0,.int .i64 0,.int .u64 x.1,.int .i64 0]) rfl (news_of (heap_alloc_new _ _)) (by simp[Value.oneCell']) h63 hby ?_;intro a9 p9 l9 w8 hr9 V9 hno;have HV9:=uh ((T6.out.perm po).trans V9);have Hr9:=uh hr9;clear V9 hr9 hno)
         | fail)
        go_roundw
        case rel=>
         have hl1:(lostW cs (hs.take (i+1))).length=(lostW cs (hs.take i)).length+1:=(by rw[HSn.out];simp);refine⟨i+1,a9,p9,l9,_::lj,by omega,by go_num,by rw[hl1],?_,HV9.out⟩;rw[hl1,HSn.out,brs_append];exact Hr9.out
        case measure=>simp[intOf];omega
  · obtain rfl:i=hs.length:=by omega
    have hnl:¬((hs.length:Nat):Int)<(hs.length:Int):=(by omega);rw[List.take_length]at hr2 ⊢;have Hr2:=uh hr2;have HV:=uh V;clear hr2 V
    go_wp2_with fail
    go_ret;exact⟨a2,p2,rfl,lr,Hr2.out,HV.out.sub (List.sublist_append_left ..)⟩
end
section
open Go Go.RowKit Go.Shelf Go.IntWalk
attribute [local go_sem] Oper.semAt_some
def KpW (n₀:Nat)(D:World -> Nat -> Prop)(A B:World):Prop:=KpD n₀ D A B /\ KeepsWalks A B
theorem walks_turn {L L':List Blk}{A B:World}(h:Turn L A L' B)(hH:Has A L)(hL:∀x∈L,x.2.isWalk=false):KeepsWalks A B:=
 ⟨h.size,fun k o hk ho=>(h.same k (lt_of_block hk) (fun hm=>by
  obtain⟨o',h1⟩:=mem_keys.1 hm;have h2:=hH.own k o' h1;rw[hk]at h2
  cases h2
  have h3:=hL _ h1;simp only at h3;rw[ho]at h3
  cases h3)).trans hk⟩
theorem Obj.walk_no {o:Obj}(h:o.isCells=true):o.isWalk=false:=by
 cases o<;>first|rfl|cases h
def ResN (n4:Nat)(A:World):Prop:=∀b,ResD n4 A b -> n4 <= b /\ b<A.heap.size
theorem ResN.old {n4:Nat}{A B:World}{b:Nat}(hg:ResN n4 A)(hB:Below A.heap.size A B)(h:ResD n4 B b):ResD n4 A b:=by
 rcases h with h|⟨k,cap,t,h⟩
 ·exact .inl h
 · refine .inr ⟨k,cap,t,?_⟩
   rw[←hB.block n4 (hg n4 (.inl rfl)).2];exact h
theorem resN_of {e te:TypeId}{size n cap:Nat}{xs:List Value}{ao:Option Addr}{lr:List Blk}{n4:Nat}{w W:World}(h:Row e size ao n cap xs lr)(T:Turn [] w (lr++[(n4,.cells #[.slice ao n cap] te)]) W)(hn:w.heap.size=n4):ResN n4 W:=by
 intro b hb
 have hb2:b∈keys (lr++[(n4,Obj.cells #[.slice ao n cap] te)]):=by
  rcases hb with rfl|⟨k,cap',t,hb⟩
  ·simp[keys]
  · have h1:=T.has.own n4 _ (by simp:(n4,Obj.cells #[.slice ao n cap] te)∈_)
    rw[h1]at hb;simp only[Option.some.injEq,Obj.cells.injEq,Array.mk.injEq,List.cons.injEq,Value.slice.injEq]at hb;obtain⟨⟨⟨rfl,rfl,rfl⟩,-⟩,-⟩:=hb;rcases h.2.2.2 with⟨h2,-⟩|⟨g,cur,h2,rfl,-⟩
    ·cases h2
    · cases h2
      simp[keys]
 refine⟨?_,T.has.lt hb2⟩;rcases T.new b hb2 with h3|h3
 ·cases h3
 ·omega
theorem app64 (w:World)(gf:Nat)(lb:Array Value)(N:Nat)(hN:N <= 65536)(Nx:List Nat -> Nat -> Prop)(S:List Nat -> Prop)(hNx:∀pre x,Nx pre x -> pre.length+1 <= N)(eg:∀args w,(callFunc gf args).run prog w=.ok (.enter gf args) w)
  (hseq:∀W0,Below w.heap.size w W0 -> SeqG Fence.wide 5 prog gf lb (fun x:Nat=>#[.int .u64 x]) (KpW w.heap.size (ResD w.heap.size)) Nx S (ResN w.heap.size) W0):
  Calls prog 213 #[.slice none 0 0,.func (.func gf) #[] lb] w fun e w'=>∃xs ao cap l,S xs /\ e=.returned (.slice ao xs.length cap) /\ Row 47 1 ao xs.length cap (n64s xs) l /\ Turn [] w l w':=by
 refine(callsIn_wide (n:=6)).1 ?_;have h3:Fence.wide.fn 213:= trivial;have h6:Fence.wide.fn gf:=trivial;have hro:Fence.wide.round=none:=rfl;have h1:1 <= 6:=by omega
 have T0:=(Turn.refl (Has.nil w)).alloc (.cells #[.slice none 0 0] 61);refine callsIn_of_wp_marks func213 rfl h3 ?_ hro;simp only[ntmps213,List.size_toArray,List.length_cons,List.length_nil,Nat.reduceAdd,Nat.reduceSub,Array.replicate_succ,Array.replicate_zero,List.push_toArray,List.append_toArray,List.nil_append,List.cons_append];have HS:=uh hseq;have HNx:=uh hNx;clear hseq hNx
 gi_wp2_with fail
 have hsz0:(w.alloc (.cells #[.slice none 0 0] 61)).heap.size=w.heap.size+1:=by simp
 generalize hW:w.alloc (.cells #[.slice none 0 0] 61)=W0 at T0 hsz0 ⊢;clear hW;obtain⟨n4,hn4⟩:∃n4,w.heap.size=n4:=⟨_,rfl⟩;have R8:Below w.heap.size w W0:=T0.below;have HSq:=HS.out W0 R8;have T8:Turn [] w ([]++[(n4,.cells #[.slice none 0 0] 61)]) W0:=by rw[←hn4];exact T0
 rw[hn4]at hsz0 HSq ⊢;clear T0 HS
 apply wpIn_rangeFunc_g (β:=Nat) hro h1 (gf:=gf) (lb:=lb) rfl h6 eg HSq
  (fun h k=>⟨h.1.t k.1,h.2.trans k.2⟩) (fun W l o o' hl h hc hw=>⟨KpD.b (n₀:=n4) (D:=ResD n4) (w:=W0) (by omega) (fun W l o' hl b=>ResD.put (by omega) o') W l o o' hl h hc hw,KeepsWalks.putObj _ h hw⟩) (Below.refl _ _) (fun _=>rfl)
  (fun pre W'=>∃ao cap lr,Row 47 1 ao pre.length cap (n64s pre) lr /\ pre.length <= 65536 /\ Turn [] w (lr++[(n4,.cells #[.slice ao pre.length cap] 61)]) W')
  (fun x nb pre W'=>∃ao cap lr,Row 47 1 ao pre.length cap (n64s pre) lr /\ pre.length+1 <= 65536 /\ Turn [] w (lr++[(n4,.cells #[.slice ao pre.length cap] 61)]) W')
  (fun s A D row ⟨ao,cap,lr,e1,e2,hT⟩ hg hr=>⟨ao,cap,lr,e1,e2,hT.grownB (by omega) (resBx1_cells e1) hg hr⟩)
  (fun x nb s A D row ⟨ao,cap,lr,e1,e2,hT⟩ hg hr=>⟨ao,cap,lr,e1,e2,hT.grownB (by omega) (resBx1_cells e1) hg hr⟩)
  ⟨none,0,[],Row.nil _ _,by simp,T8⟩
  (fun pre W' ⟨ao,cap,lr,e1,e2,hT⟩=>resN_of e1 hT hn4)
 case hassign=>
  rintro l1 pre x W2 hnx ⟨ao,cap,lr,e1,e2,hT⟩;have hpl:=HNx.out pre x hnx;have HX:=uh (⟨e1,(by omega:pre.length+1 <= 65536),hT⟩:Row 47 1 ao pre.length cap (n64s pre) lr /\ pre.length+1 <= 65536 /\ Turn [] w (lr++[(n4,.cells #[.slice ao pre.length cap] 61)]) W2);have HK:=uh (⟨KpD.of (L:=[]) (L':=[]) (Turn.refl (Has.nil W2)) (Nat.le_trans (by omega) hT.size) (fun b hb=>by cases hb) (fun b _ hd=>hd),KeepsWalks.refl W2⟩:KpW n4 (ResD n4) W2 W2);clear hnx hT e1
  gi_wp2_with fail
  obtain⟨nb,-⟩:∃nb:Nat,nb=0:=⟨0,rfl⟩;exact⟨(KeepsOthers.refl _).from _,HK.out,nb,rfl,ao,cap,lr,HX.out⟩
 case hbody=>
  rintro l1 pre x nb W2-⟨ao,cap,lr,e1,e2,hT⟩;have q0:W2.cell? ⟨n4,0,none⟩=some (.slice ao pre.length cap):=hT.has.cell (b:=n4) (c:=#[.slice ao pre.length cap]) (e:=61) (f:=(0,0)) (by simp) 0;have h63:pre.length+1 <= maxLen:=by unfold maxLen;omega
  have hby:(pre.length+1)*8 <= 140737488355328:=by omega
  have hcv:∀u∈([.int .u64 x]:List Value),u.oneCell'=true:=by
   intro u hu;rw[List.mem_singleton.1 hu]
   rfl
  have HT:=uh hT;have H1:=uh e1;have HH:=uh hT.has;clear hT e1
  gi_wp2_with (first
   | (gi_at_builtin;have T3:=uh (HT.out.alloc (.cells #[.int .u64 x] 47));have K3:=uh (((Turn.refl HH.out).alloc (.cells #[.int .u64 x] 47)).perm (l2:=lr++[(W2.heap.size,.cells #[.int .u64 x] 47),(n4,.cells #[.slice ao pre.length cap] 61)]) po);refine wpListIn_by (follows_round _ _ _) rfl (by intro c h;cases h) (wp_append_row _ _ rfl el_u64 rfl H1.out (R:=[(W2.heap.size,.cells #[.int .u64 x] 47),(n4,.cells #[.slice ao pre.length cap] 61)]) K3.out.has rfl (news:=[.int .u64 x]) rfl (news_of (heap_alloc_new _ _)) hcv h63 hby ?_);intro a9 p9 l9 w4 hr9 V4 hno;have T4:=((T3.out.perm (l2:=lr++[(W2.heap.size,.cells #[.int .u64 x] 47),(n4,.cells #[.slice ao pre.length cap] 61)]) po).trans V4).perm (l2:=(n4,.cells #[.slice ao pre.length cap] 61)::(l9++[(W2.heap.size,.cells #[.int .u64 x] 47)])) po;have q5:=T4.cell1 0;have f5:=T4.free1 0;have K5:=((K3.out.trans V4).perm (l2:=(n4,.cells #[.slice ao pre.length cap] 61)::(l9++[(W2.heap.size,.cells #[.int .u64 x] 47)])) po).setCell 0 (.slice a9 (pre.length+1) p9);have HT5:=uh (T4.setCell 0 (.slice a9 (pre.length+1) p9));have HK5:=uh (KpD.res (n₀:=n4) H1.out hr9 K5 HH.out (by omega) (fun b hb=>by have:=(HT.out.new b (by simp[keys]at hb ⊢;exact .inl hb)).resolve_left (by simp[keys]);omega));have HKO:=uh (Turn.keepsOthers K5 HH.out (resBx1_cells H1.out));have HKW:=uh (walks_turn K5 HH.out (fun y hy=>Obj.walk_no (resBx1_cells H1.out y hy)));have Hr9:=uh hr9;clear V4 T4 K5 K3 T3 hno hr9 q0)
   | fail)
  have hce:n64s (pre++[x])=n64s pre++[.int .u64 x]:=by simp[n64s]
  have hl1:(pre++[x]).length=pre.length+1:=by simp
  refine⟨HKO.out.from _,⟨HK5.out,HKW.out⟩,a9,p9,l9,by rw[hl1,hce];exact Hr9.out,by omega,by rw[hl1];exact((HT5.out.perm (l2:=(W2.heap.size,.cells #[.int .u64 x] 47)::(l9++[(n4,.cells #[.slice a9 (pre.length+1) p9] 61)])) po)).tail⟩
 case hdone=>
  rintro D xs W2 hD hS ⟨ao,cap,lr,e1,e2,hT⟩ hK;have hHb:Has W2 ((n4,.cells #[.slice ao xs.length cap] 61)::lr):=hT.has.perm po;have q0:W2.cell? ⟨n4,0,none⟩=some (.slice ao xs.length cap):=hHb.cell (List.mem_cons_self ..) 0;have HS:=uh hS;have HT:=uh hT;have H1:=uh e1;have HK:=uh hK;clear hT e1 hHb hK hS
  gi_wp2_with fail
  have T10:=(HT.out.perm (l2:=(n4,.cells #[.slice ao xs.length cap] 61)::lr) po).grownB (B:=W0.heap.size) (by omega) (fun y hy=>by
   rcases List.mem_cons.1 hy with rfl|hy
   ·rfl
   ·exact H1.out.cells y hy) (grownBy_putObj' _ D (.deferred none)) (fun r e=>by cases e;exact⟨hD,_,HK.out,rfl⟩)
  have HT10:=uh T10;clear T10 HT q0;refine⟨by simp,.inl ⟨_,_,rfl,run_takeDeferred HK.out,?_⟩⟩;exact⟨_,results_tmp rfl _ _ _,xs,ao,cap,lr,HS.out,rfl,H1.out,HT10.out.tail⟩
theorem col64 (w:World)(gf:Nat)(lb:Array Value)(N:Nat)(hN:N <= 65536)(Nx:List Nat -> Nat -> Prop)(S:List Nat -> Prop)(hNx:∀pre x,Nx pre x -> pre.length+1 <= N)(eg:∀args w,(callFunc gf args).run prog w=.ok (.enter gf args) w)
  (hseq:∀W0,Below w.heap.size w W0 -> SeqG Fence.wide 5 prog gf lb (fun x:Nat=>#[.int .u64 x]) (KpW w.heap.size (ResD w.heap.size)) Nx S (ResN w.heap.size) W0):
  Calls prog 162 #[.func (.func gf) #[] lb] w fun e w'=>∃xs ao cap l,S xs /\ e=.returned (.slice ao xs.length cap) /\ Row 47 1 ao xs.length cap (n64s xs) l /\ Turn [] w l w':=by
 have H:=uh (app64 w gf lb N hN Nx S hNx eg hseq);clear hseq hNx eg
 go_enter func162,ntmps162
 go_wp2_with fail
 refine H.out.mono ?_;rintro e w2 ⟨xs,ao,cap,l,hS,rfl,hr,T⟩;have HX:=uh (⟨hS,hr,T⟩:S xs /\ Row 47 1 ao xs.length cap (n64s xs) l /\ Turn [] w l w2);clear hS hr T H
 go_wp2_with fail
 go_ret;exact⟨xs,ao,cap,l,HX.out.1,rfl,HX.out.2⟩
end
section
open Go Go.RowKit Go.Sort
def Lay (q:IntKind)(c:Array Value)(off:Nat)(d:Array Int):Prop:=∀j,j<d.size -> c[off+j]?= some (.int q d[j]!)
theorem Lay.set {q:IntKind}{c:Array Value}{off:Nat}{d:Array Int}(h:Lay q c off d)(i:Nat)(x:Int)(hi:i<d.size):Lay q (c.setIfInBounds (off+i) (.int q x)) off (d.setIfInBounds i x):=by
 intro j hj;have hj':j<d.size:=by simpa using hj
 have hs:off+i<c.size:=(Array.getElem?_eq_some_iff.1 (h i hi)).1
 by_cases he:i=j
 · subst he
   rw[Array.getElem?_setIfInBounds_self_of_lt hs,getElem!_set_same d i x hi]
 · rw[Array.getElem?_setIfInBounds_ne (by omega),getElem!_set_other d i j x (Ne.symm he)]
   exact h j hj'
def Ts (q:IntKind)(t:TypeId)(g off:Nat)(c0:Array Value)(w0:World)(d:Array Int)(X:List Blk)(w:World):Prop:=
 ∃c,c.size=c0.size /\ Lay q c off d /\ Turn [(g,.cells c0 t (0,0))] w0 ((g,.cells c t (0,0))::X) w
section
variable {q:IntKind} {t:TypeId} {g off:Nat} {c0:Array Value} {w0 w:World} {d:Array Int} {X:List Blk}
theorem Ts.refl (hH:Has w [(g,.cells c0 t (0,0))])(hl:Lay q c0 off d):Ts q t g off c0 w d [] w:=⟨c0,rfl,hl,Turn.refl hH⟩
theorem Ts.drewN (h:Ts q t g off c0 w0 d X w)(n:Nat):Ts q t g off c0 w0 d X (w.drewN n):=by
 obtain⟨c,h1,h2,h3⟩:=h;exact⟨c,h1,h2,h3.drewN n⟩
theorem Ts.cell (h:Ts q t g off c0 w0 d X w):∀j,j<d.size -> w.cell? ⟨g,off+j,none⟩=some (.int q d[j]!):=by
 obtain⟨c,h1,h2,h3⟩:=h;exact fun j hj=>(h3.cell1 (off+j)).trans (h2 j hj)
theorem Ts.free (h:Ts q t g off c0 w0 d X w)(j:Nat):w.frozen? ⟨g,off+j,none⟩=false:=by
 obtain⟨c,h1,h2,h3⟩:=h;exact h3.free1 (off+j)
theorem Ts.set (h:Ts q t g off c0 w0 d X w)(i:Nat)(x:Int)(hi:i<d.size):Ts q t g off c0 w0 (d.setIfInBounds i x) X (w.setCell ⟨g,off+i,none⟩ (.int q x)):=by
 obtain⟨c,h1,h2,h3⟩:=h;exact⟨_,by simpa using h1,h2.set i x hi,h3.setCell (off+i) _⟩
theorem Ts.swp (h:Ts q t g off c0 w0 d X w)(i j:Nat)(hi:i<d.size)(hj:j<d.size){x y:Int}(hx:x=d[j]!)(hy:y=d[i]!):
  Ts q t g off c0 w0 (Sort.swp d i j) X ((w.setCell ⟨g,off+i,none⟩ (.int q x)).setCell ⟨g,off+j,none⟩ (.int q y)):=by
 subst hx;subst hy;exact(h.set i _ hi).set j _ (by simpa using hj)
theorem Ts.alloc (h:Ts q t g off c0 w0 d X w)(o:Obj):Ts q t g off c0 w0 d ((w.heap.size,o)::X) (w.alloc o):=by
 obtain⟨c,h1,h2,h3⟩:=h;exact⟨c,h1,h2,(h3.alloc o).swap⟩
theorem Ts.less {Y:List Blk}(h:Ts q t g off c0 w0 d X w)(hs:Y.Sublist X):Ts q t g off c0 w0 d Y w:=by
 obtain⟨c,h1,h2,h3⟩:=h;exact⟨c,h1,h2,h3.sub (hs.cons_cons _)⟩
theorem Ts.xcell (h:Ts q t g off c0 w0 d X w){b:Nat}{c:Array Value}{e:TypeId}{f:Nat×Nat}(hm:(b,Obj.cells c e f)∈X)(i:Nat):w.cell? ⟨b,i,none⟩=c[i]? :=by
 obtain⟨_,h1,h2,h3⟩:=h;exact h3.has.cell (List.mem_cons_of_mem _ hm) i
theorem Ts.xfree (h:Ts q t g off c0 w0 d X w){b:Nat}{c:Array Value}{e:TypeId}(hm:(b,Obj.cells c e (0,0))∈X)(i:Nat):w.frozen? ⟨b,i,none⟩=false:=by
 obtain⟨_,h1,h2,h3⟩:=h;exact h3.has.free (List.mem_cons_of_mem _ hm) i
theorem Ts.xset {b:Nat}{c:Array Value}{e:TypeId}{f:Nat×Nat}{Y:List Blk}(h:Ts q t g off c0 w0 d ((b,.cells c e f)::Y) w)(i:Nat)(v:Value):Ts q t g off c0 w0 d ((b,.cells (c.setIfInBounds i v) e f)::Y) (w.setCell ⟨b,i,none⟩ v):=by
 obtain⟨c1,h1,h2,h3⟩:=h;exact⟨c1,h1,h2,(h3.swap.setCell i v).swap⟩
end
theorem swo:SWO ltInt:=swo_ltInt
def SFin (a b:Nat)(d:Array Int)(a' b':Nat)(dk:Array Int):Prop:=∀R,PermIn a' b' dk R -> SortedIn ltInt a' b' R -> PermIn a b d R /\ SortedIn ltInt a b R
theorem SFin.refl {a b:Nat}{d:Array Int}:SFin a b d a b d:=fun _ h k=>⟨h,k⟩
theorem SFin.perm {a b a' b':Nat}{d dk d2:Array Int}(h:SFin a b d a' b' dk)(p:PermIn a' b' dk d2):SFin a b d a' b' d2:=fun R hR hS=>h R (permIn_trans _ _ _ _ _ p hR) hS
theorem SFin.step {a b a' b' a2 b2:Nat}{d d3 d4:Array Int}(h:SFin a b d a' b' d3)(k:∀R,PermIn a2 b2 d4 R -> SortedIn ltInt a2 b2 R -> PermIn a' b' d3 R /\ SortedIn ltInt a' b' R):SFin a b d a2 b2 d4:=fun R hR hS=>h R (k R hR hS).1 (k R hR hS).2
theorem SFin.ins {a b a' b':Nat}{d dk:Array Int}(h:SFin a b d a' b' dk)(h1:a' <= b')(h2:b' <= dk.size):PermIn a b d (insertionSort ltInt dk a' b') /\ SortedIn ltInt a b (insertionSort ltInt dk a' b'):=
 have k:=insertionSort_holds swo dk a' b' h1 h2
 h _ k.1 k.2
theorem SFin.heap {a b a' b':Nat}{d dk:Array Int}(h:SFin a b d a' b' dk)(h1:a' <= b')(h2:b' <= dk.size):PermIn a b d (heapSort ltInt dk a' b') /\ SortedIn ltInt a b (heapSort ltInt dk a' b'):=
 have k:=heapSort_holds swo dk a' b' h1 h2
 h _ k.1 k.2
theorem eighth {x y p q:Nat}(h1:q <= p)(h2:y <= x):decide (((x:Int)-(y:Int))/8 <= (p:Int)-(q:Int))=decide (p-q ≥ (x-y)/8):=
 decide_eq_decide.2 ⟨fun h=>by omega,fun h=>by omega⟩
theorem nan64 (x:Int)(w:World):Calls prog 306 #[.int .u64 x] w fun e w'=>e=.returned (.bool false) /\ w'=w:=by
 go_enter func306,ntmps306
 go_wp2
 go_ret;exact⟨by simp,rfl⟩
theorem less64 (x y:Int)(w:World):Calls prog 298 #[.int .u64 x,.int .u64 y] w fun e w'=>e=.returned (.bool (ltInt x y)) /\ w'=w:=by
 go_enter func298,ntmps298
 go_wp2_with (go_at_call 306;refine(nan64 _ _).mono ?_;rintro e w' ⟨rfl,rfl⟩)
 go_ret;exact⟨rfl,rfl⟩
theorem ins64 (g off cap a b:Nat)(c0:Array Value)(w0:World)(d:Array Int)(X:List Blk)(w:World)(hT:Ts .u64 47 g off c0 w0 d X w)(hab:a <= b)(hb:b <= d.size)(hsz:d.size<4611686018427387904):
  Calls prog 292 #[.slice (some ⟨g,off,none⟩) d.size cap,.int .i64 a,.int .i64 b] w fun e w'=>e=.returned (.tuple #[]) /\ Ts .u64 47 g off c0 w0 (insertionSort ltInt d a b) X w':=by
 have HT:=uh hT;clear hT
 go_enter func292,ntmps292
 go_wp2
 go_loopw [6] (fun vi wr=>∃(i:Nat) (dk:Array Int),vi=.int .i64 i /\ a<i /\ i <= b+1 /\ dk.size=d.size /\ Ts .u64 47 g off c0 w0 dk X wr /\ insOuter ltInt a b i dk=insOuter ltInt a b (a+1) d) (fun vi _=>b+1-(intOf vi).toNat)
 case atStart=>exact⟨a+1,d,by go_num,by omega,by omega,rfl,HT.out,rfl⟩
 case round=>
  clear HT;obtain⟨i,dk,rfl,hai,hib,hsk,hT,hO⟩:=hrel;have HT:=uh hT;have HO:=uh hO;clear hO hT
  go_wp2
  · have hlt:i<b:=by assumption
    go_loopw [7] (fun vj wr2=>∃(j:Nat) (dj:Array Int),vj=.int .i64 j /\ a <= j /\ j <= i /\ dj.size=d.size /\ Ts .u64 47 g off c0 w0 dj X wr2 /\ insInner ltInt a j dj=insInner ltInt a i dk) (fun vj _=>(intOf vj).toNat)
    case atStart=>exact⟨i,dk,rfl,by omega,Nat.le_refl _,hsk,HT.out,rfl⟩
    case round=>
     obtain⟨j,dj,rfl,haj,hji,hsj,hTj,hI⟩:=hrel;obtain⟨G,hG⟩:∃G:Nat -> Int,∀t,G t=dj[t]! :=⟨fun t=>dj[t]!,fun _=>rfl⟩;have hcw:∀t,t<d.size -> wr.cell? ⟨g,off+t,none⟩=some (.int .u64 (G t)):=fun t ht=>by rw[hG];exact hTj.cell t (by omega)
     have hfw:∀t,t<d.size -> wr.frozen? ⟨g,off+t,none⟩=false:=fun t _=>hTj.free t;have HTj:=uh hTj;have HG:=uh hG;have OUT:=uh (fun(hs:j <= a∨ltInt dj[j]! dj[j-1]! =false)=>(by rw[←HO.out,insOuter_go _ _ _ _ _ hlt,←hI,insInner_stop _ _ _ _ hs]:insOuter ltInt a b (i+1) dj=insOuter ltInt a b (a+1) d));have GO:=uh (fun(h1:a<j) (h2:ltInt dj[j]! dj[j-1]! =true)=>(by rw[←hI,insInner_go ltInt a j dj h1 h2]:insInner ltInt a (j-1) (Sort.swp dj j (j-1))=insInner ltInt a i dk));clear hTj hG hI HT
     go_wp2
     by_cases hja:a<j
     · go_quiet (first|(go_at_call 298;refine Calls.quiet_of_same (less64 _ _ _)))
       go_wp2
       · have hl:ltInt (G j) (G (j-1))=true:=by assumption
         go_region
         all_goals go_wp2
         go_roundw
         case rel=>exact⟨j-1,Sort.swp dj j (j-1),by congr 1;omega,by omega,by omega,by rw[size_swp];exact hsj,((HTj.out.drewN (nq+1)).swp j (j-1) (by omega) (by omega) (HG.out _) (HG.out _)),GO.out hja (by rw[←HG.out,←HG.out];exact hl)⟩
         case measure=>simp[intOf];omega
       · have hl:ltInt (G j) (G (j-1))=false:=by assumption
         go_roundw
         case rel=>exact⟨i+1,dj,by go_num,by omega,by omega,hsj,HTj.out.drewN _,OUT.out (Or.inr (by rw[←HG.out,←HG.out];exact hl))⟩
         case measure=>simp[intOf];omega
     · go_quiet (first|(go_at_call 298;refine Calls.quiet_of_same (less64 _ _ _)))
       go_wp2
       go_roundw
       case rel=>exact⟨i+1,dj,by go_num,by omega,by omega,hsj,HTj.out.drewN _,OUT.out (Or.inl (by omega))⟩
       case measure=>simp[intOf];omega
  · have hge:¬i<b:=by assumption
    go_end0;exact⟨rfl,by unfold insertionSort;rw[←HO.out,insOuter_stop _ _ _ _ _ hge];exact HT.out⟩
theorem sift64 (g off cap:Nat)(c0:Array Value)(w0:World)(d:Array Int)(len:Nat)(hlen:d.size=len)(X:List Blk)(lo hi first:Nat)(w:World)(hT:Ts .u64 47 g off c0 w0 d X w)(hlo:lo <= hi)(hb:first+hi <= d.size)(hsz:d.size<4611686018427387904):
  Calls prog 303 #[.slice (some ⟨g,off,none⟩) len cap,.int .i64 lo,.int .i64 hi,.int .i64 first] w fun e w'=>e=.returned (.tuple #[]) /\ Ts .u64 47 g off c0 w0 (siftDown ltInt hi first lo d) X w':=by
 subst hlen;have HT:=uh hT;clear hT
 go_enter func303,ntmps303
 go_wp2
 go_loopg [8] (hi-lo) (fun k s8 wr=>∃(root:Nat) (dk:Array Int),s8=.int .i64 root /\ root <= hi /\ hi-root <= k /\ dk.size=d.size /\ Ts .u64 47 g off c0 w0 dk X wr /\ siftDown ltInt hi first root dk=siftDown ltInt hi first lo d)
 case atStart=>exact⟨lo,d,rfl,hlo,Nat.le_refl _,rfl,HT.out,rfl⟩
 case round=>
  clear HT;obtain⟨root,dk,rfl,hr,hk,hds,hT,heq⟩:=hrel;obtain⟨G,hG⟩:∃G:Nat -> Int,∀t,G t=dk[t]! :=⟨fun t=>dk[t]!,fun _=>rfl⟩;have hcw:∀t,t<d.size -> wr.cell? ⟨g,off+t,none⟩=some (.int .u64 (G t)):=fun t ht=>by rw[hG];exact hT.cell t (by omega)
  have hfw:∀t,t<d.size -> wr.frozen? ⟨g,off+t,none⟩=false:=fun t _=>hT.free t;have HT:=uh hT;have HG:=uh hG;have HE:=uh heq;clear hT hG heq
  by_cases h0:hi <= 2*root+1
  · have h0z:(hi:Int) <= 2*(root:Int)+1:=by omega
    go_wp2
    go_end0;exact⟨rfl,by rw[←HE.out,sd_end ltInt dk h0];exact HT.out⟩
  · have h0z:¬((hi:Int) <= 2*(root:Int)+1):=by omega
    by_cases h1:2*root+2<hi
    · have h1z:2*(root:Int)+1+1<(hi:Int):=by omega
      go_wp2_with fail
      go_big_quiet (first|(go_at_call 298;refine Calls.quiet_of_same (less64 _ _ _)))
      go_wp2_with fail
      · have hL:ltInt (G (first+2*root+1)) (G (first+2*root+2))=true:=by assumption
        have hL2:ltInt dk[first+(2*root+1)]! dk[first+(2*root+2)]! =true:=by rw[←HG.out,←HG.out];exact hL
        revert nq;intro nq1
        have hcw2:∀t,t<d.size -> (wr.drewN nq1).cell? ⟨g,off+t,none⟩=some (.int .u64 (G t)):=hcw;have hfw2:∀t,t<d.size -> (wr.drewN nq1).frozen? ⟨g,off+t,none⟩=false:=hfw;have HT2:=uh (HT.out.drewN nq1);clear hcw hfw HT;generalize wr.drewN nq1=wr2 at hcw2 hfw2 HT2 ⊢
        go_big_quiet (first|(go_at_call 298;refine Calls.quiet_of_same (less64 _ _ _)))
        go_wp2_with fail
        · have hS:ltInt (G (first+root)) (G (first+2*root+2))=false:=by
            have:(!ltInt (G (first+root)) (G (first+2*root+2)))=true:=by assumption
            simpa using this
          (try simp only[Exit.inBlock,Exit.then]);refine bodyPost_ret (results_none rfl _ _ _) rfl ?_
          refine⟨rfl,?_⟩
          have e:siftDown ltInt hi first root dk=dk:=by
           refine sd_right_stop ltInt dk h1 hL2 (by rw[←HG.out,←HG.out];exact hS)
          rw[←HE.out,e];exact HT2.out.drewN _
        · have hS:ltInt (G (first+root)) (G (first+2*root+2))=true:=by
            have:(!ltInt (G (first+root)) (G (first+2*root+2)))=false:=by assumption
            simpa using this
          have e:siftDown ltInt hi first root dk=siftDown ltInt hi first (2*root+2) (Sort.swp dk (first+root) (first+(2*root+2))):=by
           refine sd_right_go ltInt dk h1 hL2 (by rw[←HG.out,←HG.out];exact hS)
          have hcw3:∀t,t<d.size -> (wr2.drewN nq).cell? ⟨g,off+t,none⟩=some (.int .u64 (G t)):=hcw2;have hfw3:∀t,t<d.size -> (wr2.drewN nq).frozen? ⟨g,off+t,none⟩=false:=hfw2;have HT3:=uh (HT2.out.drewN nq);have HE2:=uh (e.symm.trans HE.out);clear hcw2 hfw2 HT2 e HE;generalize wr2.drewN nq=wr3 at hcw3 hfw3 HT3 ⊢
          go_region
          go_wp2
          go_roundg (hi-(2*root+2))
          case measure=>omega
          case rel=>exact⟨2*root+2,Sort.swp dk (first+root) (first+(2*root+2)),by simp<;>omega,by omega,Nat.le_refl _,by rw[size_swp];exact hds,((HT3.out.drewN _).swp (first+root) (first+(2*root+2)) (by omega) (by omega) (HG.out _) (HG.out _)),HE2.out⟩
      · have hL:ltInt (G (first+2*root+1)) (G (first+2*root+2))=false:=by assumption
        have hL2:2*root+2<hi -> ltInt dk[first+(2*root+1)]! dk[first+(2*root+2)]! =false:=fun _=>by rw[←HG.out,←HG.out];exact hL
        revert nq;intro nq1
        have hcw2:∀t,t<d.size -> (wr.drewN nq1).cell? ⟨g,off+t,none⟩=some (.int .u64 (G t)):=hcw;have hfw2:∀t,t<d.size -> (wr.drewN nq1).frozen? ⟨g,off+t,none⟩=false:=hfw;have HT2:=uh (HT.out.drewN nq1);clear hcw hfw HT;generalize wr.drewN nq1=wr2 at hcw2 hfw2 HT2 ⊢
        go_big_quiet (first|(go_at_call 298;refine Calls.quiet_of_same (less64 _ _ _)))
        go_wp2_with fail
        · have hS:ltInt (G (first+root)) (G (first+2*root+1))=false:=by
            have:(!ltInt (G (first+root)) (G (first+2*root+1)))=true:=by assumption
            simpa using this
          (try simp only[Exit.inBlock,Exit.then]);refine bodyPost_ret (results_none rfl _ _ _) rfl ?_
          refine⟨rfl,?_⟩
          have e:siftDown ltInt hi first root dk=dk:=by
           refine sd_left_stop ltInt dk (by omega) hL2 (by rw[←HG.out,←HG.out];exact hS)
          rw[←HE.out,e];exact HT2.out.drewN _
        · have hS:ltInt (G (first+root)) (G (first+2*root+1))=true:=by
            have:(!ltInt (G (first+root)) (G (first+2*root+1)))=false:=by assumption
            simpa using this
          have e:siftDown ltInt hi first root dk=siftDown ltInt hi first (2*root+1) (Sort.swp dk (first+root) (first+(2*root+1))):=by
           refine sd_left_go ltInt dk (by omega) hL2 (by rw[←HG.out,←HG.out];exact hS)
          have hcw3:∀t,t<d.size -> (wr2.drewN nq).cell? ⟨g,off+t,none⟩=some (.int .u64 (G t)):=hcw2;have hfw3:∀t,t<d.size -> (wr2.drewN nq).frozen? ⟨g,off+t,none⟩=false:=hfw2;have HT3:=uh (HT2.out.drewN nq);have HE2:=uh (e.symm.trans HE.out);clear hcw2 hfw2 HT2 e HE;generalize wr2.drewN nq=wr3 at hcw3 hfw3 HT3 ⊢
          go_region
          go_wp2
          go_roundg (hi-(2*root+1))
          case measure=>omega
          case rel=>exact⟨2*root+1,Sort.swp dk (first+root) (first+(2*root+1)),by simp<;>omega,by omega,Nat.le_refl _,by rw[size_swp];exact hds,((HT3.out.drewN _).swp (first+root) (first+(2*root+1)) (by omega) (by omega) (HG.out _) (HG.out _)),HE2.out⟩
    · have h1z:decide (2*(root:Int)+1+1<(hi:Int))=false:=decide_eq_false (by omega)
      have hL2:2*root+2<hi -> ltInt dk[first+(2*root+1)]! dk[first+(2*root+2)]! =false:=fun h=>absurd h h1
      go_wp2_with fail
      go_big_quiet (first|(go_at_call 298;refine Calls.quiet_of_same (less64 _ _ _)))
      go_wp2_with fail
      revert nq;intro nq1
      have hcw2:∀t,t<d.size -> (wr.drewN nq1).cell? ⟨g,off+t,none⟩=some (.int .u64 (G t)):=hcw;have hfw2:∀t,t<d.size -> (wr.drewN nq1).frozen? ⟨g,off+t,none⟩=false:=hfw;have HT2:=uh (HT.out.drewN nq1);clear hcw hfw HT;generalize wr.drewN nq1=wr2 at hcw2 hfw2 HT2 ⊢
      go_big_quiet (first|(go_at_call 298;refine Calls.quiet_of_same (less64 _ _ _)))
      go_wp2_with fail
      · have hS:ltInt (G (first+root)) (G (first+2*root+1))=false:=by
          have:(!ltInt (G (first+root)) (G (first+2*root+1)))=true:=by assumption
          simpa using this
        (try simp only[Exit.inBlock,Exit.then]);refine bodyPost_ret (results_none rfl _ _ _) rfl ?_
        refine⟨rfl,?_⟩
        have e:siftDown ltInt hi first root dk=dk:=by
         refine sd_left_stop ltInt dk (by omega) hL2 (by rw[←HG.out,←HG.out];exact hS)
        rw[←HE.out,e];exact HT2.out.drewN _
      · have hS:ltInt (G (first+root)) (G (first+2*root+1))=true:=by
          have:(!ltInt (G (first+root)) (G (first+2*root+1)))=false:=by assumption
          simpa using this
        have e:siftDown ltInt hi first root dk=siftDown ltInt hi first (2*root+1) (Sort.swp dk (first+root) (first+(2*root+1))):=by
         refine sd_left_go ltInt dk (by omega) hL2 (by rw[←HG.out,←HG.out];exact hS)
        have hcw3:∀t,t<d.size -> (wr2.drewN nq).cell? ⟨g,off+t,none⟩=some (.int .u64 (G t)):=hcw2;have hfw3:∀t,t<d.size -> (wr2.drewN nq).frozen? ⟨g,off+t,none⟩=false:=hfw2;have HT3:=uh (HT2.out.drewN nq);have HE2:=uh (e.symm.trans HE.out);clear hcw2 hfw2 HT2 e HE;generalize wr2.drewN nq=wr3 at hcw3 hfw3 HT3 ⊢
        go_region
        go_wp2
        go_roundg (hi-(2*root+1))
        case measure=>omega
        case rel=>exact⟨2*root+1,Sort.swp dk (first+root) (first+(2*root+1)),by simp<;>omega,by omega,Nat.le_refl _,by rw[size_swp];exact hds,((HT3.out.drewN _).swp (first+root) (first+(2*root+1)) (by omega) (by omega) (HG.out _) (HG.out _)),HE2.out⟩
theorem heap64 (g off cap:Nat)(c0:Array Value)(w0:World)(d:Array Int)(X:List Blk)(a b:Nat)(w:World)(hT:Ts .u64 47 g off c0 w0 d X w)(hab:a <= b)(hb:b <= d.size)(hsz:d.size<4611686018427387904):
  Calls prog 293 #[.slice (some ⟨g,off,none⟩) d.size cap,.int .i64 a,.int .i64 b] w fun e w'=>e=.returned (.tuple #[]) /\ Ts .u64 47 g off c0 w0 (heapSort ltInt d a b) X w':=by
 have ecast:((b-a:Nat):Int)=(b:Int)-(a:Int):=by omega
 have HT:=uh hT;clear hT
 go_enter func293,ntmps293
 go_wp2
 go_loopg [9] ((b-a-1)/2+1) (fun k s9 wr=>s9=.int .i64 ((k:Int)-1) /\ k <= (b-a-1)/2+1 /\ ∃(dk:Array Int),dk.size=d.size /\ Ts .u64 47 g off c0 w0 dk X wr /\ heapBuild ltInt (b-a) a k dk=heapBuild ltInt (b-a) a ((b-a-1)/2+1) d)
 case atStart=>exact⟨by rw[half_start hab],Nat.le_refl _,d,rfl,HT.out,rfl⟩
 case round=>
  clear HT;obtain⟨rfl,hkk,dk,hds,hT,heq⟩:=hrel;have HT:=uh hT;have HE:=uh heq;clear hT heq
  cases gk with
  | zero=>
   clear hkk
   go_wp2
   go_loopg [10] (b-a) (fun k s10 wr2=>s10=.int .i64 ((k:Int)-1) /\ k <= b-a /\ ∃(dj:Array Int),dj.size=d.size /\ Ts .u64 47 g off c0 w0 dj X wr2 /\ heapPop ltInt a k dj=heapPop ltInt a (b-a) dk)
   case atStart=>exact⟨by rw[ecast],Nat.le_refl _,dk,hds,HT.out,rfl⟩
   case round=>
    clear HT;obtain⟨rfl,hkk,dj,hdj,hT2,heq2⟩:=hrel
    cases gk with
    | zero=>
     go_wp2
     go_end0
     have e:dj=heapSort ltInt d a b:=by
      have h1:=HE.out;have h2:dk=heapBuild ltInt (b-a) a ((b-a-1)/2+1) d:=h1;rw[heapSort,←h2,←heq2];rfl
     exact⟨rfl,by rw[←e];exact hT2⟩
    | succ k=>
     obtain⟨G,hG⟩:∃G:Nat -> Int,∀t,G t=dj[t]! :=⟨fun t=>dj[t]!,fun _=>rfl⟩;have hcw:∀t,t<d.size -> wr.cell? ⟨g,off+t,none⟩=some (.int .u64 (G t)):=fun t ht=>by rw[hG];exact hT2.cell t (by omega)
     have hfw:∀t,t<d.size -> wr.frozen? ⟨g,off+t,none⟩=false:=fun t _=>hT2.free t;have HT2:=uh hT2;have HG:=uh hG;have HE2:=uh heq2;have Hsw:=uh (fun x nq (hx:x=a+k)=>((hT2.drewN nq).swp a x (by omega) (by omega) (hG _) (hG _)));have Hsf:=uh (fun w' (h:Ts .u64 47 g off c0 w0 (Sort.swp dj a (a+k)) X w')=>sift64 g off cap c0 w0 _ d.size (by rw[size_swp];exact hdj) X 0 k a w' h (Nat.zero_le _) (by rw[size_swp];omega) (by rw[size_swp];omega));clear hT2 hG heq2;rcases Nat.eq_zero_or_pos k with hk0|hkp
     · subst hk0
       go_wp2_with fail
       go_region
       go_wp2_with fail
       refine(Hsf.out _ (Hsw.out _ _ rfl)).mono ?_;rintro e w1 ⟨rfl,hT3⟩
       go_wp2
       go_roundg 0
       case measure=>omega
       case rel=>exact⟨by simp,by omega,_,by rw[size_siftDown ltInt _ _ _ _ _ (Nat.le_refl _),size_swp];exact hdj,hT3,HE2.out⟩
     · go_wp2_with fail
       go_region
       go_wp2_with fail
       refine(Hsf.out _ (Hsw.out _ _ rfl)).mono ?_;rintro e w1 ⟨rfl,hT3⟩
       go_wp2
       go_roundg k
       case measure=>omega
       case rel=>exact⟨by simp,by omega,_,by rw[size_siftDown ltInt _ _ _ _ _ (Nat.le_refl _),size_swp];exact hdj,hT3,HE2.out⟩
  | succ k=>
   have Hsf:=uh (sift64 g off cap c0 w0 dk d.size hds X k (b-a) a wr HT.out (by omega) (by omega) (by omega));rw[ecast]at Hsf
   go_wp2_with fail
   refine Hsf.out.mono ?_;rintro e w1 ⟨rfl,hT3⟩
   go_wp2
   go_roundg k
   case measure=>omega
   case rel=>exact⟨by simp,by omega,_,by rw[size_siftDown ltInt _ _ _ _ _ (Nat.le_refl _)];exact hds,hT3,HE.out⟩
theorem rev64 (g off cap:Nat)(c0:Array Value)(w0:World)(d:Array Int)(X:List Blk)(a b:Nat)(w:World)(hT:Ts .u64 47 g off c0 w0 d X w)(hab:a <= b)(hb:b <= d.size)(hsz:d.size<4611686018427387904):
  Calls prog 296 #[.slice (some ⟨g,off,none⟩) d.size cap,.int .i64 a,.int .i64 b] w fun e w'=>e=.returned (.tuple #[]) /\ ∃d',PermIn a b d d' /\ Ts .u64 47 g off c0 w0 d' X w':=by
 have HT:=uh hT;clear hT
 go_enter func296,ntmps296
 go_wp2
 go_loopg [6,7] (b-a) (fun k s6 s7 wr=>∃(i:Nat) (jz:Int) (dk:Array Int),s6=.int .i64 i /\ s7=.int .i64 jz /\ a <= i /\ jz<b /\ (jz-i).toNat <= k /\ PermIn a b d dk /\ Ts .u64 47 g off c0 w0 dk X wr)
 case atStart=>exact⟨a,(b:Int)-1,d,rfl,rfl,Nat.le_refl _,by omega,by omega,permIn_refl _ _ _,HT.out⟩
 case round=>
  clear HT;obtain⟨i,jz,dk,rfl,rfl,h1,h2,hk,hP,hT⟩:=hrel;have hds:dk.size=d.size:=hP.1
  by_cases hlt:(i:Int)<jz
  · obtain⟨jn,rfl⟩:∃jn:Nat,jz=jn:=⟨jz.toNat,by omega⟩
    have hij:i<jn:=(by omega);obtain⟨x,hx⟩:∃x,dk[i]! =x:=⟨_,rfl⟩;obtain⟨y,hy⟩:∃y,dk[jn]! =y:=⟨_,rfl⟩;have ci:=hT.cell i (by omega);have cj:=hT.cell jn (by omega);have fi:=hT.free i;have fj:=hT.free jn;rw[hx]at ci;rw[hy]at cj;have HR:=uh (fun n=>(⟨permIn_trans _ _ _ a b hP (swp_permIn dk a b i jn h1 (by omega) (by omega) (by omega) (by omega)),(hT.drewN n).swp i jn (by omega) (by omega) hy.symm hx.symm⟩:PermIn a b d (Sort.swp dk i jn) /\ _));clear hP hT hx hy
    go_wp2_with fail
    go_region
    go_wp2
    go_roundg (jn-1-(i+1))
    case measure=>omega
    case rel=>exact⟨i+1,(jn:Int)-1,Sort.swp dk i jn,by simp,rfl,by omega,by omega,by omega,(HR.out 1).1,(HR.out 1).2⟩
  · go_wp2
    go_end0;exact⟨rfl,dk,hP,hT⟩
theorem parteq64 (g off cap:Nat)(c0:Array Value)(w0:World)(d:Array Int)(X:List Blk)(a b pivot:Nat)(w:World)(hT:Ts .u64 47 g off c0 w0 d X w)(hap:a <= pivot)(hpb:pivot<b)(hb:b <= d.size)(hsz:d.size<4611686018427387904):
  Calls prog 299 #[.slice (some ⟨g,off,none⟩) d.size cap,.int .i64 a,.int .i64 b,.int .i64 pivot] w fun e w'=>e=.returned (.int .i64 (partitionEqual ltInt d a b pivot).1) /\ Ts .u64 47 g off c0 w0 (partitionEqual ltInt d a b pivot).2 X w':=by
 have hla:a<d.size:=by omega
 have hlp:pivot<d.size:=by omega
 obtain⟨G,hG⟩:∃G:Nat -> Int,∀j,G j=d[j]! :=⟨fun j=>d[j]!,fun _=>rfl⟩;have ca:w.cell? ⟨g,off+a,none⟩=some (.int .u64 (G a)):=by rw[hG];exact hT.cell a hla
 have fa:=hT.free a;have cp:w.cell? ⟨g,off+pivot,none⟩=some (.int .u64 (G pivot)):=by rw[hG];exact hT.cell pivot hlp
 have fp:=hT.free pivot;obtain⟨v',hy'⟩:=cell?_setCell_some (w:=w) (p:=⟨g,off+a,none⟩) (x:=.int .u64 (G pivot)) (q:=⟨g,off+pivot,none⟩) cp;have HW:=uh ((hT.drewN 1).swp a pivot hla hlp (hG pivot) (hG a));clear hT hG
 go_enter func299,ntmps299
 go_wp2
 go_region
 go_wp2
 go_loopw [9,10] (fun vi vj wr=>∃(i j:Nat) (dk:Array Int),vi=.int .i64 i /\ vj=.int .i64 j /\ a<i /\ i <= j+1 /\ j<b /\ dk.size=d.size /\ Ts .u64 47 g off c0 w0 dk X wr /\ Hid (partEqLoop ltInt a i j dk=partEqLoop ltInt a (a+1) (b-1) (Sort.swp d a pivot)))
  (fun vi vj _=>(intOf vj).toNat+1-(intOf vi).toNat)
 case atStart=>exact⟨a+1,b-1,Sort.swp d a pivot,by go_num,by go_num,by omega,by omega,by omega,size_swp _ _ _,HW.out,rfl⟩
 case round=>
  clear ca fa cp fp hy' v' HW;obtain⟨i,j,dk,rfl,rfl,hai,hij,hjb,hs,hT0,AE⟩:=hrel;obtain⟨Gk,hG⟩:∃Gk:Nat -> Int,∀t,Gk t=dk[t]! :=⟨fun t=>dk[t]!,fun _=>rfl⟩;have AG:=uh hG;have HT:=uh hT0;clear hG hT0
  go_wp2
  go_loopw [9] (fun vi w1=>∃(i':Nat),vi=.int .i64 i' /\ i <= i' /\ i' <= j+1 /\ Ts .u64 47 g off c0 w0 dk X w1 /\ Hid (scanUp (fun x=> !ltInt dk[a]! x) dk j i'=scanUp (fun x=> !ltInt dk[a]! x) dk j i)) (fun vi _=>j+1-(intOf vi).toNat)
  case atStart=>exact⟨i,rfl,Nat.le_refl _,hij,HT.out,rfl⟩
  case round=>
   obtain⟨i',rfl,hii,hij',hT1,HSC⟩:=hrel;have hcw:∀t,t<d.size -> wr.cell? ⟨g,off+t,none⟩=some (.int .u64 (Gk t)):=fun t ht=>by rw[AG.out];exact hT1.cell t (by omega)
   have hfw:∀t,t<d.size -> wr.frozen? ⟨g,off+t,none⟩=false:=fun t _=>hT1.free t;have HT1:=uh hT1;clear hT1
   by_cases hle:i' <= j
   · go_wp2_with fail
     go_big_quiet (first|(go_at_call 298;refine Calls.quiet_of_same (less64 _ _ _)))
     go_wp2
     · have ht:(!ltInt (Gk a) (Gk i'))=true:=by assumption
       go_roundw
       case rel=>exact⟨i'+1,by go_num,by omega,by omega,HT1.out.drewN nq,(scanUp_go (fun x=> !ltInt dk[a]! x) dk j i' hle (by rw[←AG.out a,←AG.out i'];exact ht)).symm.trans HSC.out⟩
       case measure=>simp[intOf];omega
     · have ht:(!ltInt (Gk a) (Gk i'))=false:=by assumption
       have hi2:Hid (i'=scanUp (fun x=> !ltInt dk[a]! x) dk j i):=(scanUp_end (fun x=> !ltInt dk[a]! x) dk j i' (Or.inr (by rw[←AG.out a,←AG.out i'];exact ht))).symm.trans HSC.out;have HT2:=uh (HT1.out.drewN nq);clear ht hcw hfw HT1 HSC HT;generalize wr.drewN nq=wd at HT2 ⊢
       go_loopw [10] (fun vj w2=>∃(j':Nat),vj=.int .i64 j' /\ j' <= j /\ i' <= j'+1 /\ Ts .u64 47 g off c0 w0 dk X w2 /\ Hid (scanDown (fun x=>ltInt dk[a]! x) dk i' j'=scanDown (fun x=>ltInt dk[a]! x) dk i' j)) (fun vj _=>(intOf vj).toNat)
       case atStart=>exact⟨j,rfl,Nat.le_refl _,hij',HT2.out,rfl⟩
       case round=>
        clear HT2;obtain⟨j',rfl,hjj,hij2,hT1,HSD⟩:=hrel;have hcw:∀t,t<d.size -> wr.cell? ⟨g,off+t,none⟩=some (.int .u64 (Gk t)):=fun t ht=>by rw[AG.out];exact hT1.cell t (by omega)
        have hfw:∀t,t<d.size -> wr.frozen? ⟨g,off+t,none⟩=false:=fun t _=>hT1.free t;have HT1:=uh hT1;clear hT1
        by_cases hle2:i' <= j'
        · go_wp2_with fail
          go_big_quiet (first|(go_at_call 298;refine Calls.quiet_of_same (less64 _ _ _)))
          go_wp2
          · have ht:ltInt (Gk a) (Gk j')=true:=by assumption
            go_roundw
            case rel=>exact⟨j'-1,by go_num,by omega,by omega,HT1.out.drewN nq,(scanDown_go (fun x=>ltInt dk[a]! x) dk i' j' hle2 (by omega) (by rw[←AG.out a,←AG.out j'];exact ht)).symm.trans HSD.out⟩
            case measure=>simp[intOf];omega
          · have ht:ltInt (Gk a) (Gk j')=false:=by assumption
            have hj2:Hid (j'=scanDown (fun x=>ltInt dk[a]! x) dk i' j):=(scanDown_end (fun x=>ltInt dk[a]! x) dk i' j' (Or.inr (by rw[←AG.out a,←AG.out j'];exact ht))).symm.trans HSD.out;have HT3:=uh (HT1.out.drewN nq);clear ht hcw hfw HT1 HSD;generalize wr.drewN nq=W3 at HT3 ⊢;have hc3:∀t,t<d.size -> W3.cell? ⟨g,off+t,none⟩=some (.int .u64 (Gk t)):=fun t ht=>by rw[AG.out];exact HT3.out.cell t (by omega)
            have hf3:∀t,t<d.size -> W3.frozen? ⟨g,off+t,none⟩=false:=fun t _=>HT3.out.free t;obtain⟨v3,hy3⟩:=cell?_setCell_some (w:=W3) (p:=⟨g,off+i',none⟩) (x:=.int .u64 (Gk j')) (q:=⟨g,off+j',none⟩) (hc3 j' (by omega));have hlt3:=scans_lt ltInt a i j dk (by omega) hi2.out hj2.out hle2
            go_wp2
            go_region
            all_goals go_wp2
            all_goals go_roundw
            case rel=>exact⟨i'+1,j'-1,Sort.swp dk i' j',by go_num,by go_num,by omega,by omega,by omega,by rw[size_swp];exact hs,(HT3.out.drewN 1).swp i' j' (by omega) (by omega) (AG.out _) (AG.out _),by show _=_;rw[←AE.out];exact(partEq_go ltInt a i j dk hi2.out hj2.out (by omega)).symm⟩
            case measure=>simp[intOf];omega
        · go_wp2_with fail
          go_big_quiet (first|(go_at_call 298;refine Calls.quiet_of_same (less64 _ _ _)))
          have hj2:Hid (j'=scanDown (fun x=>ltInt dk[a]! x) dk i' j):=(scanDown_end (fun x=>ltInt dk[a]! x) dk i' j' (Or.inl hle2)).symm.trans HSD.out;have HT3:=uh (HT1.out.drewN nq);clear hcw hfw HT1 HSD;generalize wr.drewN nq=W3 at HT3 ⊢;have hc3:∀t,t<d.size -> W3.cell? ⟨g,off+t,none⟩=some (.int .u64 (Gk t)):=fun t ht=>by rw[AG.out];exact HT3.out.cell t (by omega)
          have hf3:∀t,t<d.size -> W3.frozen? ⟨g,off+t,none⟩=false:=fun t _=>HT3.out.free t
          go_wp2
          go_ret;have e:=partEq_break ltInt a i j dk hi2.out hj2.out (by omega);exact⟨by unfold partitionEqual;rw[←AE.out,e];rfl,by unfold partitionEqual;rw[←AE.out,e];exact HT3.out⟩
   · go_wp2_with fail
     go_big_quiet (first|(go_at_call 298;refine Calls.quiet_of_same (less64 _ _ _)))
     go_wp2
     have hi2:Hid (i'=scanUp (fun x=> !ltInt dk[a]! x) dk j i):=(scanUp_end (fun x=> !ltInt dk[a]! x) dk j i' (Or.inl hle)).symm.trans HSC.out;have HT2:=uh (HT1.out.drewN nq);clear hcw hfw HT1 HSC HT;generalize wr.drewN nq=wd at HT2 ⊢
     go_loopw [10] (fun vj w2=>∃(j':Nat),vj=.int .i64 j' /\ j' <= j /\ i' <= j'+1 /\ Ts .u64 47 g off c0 w0 dk X w2 /\ Hid (scanDown (fun x=>ltInt dk[a]! x) dk i' j'=scanDown (fun x=>ltInt dk[a]! x) dk i' j)) (fun vj _=>(intOf vj).toNat)
     case atStart=>exact⟨j,rfl,Nat.le_refl _,hij',HT2.out,rfl⟩
     case round=>
      clear HT2;obtain⟨j',rfl,hjj,hij2,hT1,HSD⟩:=hrel;have hcw:∀t,t<d.size -> wr.cell? ⟨g,off+t,none⟩=some (.int .u64 (Gk t)):=fun t ht=>by rw[AG.out];exact hT1.cell t (by omega)
      have hfw:∀t,t<d.size -> wr.frozen? ⟨g,off+t,none⟩=false:=fun t _=>hT1.free t;have HT1:=uh hT1;clear hT1
      by_cases hle2:i' <= j'
      ·exfalso;omega
      · go_wp2_with fail
        go_big_quiet (first|(go_at_call 298;refine Calls.quiet_of_same (less64 _ _ _)))
        have hj2:Hid (j'=scanDown (fun x=>ltInt dk[a]! x) dk i' j):=(scanDown_end (fun x=>ltInt dk[a]! x) dk i' j' (Or.inl hle2)).symm.trans HSD.out;have HT3:=uh (HT1.out.drewN nq);clear hcw hfw HT1 HSD;generalize wr.drewN nq=W3 at HT3 ⊢;have hc3:∀t,t<d.size -> W3.cell? ⟨g,off+t,none⟩=some (.int .u64 (Gk t)):=fun t ht=>by rw[AG.out];exact HT3.out.cell t (by omega)
        have hf3:∀t,t<d.size -> W3.frozen? ⟨g,off+t,none⟩=false:=fun t _=>HT3.out.free t
        go_wp2
        go_ret;have e:=partEq_break ltInt a i j dk hi2.out hj2.out (by omega);exact⟨by unfold partitionEqual;rw[←AE.out,e];rfl,by unfold partitionEqual;rw[←AE.out,e];exact HT3.out⟩
theorem part64 (g off cap:Nat)(c0:Array Value)(w0:World)(d:Array Int)(X:List Blk)(a b pivot:Nat)(w:World)(hT:Ts .u64 47 g off c0 w0 d X w)(hap:a <= pivot)(hpb:pivot<b)(hb:b <= d.size)(hsz:d.size<4611686018427387904):
  Calls prog 300 #[.slice (some ⟨g,off,none⟩) d.size cap,.int .i64 a,.int .i64 b,.int .i64 pivot] w fun e w'=>e=.returned (.tuple #[.int .i64 (partition ltInt d a b pivot).1,.bool (partition ltInt d a b pivot).2.1]) /\ Ts .u64 47 g off c0 w0 (partition ltInt d a b pivot).2.2 X w':=by
 have hla:a<d.size:=by omega
 have hlp:pivot<d.size:=by omega
 obtain⟨G,hG⟩:∃G:Nat -> Int,∀j,G j=d[j]! :=⟨fun j=>d[j]!,fun _=>rfl⟩;have ca:w.cell? ⟨g,off+a,none⟩=some (.int .u64 (G a)):=by rw[hG];exact hT.cell a hla
 have fa:=hT.free a;have cp:w.cell? ⟨g,off+pivot,none⟩=some (.int .u64 (G pivot)):=by rw[hG];exact hT.cell pivot hlp
 have fp:=hT.free pivot;obtain⟨v',hy'⟩:=cell?_setCell_some (w:=w) (p:=⟨g,off+a,none⟩) (x:=.int .u64 (G pivot)) (q:=⟨g,off+pivot,none⟩) cp;have HW:=uh ((hT.drewN 1).swp a pivot hla hlp (hG pivot) (hG a));clear hT hG
 go_enter func300,ntmps300
 go_wp2
 go_region
 go_wp2
 clear ca fa cp fp hy' v';have hT0:=HW.out;clear HW;have hT0':Ts .u64 47 g off c0 w0 (Sort.swp d a pivot) X (((w.setCell ⟨g,off+a,none⟩ (.int .u64 (G pivot))).setCell ⟨g,off+pivot,none⟩ (.int .u64 (G a))).drew):=hT0;clear hT0;generalize((w.setCell ⟨g,off+a,none⟩ (.int .u64 (G pivot))).setCell ⟨g,off+pivot,none⟩ (.int .u64 (G a))).drew=W1 at hT0' ⊢;obtain⟨dk,hdk⟩:∃dk,dk=Sort.swp d a pivot:=⟨_,rfl⟩;rw[←hdk]at hT0';have hs:dk.size=d.size:=by rw[hdk,size_swp]
 have e1:((a:Int)+1)=((a+1:Nat):Int):=by omega
 have e2:((b:Int)-1)=((b-1:Nat):Int):=by omega
 rw[e1,e2];clear e1 e2;obtain⟨i,hi⟩:∃i,i=a+1:=⟨_,rfl⟩;obtain⟨j,hj⟩:∃j,j=b-1:=⟨_,rfl⟩;rw[←hi,←hj];have hai:a<i:=by omega
 have hij:i <= j+1:=by omega
 have hjb:j<b:=by omega
 have HI:=uh hi;have HJ:=uh hj;have HDK:=uh hdk;clear hi hj hdk;obtain⟨Gk,hG⟩:∃Gk:Nat -> Int,∀t,Gk t=dk[t]! :=⟨fun t=>dk[t]!,fun _=>rfl⟩;have AG:=uh hG;have HT:=uh hT0';clear hG hT0'
 go_loopw [10] (fun vi w1=>∃(i':Nat),vi=.int .i64 i' /\ i <= i' /\ i' <= j+1 /\ Ts .u64 47 g off c0 w0 dk X w1 /\ Hid (scanUp (fun x=>ltInt x dk[a]!) dk j i'=scanUp (fun x=>ltInt x dk[a]!) dk j i)) (fun vi _=>j+1-(intOf vi).toNat)
 case atStart=>exact⟨i,rfl,Nat.le_refl _,hij,HT.out,rfl⟩
 case round=>
  obtain⟨i',rfl,hii,hij',hT1,HSC⟩:=hrel;have hcw:∀t,t<d.size -> wr.cell? ⟨g,off+t,none⟩=some (.int .u64 (Gk t)):=fun t ht=>by rw[AG.out];exact hT1.cell t (by omega)
  have hfw:∀t,t<d.size -> wr.frozen? ⟨g,off+t,none⟩=false:=fun t _=>hT1.free t;have HT1:=uh hT1;clear hT1
  by_cases hle:i' <= j
  · go_wp2_with fail
    go_big_quiet (first|(go_at_call 298;refine Calls.quiet_of_same (less64 _ _ _)))
    go_wp2
    · have ht:ltInt (Gk i') (Gk a)=true:=by assumption
      go_roundw
      case rel=>exact⟨i'+1,by go_num,by omega,by omega,HT1.out.drewN nq,(scanUp_go (fun x=>ltInt x dk[a]!) dk j i' hle (by rw[←AG.out a,←AG.out i'];exact ht)).symm.trans HSC.out⟩
      case measure=>simp[intOf];omega
    · have ht:ltInt (Gk i') (Gk a)=false:=by assumption
      have hi2:Hid (i'=scanUp (fun x=>ltInt x dk[a]!) dk j i):=(scanUp_end (fun x=>ltInt x dk[a]!) dk j i' (Or.inr (by rw[←AG.out a,←AG.out i'];exact ht))).symm.trans HSC.out;have HT2:=uh (HT1.out.drewN nq);clear ht hcw hfw HT1 HSC HT;generalize wr.drewN nq=wd at HT2 ⊢
      go_loopw [11] (fun vj w2=>∃(j':Nat),vj=.int .i64 j' /\ j' <= j /\ i' <= j'+1 /\ Ts .u64 47 g off c0 w0 dk X w2 /\ Hid (scanDown (fun x=> !ltInt x dk[a]!) dk i' j'=scanDown (fun x=> !ltInt x dk[a]!) dk i' j)) (fun vj _=>(intOf vj).toNat)
      case atStart=>exact⟨j,rfl,Nat.le_refl _,hij',HT2.out,rfl⟩
      case round=>
       clear HT2;obtain⟨j',rfl,hjj,hij2,hT1,HSD⟩:=hrel;have hcw:∀t,t<d.size -> wr.cell? ⟨g,off+t,none⟩=some (.int .u64 (Gk t)):=fun t ht=>by rw[AG.out];exact hT1.cell t (by omega)
       have hfw:∀t,t<d.size -> wr.frozen? ⟨g,off+t,none⟩=false:=fun t _=>hT1.free t;have HT1:=uh hT1;clear hT1
       by_cases hle2:i' <= j'
       · go_wp2_with fail
         go_big_quiet (first|(go_at_call 298;refine Calls.quiet_of_same (less64 _ _ _)))
         go_wp2
         · have ht:(!ltInt (Gk j') (Gk a))=true:=by assumption
           go_roundw
           case rel=>exact⟨j'-1,by go_num,by omega,by omega,HT1.out.drewN nq,(scanDown_go (fun x=> !ltInt x dk[a]!) dk i' j' hle2 (by omega) (by rw[←AG.out a,←AG.out j'];exact ht)).symm.trans HSD.out⟩
           case measure=>simp[intOf];omega
         · have ht:(!ltInt (Gk j') (Gk a))=false:=by assumption
           have hj2:Hid (j'=scanDown (fun x=> !ltInt x dk[a]!) dk i' j):=(scanDown_end (fun x=> !ltInt x dk[a]!) dk i' j' (Or.inr (by rw[←AG.out a,←AG.out j'];exact ht))).symm.trans HSD.out;have HT3:=uh (HT1.out.drewN nq);clear ht hcw hfw HT1 HSD;generalize wr.drewN nq=W3 at HT3 ⊢;have hc3:∀t,t<d.size -> W3.cell? ⟨g,off+t,none⟩=some (.int .u64 (Gk t)):=fun t ht=>by rw[AG.out];exact HT3.out.cell t (by omega)
           have hf3:∀t,t<d.size -> W3.frozen? ⟨g,off+t,none⟩=false:=fun t _=>HT3.out.free t;obtain⟨v3,hy3⟩:=cell?_setCell_some (w:=W3) (p:=⟨g,off+i',none⟩) (x:=.int .u64 (Gk j')) (q:=⟨g,off+j',none⟩) (hc3 j' (by omega));have hlt3:=part_scans_lt ltInt a i j dk (by omega) hi2.out hj2.out hle2;have HW4:=uh ((HT3.out.drewN 1).swp i' j' (by omega) (by omega) (AG.out j') (AG.out i'))
           go_wp2
           go_region
           all_goals go_wp2
           obtain⟨R,hR⟩:∃R,R=partLoop ltInt a (i'+1) (j'-1) (Sort.swp dk i' j'):=⟨_,rfl⟩;have HP:Hid (partition ltInt d a b pivot=(R.1,false,Sort.swp R.2 R.1 a)):=(by rw[hR];exact part_first_go ltInt d a b pivot HI.out HJ.out HDK.out hi2.out hj2.out (by omega));have HR:=uh hR;clear hR hc3 hf3 hy3 AG hi2 hj2 HT3
           go_loopw [10,11] (fun vi vj wr=>∃(i j:Nat) (dk:Array Int),vi=.int .i64 i /\ vj=.int .i64 j /\ a<i /\ i <= j+1 /\ j<b /\ dk.size=d.size /\ Ts .u64 47 g off c0 w0 dk X wr /\ Hid (partLoop ltInt a i j dk=R))
            (fun vi vj _=>(intOf vj).toNat+1-(intOf vi).toNat)
           case atStart=>exact⟨i'+1,j'-1,Sort.swp dk i' j',by go_num,by go_num,by omega,by omega,by omega,by rw[size_swp];exact hs,HW4.out,HR.out.symm⟩
           case round=>
            clear HW4 HR;obtain⟨i,j,dk,rfl,rfl,hai,hij,hjb,hs,hT0,AE⟩:=hrel;obtain⟨Gk,hG⟩:∃Gk:Nat -> Int,∀t,Gk t=dk[t]! :=⟨fun t=>dk[t]!,fun _=>rfl⟩;have AG:=uh hG;have HT:=uh hT0;clear hG hT0
            go_wp2
            go_loopw [10] (fun vi w1=>∃(i':Nat),vi=.int .i64 i' /\ i <= i' /\ i' <= j+1 /\ Ts .u64 47 g off c0 w0 dk X w1 /\ Hid (scanUp (fun x=>ltInt x dk[a]!) dk j i'=scanUp (fun x=>ltInt x dk[a]!) dk j i)) (fun vi _=>j+1-(intOf vi).toNat)
            case atStart=>exact⟨i,rfl,Nat.le_refl _,hij,HT.out,rfl⟩
            case round=>
             obtain⟨i',rfl,hii,hij',hT1,HSC⟩:=hrel;have hcw:∀t,t<d.size -> wr.cell? ⟨g,off+t,none⟩=some (.int .u64 (Gk t)):=fun t ht=>by rw[AG.out];exact hT1.cell t (by omega)
             have hfw:∀t,t<d.size -> wr.frozen? ⟨g,off+t,none⟩=false:=fun t _=>hT1.free t;have HT1:=uh hT1;clear hT1
             by_cases hle:i' <= j
             · go_wp2_with fail
               go_big_quiet (first|(go_at_call 298;refine Calls.quiet_of_same (less64 _ _ _)))
               go_wp2
               · have ht:ltInt (Gk i') (Gk a)=true:=by assumption
                 go_roundw
                 case rel=>exact⟨i'+1,by go_num,by omega,by omega,HT1.out.drewN nq,(scanUp_go (fun x=>ltInt x dk[a]!) dk j i' hle (by rw[←AG.out a,←AG.out i'];exact ht)).symm.trans HSC.out⟩
                 case measure=>simp[intOf];omega
               · have ht:ltInt (Gk i') (Gk a)=false:=by assumption
                 have hi2:Hid (i'=scanUp (fun x=>ltInt x dk[a]!) dk j i):=(scanUp_end (fun x=>ltInt x dk[a]!) dk j i' (Or.inr (by rw[←AG.out a,←AG.out i'];exact ht))).symm.trans HSC.out;have HT2:=uh (HT1.out.drewN nq);clear ht hcw hfw HT1 HSC HT;generalize wr.drewN nq=wd at HT2 ⊢
                 go_loopw [11] (fun vj w2=>∃(j':Nat),vj=.int .i64 j' /\ j' <= j /\ i' <= j'+1 /\ Ts .u64 47 g off c0 w0 dk X w2 /\ Hid (scanDown (fun x=> !ltInt x dk[a]!) dk i' j'=scanDown (fun x=> !ltInt x dk[a]!) dk i' j)) (fun vj _=>(intOf vj).toNat)
                 case atStart=>exact⟨j,rfl,Nat.le_refl _,hij',HT2.out,rfl⟩
                 case round=>
                  clear HT2;obtain⟨j',rfl,hjj,hij2,hT1,HSD⟩:=hrel;have hcw:∀t,t<d.size -> wr.cell? ⟨g,off+t,none⟩=some (.int .u64 (Gk t)):=fun t ht=>by rw[AG.out];exact hT1.cell t (by omega)
                  have hfw:∀t,t<d.size -> wr.frozen? ⟨g,off+t,none⟩=false:=fun t _=>hT1.free t;have HT1:=uh hT1;clear hT1
                  by_cases hle2:i' <= j'
                  · go_wp2_with fail
                    go_big_quiet (first|(go_at_call 298;refine Calls.quiet_of_same (less64 _ _ _)))
                    go_wp2
                    · have ht:(!ltInt (Gk j') (Gk a))=true:=by assumption
                      go_roundw
                      case rel=>exact⟨j'-1,by go_num,by omega,by omega,HT1.out.drewN nq,(scanDown_go (fun x=> !ltInt x dk[a]!) dk i' j' hle2 (by omega) (by rw[←AG.out a,←AG.out j'];exact ht)).symm.trans HSD.out⟩
                      case measure=>simp[intOf];omega
                    · have ht:(!ltInt (Gk j') (Gk a))=false:=by assumption
                      have hj2:Hid (j'=scanDown (fun x=> !ltInt x dk[a]!) dk i' j):=(scanDown_end (fun x=> !ltInt x dk[a]!) dk i' j' (Or.inr (by rw[←AG.out a,←AG.out j'];exact ht))).symm.trans HSD.out;have HT3:=uh (HT1.out.drewN nq);clear ht hcw hfw HT1 HSD;generalize wr.drewN nq=W3 at HT3 ⊢;have hc3:∀t,t<d.size -> W3.cell? ⟨g,off+t,none⟩=some (.int .u64 (Gk t)):=fun t ht=>by rw[AG.out];exact HT3.out.cell t (by omega)
                      have hf3:∀t,t<d.size -> W3.frozen? ⟨g,off+t,none⟩=false:=fun t _=>HT3.out.free t;obtain⟨v3,hy3⟩:=cell?_setCell_some (w:=W3) (p:=⟨g,off+i',none⟩) (x:=.int .u64 (Gk j')) (q:=⟨g,off+j',none⟩) (hc3 j' (by omega));have hlt3:=part_scans_lt ltInt a i j dk (by omega) hi2.out hj2.out hle2
                      go_wp2
                      go_region
                      all_goals go_wp2
                      all_goals go_roundw
                      case rel=>exact⟨i'+1,j'-1,Sort.swp dk i' j',by go_num,by go_num,by omega,by omega,by omega,by rw[size_swp];exact hs,(HT3.out.drewN 1).swp i' j' (by omega) (by omega) (AG.out _) (AG.out _),by show _=_;rw[←AE.out];exact(part_go ltInt a i j dk hi2.out hj2.out (by omega)).symm⟩
                      case measure=>simp[intOf];omega
                  · go_wp2_with fail
                    go_big_quiet (first|(go_at_call 298;refine Calls.quiet_of_same (less64 _ _ _)))
                    have hj2:Hid (j'=scanDown (fun x=> !ltInt x dk[a]!) dk i' j):=(scanDown_end (fun x=> !ltInt x dk[a]!) dk i' j' (Or.inl hle2)).symm.trans HSD.out;have HT3:=uh (HT1.out.drewN nq);clear hcw hfw HT1 HSD;generalize wr.drewN nq=W3 at HT3 ⊢;have hc3:∀t,t<d.size -> W3.cell? ⟨g,off+t,none⟩=some (.int .u64 (Gk t)):=fun t ht=>by rw[AG.out];exact HT3.out.cell t (by omega)
                    have hf3:∀t,t<d.size -> W3.frozen? ⟨g,off+t,none⟩=false:=fun t _=>HT3.out.free t;obtain⟨v3,hy3⟩:=cell?_setCell_some (w:=W3) (p:=⟨g,off+j',none⟩) (x:=.int .u64 (Gk a)) (q:=⟨g,off+a,none⟩) (hc3 a (by omega));have HP2:=uh (by have e:=part_break ltInt a i j dk hi2.out hj2.out (by omega);rw[AE.out]at e;have h:=HP.out;rw[e]at h;exact h:partition ltInt d a b pivot=(j',false,Sort.swp dk j' a));have HW3:=uh ((HT3.out.drewN 1).swp j' a (by omega) (by omega) (AG.out a) (AG.out j'))
                    go_wp2
                    go_region
                    all_goals go_wp2
                    refine bodyPost_ret (results_tmp2 rfl _ _ _) rfl ?_;exact⟨by rw[HP2.out]<;>rfl,by rw[HP2.out];exact HW3.out⟩
             · go_wp2_with fail
               go_big_quiet (first|(go_at_call 298;refine Calls.quiet_of_same (less64 _ _ _)))
               go_wp2
               have hi2:Hid (i'=scanUp (fun x=>ltInt x dk[a]!) dk j i):=(scanUp_end (fun x=>ltInt x dk[a]!) dk j i' (Or.inl hle)).symm.trans HSC.out;have HT2:=uh (HT1.out.drewN nq);clear hcw hfw HT1 HSC HT;generalize wr.drewN nq=wd at HT2 ⊢
               go_loopw [11] (fun vj w2=>∃(j':Nat),vj=.int .i64 j' /\ j' <= j /\ i' <= j'+1 /\ Ts .u64 47 g off c0 w0 dk X w2 /\ Hid (scanDown (fun x=> !ltInt x dk[a]!) dk i' j'=scanDown (fun x=> !ltInt x dk[a]!) dk i' j)) (fun vj _=>(intOf vj).toNat)
               case atStart=>exact⟨j,rfl,Nat.le_refl _,hij',HT2.out,rfl⟩
               case round=>
                clear HT2;obtain⟨j',rfl,hjj,hij2,hT1,HSD⟩:=hrel;have hcw:∀t,t<d.size -> wr.cell? ⟨g,off+t,none⟩=some (.int .u64 (Gk t)):=fun t ht=>by rw[AG.out];exact hT1.cell t (by omega)
                have hfw:∀t,t<d.size -> wr.frozen? ⟨g,off+t,none⟩=false:=fun t _=>hT1.free t;have HT1:=uh hT1;clear hT1
                by_cases hle2:i' <= j'
                ·exfalso;omega
                · go_wp2_with fail
                  go_big_quiet (first|(go_at_call 298;refine Calls.quiet_of_same (less64 _ _ _)))
                  have hj2:Hid (j'=scanDown (fun x=> !ltInt x dk[a]!) dk i' j):=(scanDown_end (fun x=> !ltInt x dk[a]!) dk i' j' (Or.inl hle2)).symm.trans HSD.out;have HT3:=uh (HT1.out.drewN nq);clear hcw hfw HT1 HSD;generalize wr.drewN nq=W3 at HT3 ⊢;have hc3:∀t,t<d.size -> W3.cell? ⟨g,off+t,none⟩=some (.int .u64 (Gk t)):=fun t ht=>by rw[AG.out];exact HT3.out.cell t (by omega)
                  have hf3:∀t,t<d.size -> W3.frozen? ⟨g,off+t,none⟩=false:=fun t _=>HT3.out.free t;obtain⟨v3,hy3⟩:=cell?_setCell_some (w:=W3) (p:=⟨g,off+j',none⟩) (x:=.int .u64 (Gk a)) (q:=⟨g,off+a,none⟩) (hc3 a (by omega));have HP2:=uh (by have e:=part_break ltInt a i j dk hi2.out hj2.out (by omega);rw[AE.out]at e;have h:=HP.out;rw[e]at h;exact h:partition ltInt d a b pivot=(j',false,Sort.swp dk j' a));have HW3:=uh ((HT3.out.drewN 1).swp j' a (by omega) (by omega) (AG.out a) (AG.out j'))
                  go_wp2
                  go_region
                  all_goals go_wp2
                  refine bodyPost_ret (results_tmp2 rfl _ _ _) rfl ?_;exact⟨by rw[HP2.out]<;>rfl,by rw[HP2.out];exact HW3.out⟩
       · go_wp2_with fail
         go_big_quiet (first|(go_at_call 298;refine Calls.quiet_of_same (less64 _ _ _)))
         have hj2:Hid (j'=scanDown (fun x=> !ltInt x dk[a]!) dk i' j):=(scanDown_end (fun x=> !ltInt x dk[a]!) dk i' j' (Or.inl hle2)).symm.trans HSD.out;have HT3:=uh (HT1.out.drewN nq);clear hcw hfw HT1 HSD;generalize wr.drewN nq=W3 at HT3 ⊢;have hc3:∀t,t<d.size -> W3.cell? ⟨g,off+t,none⟩=some (.int .u64 (Gk t)):=fun t ht=>by rw[AG.out];exact HT3.out.cell t (by omega)
         have hf3:∀t,t<d.size -> W3.frozen? ⟨g,off+t,none⟩=false:=fun t _=>HT3.out.free t;obtain⟨v3,hy3⟩:=cell?_setCell_some (w:=W3) (p:=⟨g,off+j',none⟩) (x:=.int .u64 (Gk a)) (q:=⟨g,off+a,none⟩) (hc3 a (by omega));have HP:=uh (part_first_break ltInt d a b pivot HI.out HJ.out HDK.out hi2.out hj2.out (by omega));have HW3:=uh ((HT3.out.drewN 1).swp j' a (by omega) (by omega) (AG.out a) (AG.out j'))
         go_wp2
         go_region
         all_goals go_wp2
         refine bodyPost_ret (results_tmp2 rfl _ _ _) rfl ?_;exact⟨by rw[HP.out]<;>rfl,by rw[HP.out];exact HW3.out⟩
  · go_wp2_with fail
    go_big_quiet (first|(go_at_call 298;refine Calls.quiet_of_same (less64 _ _ _)))
    go_wp2
    have hi2:Hid (i'=scanUp (fun x=>ltInt x dk[a]!) dk j i):=(scanUp_end (fun x=>ltInt x dk[a]!) dk j i' (Or.inl hle)).symm.trans HSC.out;have HT2:=uh (HT1.out.drewN nq);clear hcw hfw HT1 HSC HT;generalize wr.drewN nq=wd at HT2 ⊢
    go_loopw [11] (fun vj w2=>∃(j':Nat),vj=.int .i64 j' /\ j' <= j /\ i' <= j'+1 /\ Ts .u64 47 g off c0 w0 dk X w2 /\ Hid (scanDown (fun x=> !ltInt x dk[a]!) dk i' j'=scanDown (fun x=> !ltInt x dk[a]!) dk i' j)) (fun vj _=>(intOf vj).toNat)
    case atStart=>exact⟨j,rfl,Nat.le_refl _,hij',HT2.out,rfl⟩
    case round=>
     clear HT2;obtain⟨j',rfl,hjj,hij2,hT1,HSD⟩:=hrel;have hcw:∀t,t<d.size -> wr.cell? ⟨g,off+t,none⟩=some (.int .u64 (Gk t)):=fun t ht=>by rw[AG.out];exact hT1.cell t (by omega)
     have hfw:∀t,t<d.size -> wr.frozen? ⟨g,off+t,none⟩=false:=fun t _=>hT1.free t;have HT1:=uh hT1;clear hT1
     by_cases hle2:i' <= j'
     ·exfalso;omega
     · go_wp2_with fail
       go_big_quiet (first|(go_at_call 298;refine Calls.quiet_of_same (less64 _ _ _)))
       have hj2:Hid (j'=scanDown (fun x=> !ltInt x dk[a]!) dk i' j):=(scanDown_end (fun x=> !ltInt x dk[a]!) dk i' j' (Or.inl hle2)).symm.trans HSD.out;have HT3:=uh (HT1.out.drewN nq);clear hcw hfw HT1 HSD;generalize wr.drewN nq=W3 at HT3 ⊢;have hc3:∀t,t<d.size -> W3.cell? ⟨g,off+t,none⟩=some (.int .u64 (Gk t)):=fun t ht=>by rw[AG.out];exact HT3.out.cell t (by omega)
       have hf3:∀t,t<d.size -> W3.frozen? ⟨g,off+t,none⟩=false:=fun t _=>HT3.out.free t;obtain⟨v3,hy3⟩:=cell?_setCell_some (w:=W3) (p:=⟨g,off+j',none⟩) (x:=.int .u64 (Gk a)) (q:=⟨g,off+a,none⟩) (hc3 a (by omega));have HP:=uh (part_first_break ltInt d a b pivot HI.out HJ.out HDK.out hi2.out hj2.out (by omega));have HW3:=uh ((HT3.out.drewN 1).swp j' a (by omega) (by omega) (AG.out a) (AG.out j'))
       go_wp2
       go_region
       all_goals go_wp2
       refine bodyPost_ret (results_tmp2 rfl _ _ _) rfl ?_;exact⟨by rw[HP.out]<;>rfl,by rw[HP.out];exact HW3.out⟩
theorem ord264 (g off cap sb a b s:Nat)(c0:Array Value)(w0:World)(d:Array Int)(X:List Blk)(t:TypeId)(w:World)(hT:Ts .u64 47 g off c0 w0 d ((sb,.cells #[.int .i64 s] t (0,0))::X) w)(ha:a<d.size)(hb:b<d.size)(hs:s<4611686018427387904):
  Calls prog 307 #[.slice (some ⟨g,off,none⟩) d.size cap,.int .i64 a,.int .i64 b,pt sb] w fun e w'=>∃x y s':Nat,e=.returned (.tuple #[.int .i64 x,.int .i64 y]) /\ (x=a /\ y=b∨x=b /\ y=a) /\ s' <= s+1 /\ Ts .u64 47 g off c0 w0 d ((sb,.cells #[.int .i64 s'] t (0,0))::X) w':=by
 have ca:=hT.cell a ha;have cb:=hT.cell b hb;obtain⟨x,hx⟩:∃x,d[a]! =x:=⟨_,rfl⟩;obtain⟨y,hy⟩:∃y,d[b]! =y:=⟨_,rfl⟩;rw[hx]at ca;rw[hy]at cb;have cs:w.cell? ⟨sb,0,none⟩=some (.int .i64 s):=by simpa using hT.xcell (List.mem_cons_self ..) 0
 have fs:w.frozen? ⟨sb,0,none⟩=false:=hT.xfree (List.mem_cons_self ..) 0;have HT:=uh hT;have HT1:=uh ((hT.drewN 1).xset 0 (.int .i64 ((s+1:Nat):Int)));clear hT hx hy
 go_enter func307,ntmps307
 go_wp2
 go_region_with (go_at_call 298;refine(less64 _ _ _).mono ?_;rintro e w' ⟨rfl,rfl⟩)
 all_goals (try go_wp2)
 all_goals first
  | (have hlt:ltInt y x=true:=by assumption
     go_ret2;exact⟨b,a,s+1,rfl,.inr ⟨rfl,rfl⟩,Nat.le_refl _,HT1.out⟩)
  | (have hlt:ltInt y x=false:=by assumption
     go_ret2;exact⟨a,b,s,rfl,.inl ⟨rfl,rfl⟩,by omega,HT.out.drewN 1⟩)
theorem med64 (g off cap sb a b c s:Nat)(c0:Array Value)(w0:World)(d:Array Int)(X:List Blk)(t:TypeId)(w:World)(hT:Ts .u64 47 g off c0 w0 d ((sb,.cells #[.int .i64 s] t (0,0))::X) w)(ha:a<d.size)(hb:b<d.size)(hc:c<d.size)(hs:s+3<4611686018427387904):
  Calls prog 305 #[.slice (some ⟨g,off,none⟩) d.size cap,.int .i64 a,.int .i64 b,.int .i64 c,pt sb] w fun e w'=>∃x s':Nat,e=.returned (.int .i64 x) /\ (x=a∨x=b∨x=c) /\ s' <= s+3 /\ Ts .u64 47 g off c0 w0 d ((sb,.cells #[.int .i64 s'] t (0,0))::X) w':=by
 have C1:=uh (ord264 g off cap sb a b s c0 w0 d X t w hT ha hb (by omega));clear hT
 go_enter func305,ntmps305
 go_wp2_with fail
 refine C1.out.mono ?_;rintro _ w1 ⟨x1,y1,s1,rfl,h1,l1,hT1⟩;have C2:=uh (ord264 g off cap sb y1 c s1 c0 w0 d X t w1 hT1 (by omega) hc (by omega));clear hT1 C1
 go_wp2_with fail
 refine C2.out.mono ?_;rintro _ w2 ⟨x2,y2,s2,rfl,h2,l2,hT2⟩;have C3:=uh (ord264 g off cap sb x1 x2 s2 c0 w0 d X t w2 hT2 (by omega) (by omega) (by omega));clear hT2 C2
 go_wp2_with fail
 refine C3.out.mono ?_;rintro _ w3 ⟨x3,y3,s3,rfl,h3,l3,hT3⟩;have HT3:=uh hT3;clear hT3 C3
 go_wp2_with fail
 go_ret;exact⟨y3,s3,rfl,by omega,by omega,HT3.out⟩
theorem adj64 (g off cap sb a s:Nat)(c0:Array Value)(w0:World)(d:Array Int)(X:List Blk)(t:TypeId)(w:World)(hT:Ts .u64 47 g off c0 w0 d ((sb,.cells #[.int .i64 s] t (0,0))::X) w)(ha:1 <= a)(hb:a+1<d.size)(hsz:d.size<4611686018427387904)(hs:s+3<4611686018427387904):
  Calls prog 304 #[.slice (some ⟨g,off,none⟩) d.size cap,.int .i64 a,pt sb] w fun e w'=>∃x s':Nat,e=.returned (.int .i64 x) /\ a-1 <= x /\ x <= a+1 /\ s' <= s+3 /\ Ts .u64 47 g off c0 w0 d ((sb,.cells #[.int .i64 s'] t (0,0))::X) w':=by
 have C1:=uh (med64 g off cap sb (a-1) a (a+1) s c0 w0 d X t w hT (by omega) (by omega) hb hs);rw[show((a-1:Nat):Int)=(a:Int)-1 by omega,show((a+1:Nat):Int)=(a:Int)+1 by omega]at C1;clear hT
 go_enter func304,ntmps304
 go_wp2_with fail
 refine C1.out.mono ?_;rintro _ w1 ⟨x1,s1,rfl,h1,l1,hT1⟩;have HT1:=uh hT1;clear hT1 C1
 go_wp2_with fail
 go_ret;exact⟨x1,s1,rfl,by omega,by omega,l1,HT1.out⟩
theorem piv64 (g off cap a b:Nat)(c0:Array Value)(w0:World)(d:Array Int)(X:List Blk)(w:World)(hT:Ts .u64 47 g off c0 w0 d X w)(hab:a<b)(hb:b <= d.size)(hsz:d.size<4611686018427387904):
  Calls prog 295 #[.slice (some ⟨g,off,none⟩) d.size cap,.int .i64 a,.int .i64 b] w fun e w'=>∃p h:Nat,e=.returned (.tuple #[.int .i64 p,.int .i64 h]) /\ a <= p /\ p<b /\ h <= 2 /\ Ts .u64 47 g off c0 w0 d X w':=by
 have HT0:Hid (Ts .u64 47 g off c0 w0 d ((w.heap.size,.cells #[.int .i64 ((0:Nat):Int)] 3 (0,0))::X) (w.alloc (.cells #[.int .i64 0] 3))):=hT.alloc _;have c0':(w.alloc (.cells #[.int .i64 0] 3)).cell? ⟨w.heap.size,0,none⟩=some (.int .i64 0):=HT0.out.xcell (List.mem_cons_self ..) 0;clear hT;obtain⟨I,hI⟩:∃I:Nat,I=a+(b-a)/4*1:=⟨_,rfl⟩;obtain⟨J,hJ⟩:∃J:Nat,J=a+(b-a)/4*2:=⟨_,rfl⟩;obtain⟨K,hK⟩:∃K:Nat,K=a+(b-a)/4*3:=⟨_,rfl⟩;have eI:((a:Int)+((b:Int)-(a:Int))/4)=(I:Int):=by omega
 have eJ:((a:Int)+((b:Int)-(a:Int))/4*2)=(J:Int):=by omega
 have eK:((a:Int)+((b:Int)-(a:Int))/4*3)=(K:Int):=by omega
 by_cases h8:b-a ≥ 8
 · by_cases h50:b-a ≥ 50
   · have hb1:a<I /\ I+1<b /\ a<J /\ J+1<b /\ a<K /\ K+1<b:=by omega
     obtain⟨b1,b2,b3,b4,b5,b6⟩:=hb1;clear hI hJ hK;have C1:=uh (adj64 g off cap _ I 0 c0 w0 d X _ _ HT0.out (by omega) (by omega) hsz (by omega));clear HT0
     go_enter func295,ntmps295
     go_wp2_with fail
     refine C1.out.mono ?_;rintro _ w1 ⟨i1,s1,rfl,h1,h1',l1,hT1⟩;have C2:=uh (adj64 g off cap _ J s1 c0 w0 d X _ _ hT1 (by omega) (by omega) hsz (by omega));clear hT1 C1 c0'
     go_wp2_with fail
     refine C2.out.mono ?_;rintro _ w2 ⟨j1,s2,rfl,h2,h2',l2,hT2⟩;have C3:=uh (adj64 g off cap _ K s2 c0 w0 d X _ _ hT2 (by omega) (by omega) hsz (by omega));clear hT2 C2
     go_wp2_with fail
     refine C3.out.mono ?_;rintro _ w3 ⟨k1,s3,rfl,h3,h3',l3,hT3⟩;have C4:=uh (med64 g off cap _ i1 j1 k1 s3 c0 w0 d X _ _ hT3 (by omega) (by omega) (by omega) (by omega));clear hT3 C3
     go_wp2_with fail
     refine C4.out.mono ?_;rintro _ w4 ⟨p,s,rfl,h4,l4,hT4⟩;have cs:w4.cell? ⟨w.heap.size,0,none⟩=some (.int .i64 s):=(by simpa using hT4.xcell (List.mem_cons_self ..) 0);have hp:a <= p /\ p<b:=(by omega);have HT4:=uh (hT4.less (List.sublist_cons_self _ X));clear hT4 C4 eI eJ eK h1 h1' h2 h2' h3 h3' h4
     go_wp2_with fail
     all_goals
      go_ret2
      first
       | exact⟨p,1,rfl,hp.1,hp.2,by omega,HT4.out⟩
       | exact⟨p,2,rfl,hp.1,hp.2,by omega,HT4.out⟩
       | exact⟨p,0,rfl,hp.1,hp.2,by omega,HT4.out⟩
   · have hb1:a <= I /\ I<b /\ a <= J /\ J<b /\ a <= K /\ K<b:=by omega
     obtain⟨b1,b2,b3,b4,b5,b6⟩:=hb1;clear hI hJ hK;have C4:=uh (med64 g off cap _ I J K 0 c0 w0 d X _ _ HT0.out (by omega) (by omega) (by omega) (by omega));clear HT0
     go_enter func295,ntmps295
     go_wp2_with fail
     refine C4.out.mono ?_;rintro _ w4 ⟨p,s,rfl,h4,l4,hT4⟩;have cs:w4.cell? ⟨w.heap.size,0,none⟩=some (.int .i64 s):=(by simpa using hT4.xcell (List.mem_cons_self ..) 0);have hp:a <= p /\ p<b:=(by omega);have HT4:=uh (hT4.less (List.sublist_cons_self _ X));clear hT4 C4 eI eJ eK h4 c0'
     go_wp2_with fail
     all_goals
      go_ret2
      first
       | exact⟨p,1,rfl,hp.1,hp.2,by omega,HT4.out⟩
       | exact⟨p,2,rfl,hp.1,hp.2,by omega,HT4.out⟩
       | exact⟨p,0,rfl,hp.1,hp.2,by omega,HT4.out⟩
 · have HT4:=uh (HT0.out.less (List.sublist_cons_self _ X))
   have hp:a <= J /\ J<b:=(by omega);clear HT0 hI hJ hK
   go_enter func295,ntmps295
   go_wp2_with fail
   go_ret2;exact⟨J,1,rfl,hp.1,hp.2,by omega,HT4.out⟩
theorem parx64 (g off cap a b:Nat)(c0:Array Value)(w0:World)(d:Array Int)(X:List Blk)(w:World)(hT:Ts .u64 47 g off c0 w0 d X w)(hab:a<b)(hb:b <= d.size)(hsz:d.size<4611686018427387904):
  Calls prog 297 #[.slice (some ⟨g,off,none⟩) d.size cap,.int .i64 a,.int .i64 b] w fun e w'=>e=.returned (.bool (partialInsertionSort ltInt d a b).2) /\ Ts .u64 47 g off c0 w0 (partialInsertionSort ltInt d a b).1 X w':=by
 have HT:=uh hT;clear hT
 go_enter func297,ntmps297
 go_wp2
 go_loopw [7,8] (fun vi vs wr=>∃(i s:Nat) (dk:Array Int),vi=.int .i64 i /\ vs=.int .i64 s /\ s <= 5 /\ a<i /\ i <= b /\ dk.size=d.size /\ Ts .u64 47 g off c0 w0 dk X wr /\ partialIns ltInt a b (5-s) i dk=partialIns ltInt a b 5 (a+1) d) (fun _ vs _=>5-(intOf vs).toNat)
 case atStart=>exact⟨a+1,0,d,by go_num,rfl,by omega,by omega,by omega,rfl,HT.out,rfl⟩
 case round=>
  clear HT;obtain⟨i,s,dk,rfl,rfl,hs5,hai,hib,hsk,hT,hO⟩:=hrel;have HO:=uh hO;have HT:=uh hT;clear hO hT
  by_cases hs:s<5
  · go_wp2
    go_loopw [7] (fun vi wr2=>∃(k:Nat),vi=.int .i64 k /\ i <= k /\ k <= b /\ Ts .u64 47 g off c0 w0 dk X wr2 /\ scanSorted ltInt dk b k=scanSorted ltInt dk b i) (fun vi _=>b-(intOf vi).toNat)
    case atStart=>exact⟨i,rfl,Nat.le_refl _,hib,HT.out,rfl⟩
    case round=>
     clear HT;obtain⟨k,rfl,hik,hkb,hT2,hS⟩:=hrel;obtain⟨G,hG⟩:∃G:Nat -> Int,∀t,G t=dk[t]! :=⟨fun t=>dk[t]!,fun _=>rfl⟩;have hcw:∀t,t<d.size -> wr.cell? ⟨g,off+t,none⟩=some (.int .u64 (G t)):=fun t ht=>by rw[hG];exact hT2.cell t (by omega)
     have hfw:∀t,t<d.size -> wr.frozen? ⟨g,off+t,none⟩=false:=fun t _=>hT2.free t;have HG:=uh hG;have HT2:=uh hT2;have HS:=uh hS;clear hT2 hG hS
     go_wp2
     by_cases hkb':k<b
     · by_cases h50:b-a<50
       · go_quiet (first|(go_at_call 298;refine Calls.quiet_of_same (less64 _ _ _)))
         go_wp2
         · have hl:ltInt (G k) (G (k-1))=false:=by
             have h:(!ltInt (G k) (G (k-1)))=true:=by assumption
             simpa using h
           go_roundw
           case rel=>exact⟨k+1,by go_num,by omega,by omega,HT2.out.drewN _,by rw[←HS.out,scanSorted_go ltInt dk b k hkb' (by rw[←HG.out,←HG.out];exact hl)]⟩
           case measure=>simp[intOf];omega
         · have hl:ltInt (G k) (G (k-1))=true:=by
             have h:(!ltInt (G k) (G (k-1)))=false:=by assumption
             simpa using h
           have hv:partialInsertionSort ltInt d a b=(dk,false):=by
            unfold partialInsertionSort;rw[←HO.out,pi_short ltInt a b s i dk hs (by rw[←HS.out,scanSorted_stop ltInt dk b k (Or.inr (by rw[←HG.out,←HG.out];exact hl))];omega) (by omega)]
           rw[hv];go_ret;exact⟨rfl,HT2.out.drewN _⟩
       · go_quiet (first|(go_at_call 298;refine Calls.quiet_of_same (less64 _ _ _)))
         go_wp2
         · have hl:ltInt (G k) (G (k-1))=false:=by
             have h:(!ltInt (G k) (G (k-1)))=true:=by assumption
             simpa using h
           go_roundw
           case rel=>exact⟨k+1,by go_num,by omega,by omega,HT2.out.drewN _,by rw[←HS.out,scanSorted_go ltInt dk b k hkb' (by rw[←HG.out,←HG.out];exact hl)]⟩
           case measure=>simp[intOf];omega
         · have hl:ltInt (G k) (G (k-1))=true:=by
             have h:(!ltInt (G k) (G (k-1)))=false:=by assumption
             simpa using h
           have HK:Hid (scanSorted ltInt dk b i=k):=(HS.out.symm.trans (scanSorted_stop ltInt dk b k (Or.inr (by rw[←HG.out,←HG.out];exact hl))));have hs1:(Sort.swp dk k (k-1)).size=d.size:=by rw[size_swp];exact hsk
           go_region
           have HW:=uh ((HT2.out.drewN (nq+1)).swp k (k-1) (by omega) (by omega) (HG.out _) (HG.out _));clear HT2 HG hcw hfw HS hl;generalize((wr.drewN (nq+1)).setCell ⟨g,off+k,none⟩ (.int .u64 (G (k-1)))).setCell ⟨g,off+(k-1),none⟩ (.int .u64 (G k))=W3 at*
           go_upto_if 61 with fail
           go_cut []from 14 to 132 (fun wx=>∃dj:Array Int,dj.size=d.size /\ fixDown ltInt a k (Sort.swp dk k (k-1))=dj /\ Ts .u64 47 g off c0 w0 dj X wx)
           case first=>
            by_cases hka:k-a ≥ 2
            · go_wp2
              go_loopw [9] (fun vj wr2=>∃(j:Nat) (dj:Array Int),vj=.int .i64 j /\ j <= k-1 /\ dj.size=d.size /\ Ts .u64 47 g off c0 w0 dj X wr2 /\ shiftDown ltInt (j) dj=shiftDown ltInt (k-1) (Sort.swp dk k (k-1))) (fun vj _=>(intOf vj).toNat)
              case atStart=>exact⟨k-1,(Sort.swp dk k (k-1)),by first|rfl|(congr 1;omega)|go_num,Nat.le_refl _,hs1,HW.out,rfl⟩
              case round=>
               obtain⟨j,dj,rfl,hjk,hsj,hTj,hDn⟩:=hrel;obtain⟨G,hG⟩:∃G:Nat -> Int,∀t,G t=dj[t]! :=⟨fun t=>dj[t]!,fun _=>rfl⟩;have hcw:∀t,t<d.size -> wr.cell? ⟨g,off+t,none⟩=some (.int .u64 (G t)):=fun t ht=>by rw[hG];exact hTj.cell t (by omega)
               have hfw:∀t,t<d.size -> wr.frozen? ⟨g,off+t,none⟩=false:=fun t _=>hTj.free t;have HG:=uh hG;have HTj:=uh hTj;have HDn:=uh hDn;clear hTj hG hDn HW
               by_cases hc:1 <= j
               · go_wp2
                 go_quiet (first|(go_at_call 298;refine Calls.quiet_of_same (less64 _ _ _)))
                 go_wp2
                 · have hl:ltInt (G j) (G (j-1))=false:=by
                     have h:(!ltInt (G j) (G (j-1)))=true:=by assumption
                     simpa using h
                   go_meet
                   case rel=>exact⟨dj,hsj,by unfold fixDown;rw[if_pos hka,←HDn.out,shiftDown_stop ltInt j dj (Or.inr (by rw[←HG.out,←HG.out];exact hl))],HTj.out.drewN _⟩
                 · have hl:ltInt (G j) (G (j-1))=true:=by
                     have h:(!ltInt (G j) (G (j-1)))=false:=by assumption
                     simpa using h
                   go_region
                   all_goals go_wp2
                   go_roundw
                   case rel=>exact⟨j-1,Sort.swp dj j (j-1),by first|go_num|(congr 1;omega),by omega,by rw[size_swp];exact hsj,((HTj.out.drewN (nq+1)).swp j (j-1) (by omega) (by omega) (HG.out _) (HG.out _)),by rw[←HDn.out,shiftDown_go ltInt j dj (by omega) (by rw[←HG.out,←HG.out];exact hl)]⟩
                   case measure=>simp[intOf];omega
               · go_wp2
                 go_meet
                 case rel=>exact⟨dj,hsj,by unfold fixDown;rw[if_pos hka,←HDn.out,shiftDown_stop ltInt j dj (Or.inl (by omega))],HTj.out⟩
            · go_wp2
              go_meet
              case rel=>exact⟨_,hs1,by unfold fixDown;rw[if_neg hka],HW.out⟩
           case rest=>
            obtain⟨dj0,hsj0,hFD,hTj0⟩:=hcut;have HD:=uh hFD;have HTj0:=uh hTj0;clear hFD hTj0 HW
            by_cases hbk:b-k ≥ 2
            · go_wp2
              go_loopw [10] (fun vj wr2=>∃(j:Nat) (dj:Array Int),vj=.int .i64 j /\ k+1 <= j /\ j <= b /\ dj.size=d.size /\ Ts .u64 47 g off c0 w0 dj X wr2 /\ shiftUp ltInt b (j) dj=shiftUp ltInt b (k+1) dj0) (fun vj _=>b-(intOf vj).toNat)
              case atStart=>exact⟨k+1,dj0,by first|rfl|(congr 1;omega)|go_num,Nat.le_refl _,by omega,hsj0,HTj0.out,rfl⟩
              case round=>
               obtain⟨j,dj,rfl,hkj,hjb,hsj,hTj,hDn⟩:=hrel;obtain⟨G,hG⟩:∃G:Nat -> Int,∀t,G t=dj[t]! :=⟨fun t=>dj[t]!,fun _=>rfl⟩;have hcw:∀t,t<d.size -> wr.cell? ⟨g,off+t,none⟩=some (.int .u64 (G t)):=fun t ht=>by rw[hG];exact hTj.cell t (by omega)
               have hfw:∀t,t<d.size -> wr.frozen? ⟨g,off+t,none⟩=false:=fun t _=>hTj.free t;have HG:=uh hG;have HTj:=uh hTj;have HDn:=uh hDn;clear hTj hG hDn HTj0
               by_cases hc:j<b
               · go_wp2
                 go_quiet (first|(go_at_call 298;refine Calls.quiet_of_same (less64 _ _ _)))
                 go_wp2
                 · have hl:ltInt (G j) (G (j-1))=false:=by
                     have h:(!ltInt (G j) (G (j-1)))=true:=by assumption
                     simpa using h
                   go_roundw
                   case rel=>exact⟨k,s+1,dj,rfl,by go_num,by omega,by omega,by omega,hsj,HTj.out.drewN _,by rw[←HO.out,pi_go ltInt a b s i k dk hs HK.out (by omega) (by omega),HD.out];unfold fixUp;rw[if_pos (by omega),←HDn.out,shiftUp_stop ltInt b j dj (Or.inr (by rw[←HG.out,←HG.out];exact hl))]⟩
                   case measure=>simp[intOf];omega
                 · have hl:ltInt (G j) (G (j-1))=true:=by
                     have h:(!ltInt (G j) (G (j-1)))=false:=by assumption
                     simpa using h
                   go_region
                   all_goals go_wp2
                   go_roundw
                   case rel=>exact⟨j+1,Sort.swp dj j (j-1),by first|go_num|(congr 1;omega),by omega,by omega,by rw[size_swp];exact hsj,((HTj.out.drewN (nq+1)).swp j (j-1) (by omega) (by omega) (HG.out _) (HG.out _)),by rw[←HDn.out,shiftUp_go ltInt b j dj (by omega) (by rw[←HG.out,←HG.out];exact hl)]⟩
                   case measure=>simp[intOf];omega
               · go_wp2
                 go_roundw
                 case rel=>exact⟨k,s+1,dj,rfl,by go_num,by omega,by omega,by omega,hsj,HTj.out,by rw[←HO.out,pi_go ltInt a b s i k dk hs HK.out (by omega) (by omega),HD.out];unfold fixUp;rw[if_pos (by omega),←HDn.out,shiftUp_stop ltInt b j dj (Or.inl (by omega))]⟩
                 case measure=>simp[intOf];omega
            · go_wp2
              go_roundw
              case rel=>exact⟨k,s+1,dj0,rfl,by go_num,by omega,by omega,by omega,hsj0,HTj0.out,by rw[←HO.out,pi_go ltInt a b s i k dk hs HK.out (by omega) (by omega),HD.out];unfold fixUp;rw[if_neg (by omega)]⟩
              case measure=>simp[intOf];omega
     · go_quiet (first|(go_at_call 298;refine Calls.quiet_of_same (less64 _ _ _)))
       go_wp2
       obtain rfl:k=b:=by omega
       have hv:partialInsertionSort ltInt d a k=(dk,true):=by
        unfold partialInsertionSort;rw[←HO.out,pi_true ltInt a k s i dk hs (by rw[←HS.out,scanSorted_stop ltInt dk k k (Or.inl (by omega))])]
       rw[hv];go_ret;exact⟨rfl,HT2.out.drewN _⟩
  · obtain rfl:s=5:=by omega
    go_wp2
    have hv:partialInsertionSort ltInt d a b=(dk,false):=by
     unfold partialInsertionSort;rw[←HO.out,pi_end]
    rw[hv];go_ret;exact⟨rfl,HT.out⟩
theorem par64 (g off cap a b:Nat)(c0:Array Value)(w0:World)(d:Array Int)(X:List Blk)(w:World)(hT:Ts .u64 47 g off c0 w0 d X w)(hab:a<b)(hb:b <= d.size)(hsz:d.size<4611686018427387904)(hB:Below ltInt a b d):
  Calls prog 297 #[.slice (some ⟨g,off,none⟩) d.size cap,.int .i64 a,.int .i64 b] w fun e w'=>∃(r:Bool) (d':Array Int),e=.returned (.bool r) /\ PermIn a b d d' /\ (r=true -> SortedIn ltInt a b d') /\ Ts .u64 47 g off c0 w0 d' X w':=by
 have h:=partialInsertionSort_holds swo d a b hab hb hB;refine(parx64 g off cap a b c0 w0 d X w hT hab hb hsz).mono ?_;rintro e w' ⟨rfl,h2⟩;exact⟨_,_,rfl,h.1,h.2,h2⟩
end
section
open Go Go.RowKit Go.Sort Go.Shelf
theorem blen (n:Nat)(hn:n<4611686018427387904)(w:World):Calls prog 220 #[.int .u64 n] w fun e w'=>e=.returned (.int .i64 (bitsLen n:Nat)) /\ w'=w:=
 calls_of_every_depth fun D=>lenWalkInAllM { Tryz.sortA with } D n w hn
theorem xnext (rb X:Nat)(hX:X<18446744073709551616)(w:World)(hc:w.cell? ⟨rb,0,none⟩=some (.int .u64 X))(hf:w.frozen? ⟨rb,0,none⟩=false):
  Calls prog 279 #[pt rb] w fun e w'=>e=.returned (.int .u64 (xorNextN X:Nat)) /\ w'=(w.setCell ⟨rb,0,none⟩ (.int .u64 (xorNextN X:Nat))).drewN 3:=
 calls_of_every_depth fun D=>AnySM.xorshift_NextIn { Tryz.sortA with } D rb 0 X hX w hc hf
theorem npow2 (n:Nat)(hn:n<4611686018427387904)(w:World):Calls prog 278 #[.int .i64 n] w fun e w'=>e=.returned (.int .u64 ((1 <<< bitsLen n:Nat):Int)) /\ w'=w:=
 calls_of_every_depth fun D=>AnySM.nextPowerOfTwoIn { Tryz.sortA with } D n hn w
end
section
open Go Go.RowKit Go.Sort
theorem brk64 (g off cap a b:Nat)(c0:Array Value)(w0:World)(d:Array Int)(X:List Blk)(w:World)(hT:Ts .u64 47 g off c0 w0 d X w)(hab:a <= b)(hb:b <= d.size)(hsz:d.size<4611686018427387904):
  Calls prog 294 #[.slice (some ⟨g,off,none⟩) d.size cap,.int .i64 a,.int .i64 b] w fun e w'=>e=.returned (.tuple #[]) /\ ∃d',PermIn a b d d' /\ Ts .u64 47 g off c0 w0 d' X w':=by
 obtain⟨L,rfl⟩:∃L,b=a+L:=⟨b-a,by omega⟩
 by_cases h8:8 <= L
 · obtain⟨M,hM⟩:∃M:Nat,M=1 <<< bitsLen L:=⟨_,rfl⟩
   have hM1:1 <= M:=(by rw[hM,Nat.one_shiftLeft];exact Nat.two_pow_pos _);have hM2:M <= 2*L:=(by rw[hM,Nat.one_shiftLeft];exact two_pow_bitsLen_le (by omega));have hNP:=uh (fun w=>npow2 L (by omega) w);rw[←hM]at hNP;have HT0:=uh (hT.alloc (.cells #[.int .u64 ((L:Nat):Int)] 398));clear hT hM
   go_enter func294,ntmps294
   go_wp2_with (first|(go_at_call 278;rw[show((a:Int)+(L:Int)-(a:Int))=(L:Int)by omega];refine(hNP.out _).mono ?_;rintro e w' ⟨rfl,rfl⟩))
   go_loopw [9] (fun vi wr=>∃(t R:Nat) (dk:Array Int),vi=.int .i64 ((a+L/4*2-1+t:Nat):Int) /\ t <= 3 /\ R<18446744073709551616 /\ PermIn a (a+L) d dk /\
    Ts .u64 47 g off c0 w0 dk ((w.heap.size,.cells #[.int .u64 (R:Int)] 398 (0,0))::X) wr) (fun vi _=>a+L/4*2+3-(intOf vi).toNat)
   case atStart=>exact⟨0,L,d,by congr 1;omega,by omega,by omega,permIn_refl _ _ _,HT0.out⟩
   case round=>
    clear HT0;obtain⟨t,R,dk,rfl,ht,lR,hP,hT⟩:=hrel;have hsk:dk.size=d.size:=hP.1;obtain⟨R',hR'⟩:∃R':Nat,R'=xorNextN R:=⟨_,rfl⟩;have lR':R'<18446744073709551616:=by rw[hR'];exact xorNextN_lt R lR
    obtain⟨O,hO⟩:∃O:Nat,O=R' &&& (M-1):=⟨_,rfl⟩;have lO:O <= M-1:=by rw[hO];exact Nat.and_le_right
    have eAnd:bits .and .u64 (R':Int) ((M:Int)-1)=(O:Int):=by
     rw[show((M:Int)-1)=((M-1:Nat):Int)by omega,bits_and_u64_nat _ _ lR' (by omega),hO]
    obtain⟨G,hG⟩:∃G:Nat -> Int,∀x,G x=dk[x]! :=⟨fun x=>dk[x]!,fun _=>rfl⟩;have HT1:Hid (Ts .u64 47 g off c0 w0 dk ((w.heap.size,.cells #[.int .u64 (R':Int)] 398 (0,0))::X) ((wr.setCell ⟨w.heap.size,0,none⟩ (.int .u64 (R':Int))).drewN 3)):=(hT.xset 0 (.int .u64 (R':Int))).drewN 3;have hNext:=uh (xnext w.heap.size R lR wr (by simpa using hT.xcell (List.mem_cons_self ..) 0) (hT.xfree (List.mem_cons_self ..) 0));rw[←hR']at hNext;have HT:=uh hT;have HG:=uh hG;have HP:=uh hP;clear hG hT hP hR' hO
    go_wp2_with fail
    · refine hNext.out.mono ?_
      rintro e w' ⟨rfl,hw⟩;rw[←hw]at HT1;clear hw hNext HT;have hcw:∀x,x<d.size -> w'.cell? ⟨g,off+x,none⟩=some (.int .u64 (G x)):=fun x hx=>by rw[HG.out];exact HT1.out.cell x (by omega)
      have hfw:∀x,x<d.size -> w'.frozen? ⟨g,off+x,none⟩=false:=fun x _=>HT1.out.free x
      have SW:=uh (fun(k:Nat) (hk:k<L)=>(And.intro (permIn_trans _ _ _ a (a+L) HP.out (swp_permIn dk a (a+L) (a+L/4*2-1+t) (a+k) (by omega) (by omega) (by omega) (by omega) (by omega)))
       ((HT1.out.drewN 1).swp (a+L/4*2-1+t) (a+k) (by omega) (by omega) (HG.out _) (HG.out _))))
      clear HP HT1
      go_wp2_with fail
      · have hLO:L <= O:=by omega
        by_cases hEq:a+L/4*2-1+t=a+(O-L)
        all_goals
         go_region
         all_goals go_wp2
         go_roundw
         case rel=>exact⟨t+1,R',Sort.swp dk (a+L/4*2-1+t) (a+(O-L)),by first|rfl|(congr 1<;>omega),by omega,lR',(SW.out (O-L) (by omega)).1,by(try rw[hEq]);(try rw[hEq]at SW);exact(SW.out (O-L) (by omega)).2⟩
         case measure=>simp[intOf];omega
      · have hLO:¬L <= O:=by omega
        by_cases hEq:a+L/4*2-1+t=a+O
        all_goals
         go_region
         all_goals go_wp2
         go_roundw
         case rel=>exact⟨t+1,R',Sort.swp dk (a+L/4*2-1+t) (a+O),by first|rfl|(congr 1<;>omega),by omega,lR',(SW.out O (by omega)).1,by(try rw[hEq]);(try rw[hEq]at SW);exact(SW.out O (by omega)).2⟩
         case measure=>simp[intOf];omega
    · obtain rfl:t=3:=by omega
      go_end0;exact⟨rfl,dk,HP.out,HT.out.less (List.sublist_cons_self _ X)⟩
 · have HT:=uh hT
   clear hT
   go_enter func294,ntmps294
   go_wp2
   go_end0;exact⟨rfl,d,permIn_refl _ _ _,HT.out⟩
theorem pdq64:∀(n g off cap:Nat) (c0:Array Value) (w0:World) (d:Array Int) (X:List Blk) (a b limit:Nat) (w:World),b-a<n -> Ts .u64 47 g off c0 w0 d X w -> a <= b -> b <= d.size -> d.size<4611686018427387904 -> limit<4611686018427387904 -> Below ltInt a b d ->
  Calls prog 276 #[.slice (some ⟨g,off,none⟩) d.size cap,.int .i64 a,.int .i64 b,.int .i64 limit] w fun e w'=>e=.returned (.tuple #[]) /\ ∃d',(PermIn a b d d' /\ SortedIn ltInt a b d') /\ Ts .u64 47 g off c0 w0 d' X w':=by
 intro n
 induction n with
 | zero=>intro _ _ _ _ _ _ _ _ _ _ _ h;exact absurd h (Nat.not_lt_zero _)
 | succ n ih=>
  intro g off cap c0 w0 d X a b limit w hN hT hab hb hsz hlimit hBel0;have HT:=uh hT;have HB:=uh hBel0;have IH:=uh ih;clear hT hBel0 ih
  go_enter func276,ntmps276
  go_wp2
  go_loopg [1,2,3,8,9] (b-a) (fun k s1 s2 s3 s8 s9 wr=>∃(a' b' lim:Nat) (wb wp:Bool) (dk:Array Int),s1=.int .i64 a' /\ s2=.int .i64 b' /\ s3=.int .i64 lim /\ s8=.bool wb /\ s9=.bool wp /\
   a' <= b' /\ b' <= d.size /\ b'-a' <= k /\ k <= b-a /\ lim <= limit /\ dk.size=d.size /\ Below ltInt a' b' dk /\ Ts .u64 47 g off c0 w0 dk X wr /\ SFin a b d a' b' dk)
  case atStart=>exact⟨a,b,limit,true,true,d,rfl,rfl,rfl,rfl,rfl,hab,hb,Nat.le_refl _,Nat.le_refl _,Nat.le_refl _,rfl,HB.out,HT.out,SFin.refl⟩
  case round=>
   clear HT HB;obtain⟨a',b',lim,wb,wp,dk,rfl,rfl,rfl,rfl,rfl,hab',hb',hk,hkN,hlim,hds,hBel,hT,hF⟩:=hrel;have HF:=uh hF;have HBel:=uh hBel;have HT:=uh hT;clear hF hBel hT
   by_cases h12:b'-a' <= 12
   · have h12z:(b':Int)-(a':Int) <= 12:=by omega
     have hc:=ins64 g off cap a' b' c0 w0 dk X wr HT.out hab' (by omega) (by omega);rw[hds]at hc;have HC:=uh hc;clear hc HT
     go_wp2_with fail
     refine HC.out.mono ?_;rintro e w1 ⟨rfl,hT1⟩;have HT1:=uh hT1;clear hT1 HC
     go_wp2_with fail
     (try simp only[Exit.inBlock,Exit.then]);refine bodyPost_ret (results_none rfl _ _ _) rfl ?_
     exact⟨rfl,_,HF.out.ins hab' (by omega),HT1.out⟩
   · have h12z:¬((b':Int)-(a':Int) <= 12):=by omega
     by_cases hl0:lim=0
     · subst hl0
       have hc:=heap64 g off cap c0 w0 dk X a' b' wr HT.out hab' (by omega) (by omega);rw[hds]at hc;have HC:=uh hc;clear hc HT
       go_wp2_with fail
       refine HC.out.mono ?_;rintro e w1 ⟨rfl,hT1⟩;have HT1:=uh hT1;clear hT1 HC
       go_wp2_with fail
       (try simp only[Exit.inBlock,Exit.then]);refine bodyPost_ret (results_none rfl _ _ _) rfl ?_
       exact⟨rfl,_,HF.out.heap hab' (by omega),HT1.out⟩
     · have hl0z:¬((lim:Int)=0):=by omega
       go_upto_if 35 with fail
       go_cut [3]from 19 (fun s3 wc=>∃(lim2:Nat) (d1:Array Int),s3=.int .i64 lim2 /\ lim2 <= lim /\ PermIn a' b' dk d1 /\ Ts .u64 47 g off c0 w0 d1 X wc)
       case first=>
        cases wb
        · have hc:=brk64 g off cap a' b' c0 w0 dk X wr HT.out hab' (by omega) (by omega)
          rw[hds]at hc;have HC:=uh hc;clear hc HT
          go_wp2_with fail
          refine HC.out.mono ?_;rintro e w1 ⟨rfl,d1,hP1,hT1⟩;have HX:=uh (And.intro hP1 hT1);clear hT1 hP1 HC
          go_wp2_with fail
          go_meet
          case rel=>exact⟨lim-1,d1,by congr 1;omega,by omega,HX.out.1,HX.out.2⟩
        · go_wp2_with fail
          go_meet
          case rel=>exact⟨lim,dk,rfl,Nat.le_refl _,permIn_refl _ _ _,HT.out⟩
       case rest=>
        obtain⟨lim2,d1,rfl,hl2,hP1,hT1⟩:=hcut;have hs1:d1.size=d.size:=hP1.1.trans hds;have hc:=piv64 g off cap a' b' c0 w0 d1 X wc hT1 (by omega) (by omega) (by omega);rw[hs1]at hc;have HC:=uh hc;have HP1:=uh hP1;clear hc hT1 HT hP1
        go_upto_if 50 with(go_at_call 295;refine HC.out.mono ?_;rintro e w2 ⟨p,h,rfl,hp1,hp2,hh,hT2⟩;have HT2:=uh hT2;clear hT2)
        clear HC
        go_cut [11,12]from 19 (fun s11 s12 wc=>∃(pv h2:Nat) (d2:Array Int),s11=.int .i64 pv /\ s12=.int .i64 h2 /\ a' <= pv /\ pv<b' /\ PermIn a' b' dk d2 /\ Ts .u64 47 g off c0 w0 d2 X wc)
        case first=>
         by_cases h2:h=2
         · subst h2
           have hc:=rev64 g off cap c0 w0 d1 X a' b' w2 HT2.out hab' (by omega) (by omega);rw[hs1]at hc;have HC:=uh hc;clear hc HT2
           go_wp2_with fail
           refine HC.out.mono ?_;rintro e w3 ⟨rfl,d2,hP2,hT3⟩;have HX:=uh (And.intro (permIn_trans _ _ _ a' b' HP1.out hP2) hT3);clear hT3 hP2 HC
           go_wp2_with fail
           go_meet
           case rel=>exact⟨(b'-1)-(p-a'),1,d2,by congr 1;omega,rfl,by omega,by omega,HX.out.1,HX.out.2⟩
         · have h2z:¬((h:Int)=2):=by omega
           go_wp2_with fail
           go_meet
           case rel=>exact⟨p,h,d1,rfl,rfl,hp1,hp2,HP1.out,HT2.out⟩
        case rest=>
         obtain⟨pv,h2,d2,rfl,rfl,hv1,hv2,hP2,hT3⟩:=hcut;have hs2:d2.size=d.size:=hP2.1.trans hds;have HP2:=uh hP2;have HT3:=uh hT3;clear hP2 hT3 HP1 HT2 hp1 hp2 hh
         go_upto_region 15 with fail
         go_cut [68]from 19 (fun s68 wx=>∃t:Bool,s68=.bool t /\ wx=wc)
         case first=>
          by_cases h3:h2=1
          · subst h3
            cases wb<;>cases wp<;>
             (go_wp2_with fail
              go_meet
              exact⟨_,rfl,rfl⟩)
          · have h3z:((h2:Int) == 1)=false:=by simpa using(by omega:(h2:Int)≠1)
            cases wb<;>cases wp<;>
             (go_wp2_with fail
              go_meet
              exact⟨_,rfl,rfl⟩)
         case rest=>
          obtain⟨t,rfl,rfl⟩:=hcut
          go_upto_if 68 with fail
          go_cut []from 19 (fun wx=>∃d3,PermIn a' b' dk d3 /\ Ts .u64 47 g off c0 w0 d3 X wx)
          case first=>
           cases t
           · go_wp2_with fail
             go_meet
             case rel=>exact⟨d2,HP2.out,HT3.out⟩
           · have hc:=par64 g off cap a' b' c0 w0 d2 X wc HT3.out (by omega) (by omega) (by omega) (HBel.out.perm (by omega) HP2.out)
             rw[hs2]at hc;have HC:=uh hc;clear hc HT3
             go_wp2_with fail
             refine HC.out.mono ?_;rintro e w4 ⟨r,d3,rfl,hP3,hS3,hT4⟩;have HX:=uh (And.intro (permIn_trans _ _ _ a' b' HP2.out hP3) hT4);clear hT4 hP3 HC
             cases r
             · clear hS3
               go_wp2_with fail
               go_meet
               case rel=>exact⟨d3,HX.out.1,HX.out.2⟩
             · have HS:=uh (HF.out d3 HX.out.1 (hS3 rfl))
               clear hS3
               go_wp2_with fail
               (try simp only[Exit.inBlock,Exit.then]);refine bodyPost_ret (results_none rfl _ _ _) rfl ?_
               exact⟨rfl,d3,HS.out,HX.out.2⟩
          case rest=>
           obtain⟨d3,hP3,hT5⟩:=hcut;have hs3:d3.size=d.size:=hP3.1.trans hds;obtain⟨G,hG⟩:∃G:Nat -> Int,∀t,G t=d3[t]! :=⟨fun t=>d3[t]!,fun _=>rfl⟩;have hcw:∀t,t<d.size -> wc.cell? ⟨g,off+t,none⟩=some (.int .u64 (G t)):=fun t ht=>by rw[hG];exact hT5.cell t (by omega)
           have hfw:∀t,t<d.size -> wc.frozen? ⟨g,off+t,none⟩=false:=fun t _=>hT5.free t;have HG:=uh hG;have HB3:=uh (HBel.out.perm (by omega) hP3);have HF3:=uh (HF.out.perm hP3);have HT5:=uh hT5;clear hG hP3 hT5 HT3 HP2 HBel HF
           go_upto_region 17 with fail
           go_cut [87]from 19 (fun s87 wx=>s87=.bool (decide (a' > 0) && !ltInt (G (a'-1)) (G pv)) /\ Ts .u64 47 g off c0 w0 d3 X wx)
           case first=>
            rcases Nat.eq_zero_or_pos a' with ha0|ha0
            · have ha0z:decide ((a':Int) > 0)=false:=decide_eq_false (by omega)
              go_big_quiet (first|(go_at_call 298;refine Calls.quiet_of_same (less64 _ _ _)))
              go_wp2_with fail
              go_meet
              case rel=>exact⟨by simp[ha0],HT5.out.drewN nq⟩
            · have ha0z:(a':Int) > 0:=by omega
              go_big_quiet (first|(go_at_call 298;refine Calls.quiet_of_same (less64 _ _ _)))
              go_wp2_with fail
              go_meet
              case rel=>exact⟨by simp[ha0],HT5.out.drewN nq⟩
           case rest=>
            obtain⟨rfl,hT6⟩:=hcut;clear hcw hfw HT5
            cases h87:(decide (a' > 0) && !ltInt (G (a'-1)) (G pv))
            · obtain⟨mid,ap,d4,hx⟩:∃mid ap d4,partition ltInt d3 a' b' pv=(mid,ap,d4):=⟨(partition ltInt d3 a' b' pv).1,(partition ltInt d3 a' b' pv).2.1,(partition ltInt d3 a' b' pv).2.2,rfl⟩
              obtain⟨r1,r2,r3,r4,r5,r6,r7⟩:=round_part swo (partition_holds ltInt) hv1 hv2 (show b' <= d3.size by omega) HB3.out hx;have hc:=part64 g off cap c0 w0 d3 X a' b' pv wc hT6 hv1 hv2 (by omega) (by omega);rw[hs3,hx]at hc;have HC:=uh hc;have R4:=uh r4;have R5:=uh r5;have R6:=uh r6;have R7:=uh r7;clear hc hT6 hx r4 r5 r6 r7
              go_upto_if 113 with(go_at_call 300;refine HC.out.mono ?_;rintro e w7 ⟨rfl,hT7⟩;have HT7:=uh hT7;clear hT7)
              clear HC;have hs4:d4.size=d.size:=r3.trans hs3
              by_cases h4:mid-a'<b'-mid
              · have h4z:(mid:Int)-(a':Int)<(b':Int)-(mid:Int):=by omega
                have hc:=IH.out g off cap c0 w0 d4 X a' mid lim2 w7 (by omega) HT7.out (by omega) (by omega) (by omega) (by omega) R4.out;rw[hs4]at hc;have HC:=uh hc;clear hc HT7
                go_wp2_with fail
                refine HC.out.mono ?_;rintro e w8 ⟨rfl,L,⟨pL,sL⟩,hT8⟩;have HX:=uh (R6.out L pL sL);have hsL:L.size=d.size:=pL.1.trans hs4;have HT8:=uh hT8;clear hT8 HC pL sL R6 R7 R5 R4
                go_wp2_with fail
                go_roundg (b'-(mid+1))
                case measure=>omega
                case rel=>exact⟨mid+1,b',lim2,decide (mid-a' ≥ (b'-a')/8),ap,L,by simp,rfl,rfl,congrArg Value.bool (eighth (by omega) (by omega)),rfl,by omega,by omega,Nat.le_refl _,by omega,by omega,hsL,HX.out.1,HT8.out,HF3.out.step HX.out.2⟩
              · have h4z:¬((mid:Int)-(a':Int)<(b':Int)-(mid:Int)):=by omega
                have hc:=IH.out g off cap c0 w0 d4 X (mid+1) b' lim2 w7 (by omega) HT7.out (by omega) (by omega) (by omega) (by omega) R5.out;rw[hs4]at hc;have HC:=uh hc;clear hc HT7
                go_wp2_with fail
                refine HC.out.mono ?_;rintro e w8 ⟨rfl,L,⟨pL,sL⟩,hT8⟩;have HX:=uh (R7.out L pL sL);have hsL:L.size=d.size:=pL.1.trans hs4;have HT8:=uh hT8;clear hT8 HC pL sL R6 R7 R5 R4
                go_wp2_with fail
                go_roundg (mid-a')
                case measure=>omega
                case rel=>exact⟨a',mid,lim2,decide (b'-mid ≥ (b'-a')/8),ap,L,rfl,rfl,rfl,congrArg Value.bool (eighth (by omega) (by omega)),rfl,by omega,by omega,Nat.le_refl _,by omega,by omega,hsL,HX.out.1,HT8.out,HF3.out.step HX.out.2⟩
            · have h87':=h87
              simp only[Bool.and_eq_true,decide_eq_true_eq,Bool.not_eq_true',HG.out]at h87';obtain⟨mid,d4,hx⟩:∃mid d4,partitionEqual ltInt d3 a' b' pv=(mid,d4):=⟨(partitionEqual ltInt d3 a' b' pv).1,(partitionEqual ltInt d3 a' b' pv).2,rfl⟩;obtain⟨r1,r2,r3,r4,r5⟩:=round_eq swo (partitionEqual_holds ltInt) h87'.1 hv1 hv2 (show b' <= d3.size by omega) HB3.out h87'.2 hx;have hc:=parteq64 g off cap c0 w0 d3 X a' b' pv wc hT6 hv1 hv2 (by omega) (by omega);rw[hs3,hx]at hc;have HC:=uh hc;have R4:=uh r4;have R5:=uh r5;clear hc hT6 hx r4 r5 h87'
              go_wp2_with fail
              refine HC.out.mono ?_;rintro e w7 ⟨rfl,hT7⟩;have HT7:=uh hT7;clear hT7 HC
              go_wp2_with fail
              go_roundg (b'-mid)
              case measure=>omega
              case rel=>exact⟨mid,b',lim2,wb,wp,d4,rfl,rfl,rfl,rfl,rfl,r2,hb',Nat.le_refl _,by omega,by omega,r3.trans hs3,R4.out,HT7.out,HF3.out.step R5.out⟩
end
section
open Go Go.RowKit Go.IntWalk
abbrev ceVal (x:Ce):Value:=.agg #[.int .i64 x.1,.int .u8 x.2.tag,.int .i64 x.2.typ,.int .i64 x.2.len,.int .i64 x.2.size]
def frst (cs:List Ce):Nat:=cs.findIdx fun c=> !isObj c
theorem run_clear_agg {P:Program}(w:World)(t e ty:TypeId)(z:Value)(ht:P.underlying t=some (.slice e))(hv:∀w,(zeroValue e).run P w=.ok z w)(h1:∀u∈z.cells,u.oneCell'=true)(b o n c:Nat)(hn:0<n)
  (hth:w.there b o (n*z.cells.size)):
  ∃vs:List Value,vs.length=n*z.cells.size /\ (Builtin.clear_ #[t] ty #[.slice (some ⟨b,o,none⟩) n c]).run P w=.ok (.tuple #[]) (w.setCells b o vs):=by
 refine⟨(Builtin.zeroCells z.cells n).toList,?_,?_⟩
 ·simp[Builtin.zeroCells]
 · have hl:(Builtin.zeroCells z.cells n).toList.length=n*z.cells.size:=by simp[Builtin.zeroCells]
   have hst:=run_storeCells_cells (P:=P) b o (Builtin.zeroCells z.cells n).toList 0 w (fun j hj=>by rw[Nat.add_zero];exact(hth j (by omega)).1) (fun j hj=>by rw[Nat.add_zero];exact(hth j (by omega)).2) (by
    intro v hv';simp only[Builtin.zeroCells]at hv';rw[Array.mem_toList_iff,Array.mem_map]at hv';obtain⟨i,hi,rfl⟩:=hv';rw[Array.mem_range]at hi
    have hp:0<z.cells.size:=by
     apply Nat.pos_of_ne_zero
     intro h0;rw[h0]at hi;omega
    have hm:i%z.cells.size<z.cells.size:=Nat.mod_lt _ hp;rw[getElem!_pos z.cells _ hm];exact h1 _ (Array.getElem_mem hm))
   simp only[Nat.add_zero]at hst;obtain⟨m,rfl⟩:∃m,n=m+1:=⟨n-1,by omega⟩;simp[Builtin.clear_,run_underlying ht,hv,hst]
structure DelIn (cs:List Ce)(cur:Array Value)(i j:Nat):Prop where
 low:∀k,k<i*5 -> cur[k]?= (ces (objs (cs.take j)))[k]?
 high:∀k,j*5 <= k -> k<cs.length*5 -> cur[k]?= (ces cs)[k]?
 cnt:i=(objs (cs.take j)).length
theorem objs_snoc {cs:List Ce}{j:Nat}{c:Ce}(hc:cs[j]?= some c):objs (cs.take (j+1))=objs (cs.take j)++if isObj c=true then [c]else []:=by
 rw[take_next hc,objs_append]
 congr 1
 unfold objs
 by_cases ht:isObj c=true
 · rw[if_pos ht,List.filter_cons_of_pos ht]
   rfl
 · rw[if_neg ht,List.filter_cons_of_neg ht]
   rfl
end
section
open Go Go.RowKit Go.Sort
theorem srt64 (g off cap:Nat)(c0:Array Value)(w0:World)(d:Array Int)(X:List Blk)(w:World)(hT:Ts .u64 47 g off c0 w0 d X w)(hsz:d.size<4611686018427387904):
  Calls prog 245 #[.slice (some ⟨g,off,none⟩) d.size cap] w fun e w'=>e=.returned (.tuple #[]) /\ ∃d',(PermIn 0 d.size d d' /\ SortedIn ltInt 0 d.size d') /\ Ts .u64 47 g off c0 w0 d' X w':=by
 have hk:bitsLen d.size <= 62:=(bitsLen_le_iff d.size 62).2 (by omega);have Hb:=uh (fun w=>blen d.size hsz w);have Hp:=uh (pdq64 (d.size+1) g off cap c0 w0 d X 0 d.size (bitsLen d.size) w (by omega) hT (Nat.zero_le _) (Nat.le_refl _) hsz (by omega) (Or.inl rfl));clear hT
 go_enter func245,ntmps245
 go_wp2_with (first
  | (go_at_call 220;refine(Hb.out _).mono ?_;rintro e w' ⟨rfl,hw⟩;rw[hw];clear hw w')
  | fail)
 refine Hp.out.mono ?_;rintro e w1 ⟨rfl,d',hP,hT1⟩;have HX:=uh (And.intro hP hT1);clear hP hT1 Hp Hb
 go_wp2_with fail
 go_end0;exact⟨rfl,d',HX.out.1,HX.out.2⟩
theorem insnil64 (w:World):Calls prog 292 #[.slice none 0 0,.int .i64 0,.int .i64 0] w fun e w'=>e=.returned (.tuple #[]) /\ w'=w:=by
 go_enter func292,ntmps292
 go_wp2
 go_loopw [6] (fun v6 wr=>v6=.int .i64 1 /\ wr=w) (fun _ _=>0)
 case atStart=>exact⟨rfl,rfl⟩
 case round=>
  obtain⟨rfl,rfl⟩:=hrel
  go_wp2
  go_end0;exact⟨rfl,rfl⟩
theorem pdqnil64 (k:Int)(w:World):Calls prog 276 #[.slice none 0 0,.int .i64 0,.int .i64 0,.int .i64 k] w fun e w'=>e=.returned (.tuple #[]) /\ w'=w:=by
 go_enter func276,ntmps276
 go_wp2
 go_loopw [1,2,3,8,9] (fun v1 v2 v3 v8 v9 wr=>v1=.int .i64 0 /\ v2=.int .i64 0 /\ v3=.int .i64 k /\ v8=.bool true /\ v9=.bool true /\ wr=w) (fun _ _ _ _ _ _=>0)
 case atStart=>exact⟨rfl,rfl,rfl,rfl,rfl,rfl⟩
 case round=>
  obtain⟨rfl,rfl,rfl,rfl,rfl,rfl⟩:=hrel
  go_wp2_with (first
   | (go_at_call 292;refine(insnil64 _).mono ?_;rintro e w' ⟨rfl,hw⟩;rw[hw];clear hw w')
   | fail)
  (try simp only[Exit.inBlock,Exit.then]);refine bodyPost_ret (results_none rfl _ _ _) rfl ?_
  exact⟨rfl,rfl⟩
theorem srtnil64 (w:World):Calls prog 245 #[.slice none 0 0] w fun e w'=>e=.returned (.tuple #[]) /\ w'=w:=by
 have Hb:=uh (fun w=>blen 0 (by omega) w)
 go_enter func245,ntmps245
 go_wp2_with (first
  | (go_at_call 220;refine(Hb.out _).mono ?_;rintro e w' ⟨rfl,hw⟩;rw[hw];clear hw w')
  | (go_at_call 276;refine(pdqnil64 _ _).mono ?_;rintro e w' ⟨rfl,hw⟩;rw[hw];clear hw w')
  | fail)
 go_end0;exact⟨rfl,rfl⟩
end
section
open Go Go.RowKit Go.Shelf Go.IntWalk Go.Maps Go.MapKept Go.WideElems
theorem has_sorted {H:Type}(l:List (Lit×DataW H))(kl:Lit):has (.map (l.foldr DataW.insert [])) kl=true↔∃p∈l,p.1.sameKey kl=true:=by
 rw[has_eq,List.any_eq_true]
 constructor
 · rintro⟨p,hp,hs⟩
   exact⟨p,(WideShapes.sorted_perm l).mem_iff.1 hp,hs⟩
 · rintro⟨p,hp,hs⟩
   exact⟨p,(WideShapes.sorted_perm l).mem_iff.2 hp,hs⟩
theorem MapSt.ownsQ {P:Program}{w:World}{b:Nat}{q:IntKind}{m:List (Int×Value)}{o:Obj}{kt:TypeId}(h:MapSt q m o)(hb:w.heap[b]?= some o)(hk:P.underlying kt=some (.int q))(hw:∀p∈m,(Lit.int q p.1).wf=true)(hl:m.length <= maxLen):
  ∃D,w.ownsMap (H:=Unit) P kt (fun _=>some (.lit (.bool true),[])) b m.length D /\ (∀x:Int,has D (.int q x)=true↔x∈m.map (·.1)) /\ Maps.size D=m.length:=by
 obtain⟨es,clock,rfl,h,hst⟩:=h
 have hlen:es.size=m.length:=by
  have:=congrArg List.length h
  simpa using this
 have hkey:∀x∈es.toList,∃p∈m,x.key=Value.int q p.1 /\ keyOf P kt x.key=some (.int q p.1):=by
  intro x hx
  have h1:(x.key,x.val)∈m.map (fun p=>(Value.int q p.1,p.2)):=by
   rw[←h];exact List.mem_map.2 ⟨x,hx,rfl⟩
  obtain⟨p,hp,he⟩:=List.mem_map.1 h1;have e:x.key=Value.int q p.1:=by simpa using(congrArg Prod.fst he).symm
  exact⟨p,hp,e,by rw[e];exact keyOf_int_mk hk (hw p hp)⟩
 refine⟨_,⟨es,clock,hb,⟨by omega,hst,?_⟩,by omega,rfl⟩,?_,?_⟩
 · intro x hx
   obtain⟨p,-,-,ha⟩:=hkey x hx;exact⟨_,by unfold rd;rw[ha];rfl⟩
 · intro x
   rw[has_sorted]
   constructor
   · rintro⟨y,hy,hs⟩
     obtain⟨e,he,rfl⟩:=List.mem_map.1 hy;obtain⟨p,hp,-,ha⟩:=hkey e he
     have e1:(rg (H:=Unit) P kt (fun _=>some (.lit (.bool true),[])) e).1=.int q p.1:=by
      unfold rg rd;rw[ha]
      rfl
     rw[e1]at hs;have:p.1=x:=(by simpa [Lit.sameKey]using hs);exact List.mem_map.2 ⟨p,hp,this⟩
   · intro hx
     obtain⟨p,hp,rfl⟩:=List.mem_map.1 hx
     have h1:(Value.int q p.1,p.2)∈es.toList.map (fun e=>(e.key,e.val)):=by
      rw[h];exact List.mem_map.2 ⟨p,hp,rfl⟩
     obtain⟨e,he,h2⟩:=List.mem_map.1 h1;obtain⟨p2,-,h3,ha⟩:=hkey e he;have e2:e.key=Value.int q p.1:=congrArg Prod.fst h2;rw[e2]at h3;have h4:p2.1=p.1:=(by simpa using h3.symm);rw[h4]at ha;refine⟨_,List.mem_map.2 ⟨e,he,rfl⟩,?_⟩
     have e1:(rg (H:=Unit) P kt (fun _=>some (.lit (.bool true),[])) e).1=.int q p.1:=by
      unfold rg rd;rw[ha]
      simp_all
     rw[e1];simp[Lit.sameKey]
 ·rw[size_eq,length_sorted,List.length_map,Array.length_toList,hlen]
def Coll (D0:DataW Unit)(left:Lit -> Bool)(ss:List Nat):Prop:=ss.Nodup /\ ∀x:Nat,x∈ss↔(has D0 (.int .u64 x)=true /\ left (.int .u64 x)=false)
theorem Coll.start (D0:DataW Unit):Coll D0 (has D0) []:=⟨List.nodup_nil,fun x=>by cases has D0 (.int .u64 x)<;>simp⟩
theorem Coll.step {D0:DataW Unit}{left:Lit -> Bool}{ss:List Nat}(h:Coll D0 left ss){x:Nat}{y:DataW Unit}(hlk:left (.int .u64 x)=true)(hat:∀zd,D0.atKey (.int .u64 x) zd=y):Coll D0 (fun z=>left z && !z.sameKey (.int .u64 x)) (ss++[x]):=by
 have hhas:has D0 (.int .u64 x)=true:=has_true_of_atKey hat;have hnew:x∉ss:=fun hx=>by have:=((h.2 x).1 hx).2;rw[hlk]at this;cases this
 refine⟨List.nodup_append.2 ⟨h.1,by simp,fun a ha b hb=>by simp at hb;subst hb;exact fun e=>hnew (e ▸ ha)⟩,fun y=>?_⟩
 by_cases hy:y=x
 ·subst hy;simp[hhas,Lit.sameKey]
 · have:¬(y:Int)=(x:Int):=by omega
   simp[h.2 y,hy,Lit.sameKey,this]
theorem key_u64 {k:TypeId}(hk:prog.underlying k=some (.int .u64)){key:Value}{kl:Lit}(h:keyOf prog k key=some kl):∃x:Nat,key=.int .u64 x /\ kl=.int .u64 x /\ x<18446744073709551616:=by
 obtain⟨x,rfl,rfl,hw⟩:=Maps.keyOf_int_inv hk h;obtain⟨h1,h2⟩:IntKind.u64.min <= x /\ x <= IntKind.u64.max:=by simpa [Lit.wf]using hw
 rw[show IntKind.u64.min=0 from rfl]at h1;rw[show IntKind.u64.max=18446744073709551615 from by decide]at h2;obtain⟨u,rfl⟩:∃u:Nat,x=u:=⟨x.toNat,by omega⟩;exact⟨u,rfl,rfl,by omega⟩
attribute [local go_sem] Oper.semAt_some
theorem keys64 (n:Nat)(hn:1 <= n)(w:World)(b nn Bm:Nat)(D0:DataW Unit){R:Value -> Option (DataW Unit×List MemPlace)}(hown:w.ownsMap prog 47 R b nn D0)(hm:w.cell? ⟨Bm,0,none⟩=some (.map (some b)))(n₀:Nat)(D:World -> Nat -> Prop)(G:World -> Prop):
  SeqG Fence.wide n prog 246 #[pt Bm] (fun x:Nat=>#[.int .u64 x]) (KpW n₀ D) (fun pre x=>pre.length+1 <= Maps.size D0 /\ x<18446744073709551616) (fun ss=>ss.Nodup /\ ss.length <= Maps.size D0 /\ ∀x:Nat,x∈ss↔has D0 (.int .u64 x)=true) G w:=fun l J W hW hJ hG hY h0=>by
 have hown':W.ownsMap prog 47 R b nn D0:=by
  have hbl:=hown.lt;obtain⟨es,clock,hb,Ft,hs,hD⟩:=hown;exact⟨es,clock,(hW.block b hbl).trans hb,Ft,hs,hD⟩
 have hm':W.cell? ⟨Bm,0,none⟩=some (.map (some b)):=(hW.cell (p:=⟨Bm,0,none⟩) (World.block_lt_of_cell? w _ hm)).trans hm;have HY:=uh hY;have HJ:=uh hJ;have H0:=uh h0;have hFl:Fence.wide.fn 246:= trivial;have hku:prog.underlying 47= some (.int .u64):=underlying47;have hro:Fence.wide.round=none:=rfl;clear hY hJ hG h0 hown hm hW;refine callsIn_of_wp func246 rfl hFl ?_ rfl;simp only[ntmps246,List.size_toArray,List.length_cons,List.length_nil,Nat.reduceAdd,Nat.reduceSub,Array.replicate_succ,Array.replicate_zero,List.push_toArray,List.append_toArray,List.nil_append,List.cons_append]
 gi_wp2_with (first
  | (gi_at_range;refine wpListIn_range_own _ rfl _ 193 rfl 47 3 (int_keyed hku) underlying193 _ b nn _ rfl hown' ?_;intro w0 hrg0 hg0 hs0)
  | gi_in)
 try go_frame
 gi_loopw [3] (fun _ wr=>∃(left:Lit -> Bool) (cnt:Nat) (ss:List Nat),wr.ranges prog 47 R b W.heap.size nn D0 left cnt /\ ss.length+cnt <= Maps.size D0 /\ Coll D0 left ss /\ J ss wr)
  (fun _ wr=>wr.rangeLeft b W.heap.size)
 case atStart=>
  exact⟨_,_,[],hrg0,by simp,Coll.start D0,HJ.out [] W w0 none H0.out hg0 (fun r e=>by cases e)⟩
 case round=>
  obtain⟨left,cnt,ss,hrg,hcs,hC,hJs⟩:=hrel
  gi_wp2_with (first
   | (gi_at_next;refine wpListIn_next_ranges _ rfl _ rfl 47 (int_keyed hku) R (fun x:Nat=>Value.int .u64 x) id (fun key kl hk=>by obtain⟨x,hx,_⟩:=key_u64 hku hk;exact⟨x,hx⟩) (fun v _ _=>⟨v,rfl⟩) b W.heap.size nn _ _ _ rfl hrg ?_ ?_)
   | gi_in)
  · intro hc0 hl0
    gi_wp2
    go_end0;exact⟨⟨_,rfl⟩,ss,⟨hC.1,by omega,fun x=>by rw[hC.2 x,hl0];simp⟩,hJs⟩
  · intro x c kl yd yp w2 cnt2 hkey hlk hv hat hrg2 hlt hg2 hs2 hen
    obtain⟨x',ex,rfl,hx64⟩:=key_u64 hku hkey
    obtain rfl : x = x' := by have h9 : (x : Int) = (x' : Int) := by simpa using ex
                              omega
    have hJ2:J ss w2:=HJ.out ss wr w2 (some W.heap.size) hJs hg2 (fun r e=>by cases e;exact⟨Nat.le_refl _,hrg.iter_walk⟩);obtain⟨fn,tmps,assign,body,hy,hR⟩:=HY.out ss x w2 ⟨by omega,hx64⟩ hJ2;clear hs2
    gi_wp2
    refine hR.mono ?_;rintro e W3 ⟨rfl,hJ3,hk3⟩
    gi_wp2
    have hrg3:=hrg2.of_walks hk3.2
    go_roundw
    case rel=>exact⟨_,cnt2,ss++[x],hrg3,by simp;omega,hC.step hlk hat,hJ3⟩
    case measure=>rw[hrg3.left_eq,hrg.left_eq];exact hlt
end
section
open Go Go.RowKit Go.Shelf Go.IntWalk Go.Maps Go.Sort
theorem get_nat {l:List Int}(h0:∀x∈l,0 <= x):(l.map Int.toNat).map (fun n:Nat=>Value.int .u64 n)=l.map (Value.int .u64):=by
 rw[List.map_map];refine List.map_congr_left fun x hx=>?_
 show Value.int .u64 (x.toNat:Int)=_
 rw[Int.toNat_of_nonneg (h0 x hx)]
theorem srow64 (w:World)(xs:List Nat)(ao:Option Addr)(cap:Nat)(l:List Blk)(hr:Row 47 1 ao xs.length cap (n64s xs) l)(hH:Has w l)(hn:xs.length <= 65536):
  Calls prog 245 #[.slice ao xs.length cap] w fun e w'=>e=.returned (.tuple #[]) /\ ∃ys l',ys.Perm xs /\ ys.Pairwise (· <= ·) /\ Row 47 1 ao xs.length cap (n64s ys) l' /\ Turn l w l' w':=by
 obtain⟨hx,hc,hm,h|⟨g,cur,rfl,rfl,hcs,htk⟩⟩:=hr
 · obtain⟨rfl,hcap,rfl⟩:=h
   have hxs:xs=[]:=by
    cases xs with
    | nil=>rfl
    | cons a b=>simp at hc;omega
   subst hxs;subst hcap;refine(srtnil64 w).mono ?_;rintro e w' ⟨rfl,rfl⟩;exact⟨rfl,[],[],.refl _,.nil,Row.nil _ _,Turn.refl hH⟩
 · have hcur:∀j v,xs[j]?= some v -> cur[j]?= some (Value.int .u64 (v:Nat)):=fun j v hj=>by
     rw[take_get htk j (by have:=(List.getElem?_eq_some_iff.1 hj).1;omega)];exact n64s_at hj
   obtain⟨d,hd⟩:∃d:Array Int,d=(xs.map Int.ofNat).toArray:=⟨_,rfl⟩;have hds:d.size=xs.length:=(by rw[hd];simp);have hdl:d.toList=xs.map Int.ofNat:=by rw[hd]
   have hlay:Lay .u64 cur 0 d:=fun j hj=>by
    obtain⟨v,hv⟩:∃v,xs[j]?= some v:=⟨xs[j]'(by omega),List.getElem?_eq_getElem _⟩;rw[Nat.zero_add,hcur j v hv];have h1:d[j]?= some (v:Int):=(by rw[hd];simp[hv]);rw[getElem!_def,h1]
   have hs:=srt64 g 0 cap cur w d [] w (Ts.refl hH hlay) (by omega);rw[hds]at hs;refine hs.mono ?_;rintro e w' ⟨rfl,d',⟨hP,hSo⟩,c,h1,h2,hT⟩;have hsz:d'.size=xs.length:=hP.1.trans hds
   have hpl:d'.toList.Perm (xs.map Int.ofNat):=by
    have h3:=hP.2.2;rw[show d'.extract 0 xs.length=d' from by rw[←hsz];exact Array.extract_size,show d.extract 0 xs.length=d from by rw[←hds];exact Array.extract_size,hdl]at h3;exact h3
   have h0:∀x∈d'.toList,0 <= x:=fun x hx=>by
    obtain⟨n,-,rfl⟩:=List.mem_map.1 (hpl.mem_iff.1 hx);exact Int.natCast_nonneg n
   have hperm:(d'.toList.map Int.toNat).Perm xs:=by
    have h3:=hpl.map Int.toNat;rw[List.map_map]at h3
    have h4:xs.map (Int.toNat ∘ Int.ofNat)=xs:=by
     rw[show(Int.toNat ∘ Int.ofNat)=id from by funext n;rfl,List.map_id]
    rw[h4]at h3;exact h3
   have hyl:(d'.toList.map Int.toNat).length=xs.length:=hperm.length_eq;refine⟨rfl,d'.toList.map Int.toNat,_,hperm,?_,⟨by rw[n64s_length];omega,hc,hm,.inr ⟨g,c,rfl,rfl,by omega,?_⟩⟩,hT⟩
   · rw[List.pairwise_iff_getElem]
     intro i j hi hj hij;have hj2:j<d'.size:=(by simpa using hj);have h5:=hSo i j (Nat.zero_le _) hij (by omega);rw[getElem!_pos d' i (by omega),getElem!_pos d' j hj2]at h5;have h6:d'[i]'(by omega) <= d'[j]'hj2:=(by simpa [ltInt]using h5);simp only[List.getElem_map,Array.getElem_toList];omega
   · unfold n64s
     rw[get_nat h0,Nat.mul_one];refine List.ext_getElem? fun j=>?_
     by_cases hj:j<xs.length
     · rw[List.getElem?_take_of_lt hj,Array.getElem?_toList]
       have h7:=h2 j (by omega);rw[Nat.zero_add]at h7;rw[h7,List.getElem?_map,Array.getElem?_toList,Array.getElem?_eq_getElem (by omega),getElem!_pos d' j (by omega)]
       rfl
     ·rw[List.getElem?_eq_none (by rw[List.length_take];omega),List.getElem?_eq_none (by rw[List.length_map,Array.length_toList];omega)]
theorem sorted64 (w:World)(b Bm:Nat)(m:List (Int×Value))(o:Obj)(hb:w.heap[b]?= some o)(hm:MapSt .u64 m o)(hk:∀p∈m,0 <= p.1 /\ p.1<18446744073709551616)(hl:m.length <= 4096)(hc:w.cell? ⟨Bm,0,none⟩=some (.map (some b))):
  Calls prog 215 #[.func (.func 246) #[] #[pt Bm]] w fun e w'=>∃(ys:List Nat) (ao:Option Addr) (cap:Nat) (l:List Blk),e=.returned (.slice ao ys.length cap) /\ ys.Nodup /\ ys.Pairwise (· <= ·) /\ ys.length <= 4096 /\ (∀x:Nat,x∈ys↔(x:Int)∈m.map (·.1)) /\ Row 47 1 ao ys.length cap (n64s ys) l /\ Turn [] w l w':=by
 obtain⟨D0,hown,hhas,hsize⟩:=hm.ownsQ (P:=prog) (kt:=47) hb underlying47 (fun p hp=>by
  have h:=hk p hp;have h2:IntKind.u64.min <= p.1 /\ p.1 <= IntKind.u64.max:=⟨by rw[show IntKind.u64.min=0 from rfl];exact h.1,by rw[show IntKind.u64.max=18446744073709551615 from by decide];omega⟩
  simpa [Lit.wf]using h2) (Nat.le_trans hl (by decide))
 have HC:=uh (col64 w 246 #[pt Bm] 4096 (by omega) (fun pre x=>pre.length+1 <= Maps.size D0 /\ x<18446744073709551616) (fun ss=>ss.Nodup /\ ss.length <= Maps.size D0 /\ ∀x:Nat,x∈ss↔has D0 (.int .u64 x)=true) (fun pre x h=>by omega)
  (enters_of func246 (by kernel_rfl) rfl)
  (fun W0 hB=>keys64 5 (by omega) W0 b _ Bm D0 (by
    have hbl:=hown.lt;obtain⟨es,clock,hb,Ft,hs,hD⟩:=hown;exact⟨es,clock,(hB.block b hbl).trans hb,Ft,hs,hD⟩) ((hB.cell (p:=⟨Bm,0,none⟩) (World.block_lt_of_cell? w _ hc)).trans hc) _ _ _))
 have HH:=uh hhas;have Hz:=uh hsize;clear hown hhas hsize hm hb hk hc
 go_enter func215,ntmps215
 go_wp2_with fail
 refine HC.out.mono ?_;rintro e w2 ⟨xs,ao,cap,l,⟨hnd,hxl,hmem⟩,rfl,hr,T⟩;have hx4:xs.length <= 4096:=by rw[Hz.out]at hxl;omega
 have Hs:=uh (srow64 w2 xs ao cap l hr T.has (by omega));have HT:=uh T;have HX:=uh (⟨hnd,fun x=>(hmem x).trans (HH.out x)⟩:xs.Nodup /\ ∀x:Nat,x∈xs↔(x:Int)∈m.map (·.1));clear hnd hmem hxl hr T HC HH Hz
 go_wp2_with fail
 refine Hs.out.mono ?_;rintro e w3 ⟨rfl,ys,l',hp,hpw,hr,T⟩;have HY:=uh (⟨hp,hpw,hr,HT.out.trans T⟩:ys.Perm xs /\ ys.Pairwise (· <= ·) /\ Row 47 1 ao xs.length cap (n64s ys) l' /\ Turn [] w l' w3);clear hp hpw hr T HT Hs
 go_wp2_with fail
 go_ret;obtain⟨hp,hpw,hr,T⟩:=HY.out;have hyl:=hp.length_eq;exact⟨ys,ao,cap,l',by rw[hyl];rfl,hp.nodup_iff.2 HX.out.1,hpw,by omega,fun x=>hp.mem_iff.trans (HX.out.2 x),by rw[hyl];exact hr,T⟩
end
end Go.Proofs.YtbecgkejdacidaaGreatDoor
