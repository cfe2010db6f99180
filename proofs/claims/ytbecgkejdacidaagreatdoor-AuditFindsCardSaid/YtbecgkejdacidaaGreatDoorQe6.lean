/-
  A part of a proof: texts packed by a program of mine.
  Conditions: those that each theorem states.
-/
import Derived.Test.YtbecgkejdacidaaGreatDoorRows
import Derived.JoinedOf
import GoSem.ClaimSeven
import Derived.SevenTiedAt
import Derived.Test.YtbecgkejdacidaaGreatDoorQe5
set_option maxRecDepth 100000
set_option maxHeartbeats 12800000
open Go.Proofs.Tryz
namespace Go.Proofs.YtbecgkejdacidaaGreatDoor
section
open Go Go.RowKit Go.IntWalk
theorem asound (w:World)(v0 v1 v2 v3 v4:Value)(N:Nat)(hN:N <= maxLen)(hO:Calls prog 25 #[v0,v1,v2,v3,v4] w fun e w'=>∃(ao:Option Addr) (cap:Nat),e=.returned (.tuple #[.slice ao N cap,.int .i64 0]) /\ Below w.heap.size w w'):
  Calls prog 29 #[v0,v1,v2,v3,v4] w fun e w'=>e=.returned (.bool (decide (N=0))) /\ Below w.heap.size w w':=by
 have HO:=uh hO;clear hO
 go_enter func29,ntmps29
 go_wp2_with fail
 refine HO.out.mono ?_;rintro e w1 ⟨ao,cap,rfl,hB⟩;have HB:=uh hB;clear hB HO
 by_cases h:N=0
 · subst h
   go_wp2_with fail
   go_ret;exact⟨rfl,HB.out⟩
 · have hz:¬(N:Int)=0:=by omega
   have Hf:=uh (decide_eq_false h);have Hz:=uh (show(((N:Nat):Int) == 0)=false by simp;exact h);clear h
   go_wp2_with fail
   go_ret;exact⟨by rw[Hf.out];show Ending.returned (Value.bool (((N:Nat):Int) == 0))=_;rw[Hz.out],HB.out⟩
theorem aof_nil (w:World)(ph pw pp pb:Option Addr):Calls prog 25 #[.pointer none,.pointer ph,.pointer pw,.pointer pp,.pointer pb] w fun e w'=>e=.returned (.tuple #[.slice none 0 0,.int .i64 1]) /\ Below w.heap.size w w':=by
 have T0:=(((((Turn.refl (Has.nil w)).alloc (.cells #[.pointer none] 26)).alloc (.cells #[.pointer ph] 73)).alloc (.cells #[.pointer pw] 68)).alloc (.cells #[.pointer pp] 74)).alloc (.cells #[.pointer pb] 103);simp only[World.size_alloc]at T0;have q5:=T0.has.cell (b:=w.heap.size) (c:=#[.pointer none]) (e:=26) (f:=(0,0)) (by simp) 0;have HT0:=uh T0;clear T0
 go_enter func25,ntmps25
 go_wp2_with fail
 refine bodyPost_ret (results_tmp2 rfl _ _ _) rfl ?_;exact⟨rfl,HT0.out.below⟩
def xL:List Ty:=[⟨2,0,0⟩]
def xH:Hd:=⟨1,1,1,1⟩
def xC:Ce:=(0,gapHd 8)
def xW0:List Nat:=lay (List.replicate 16 0) 0 8
def xW1:List Nat:=putW xW0 xC 1 xH
def xW2:List Nat:=xW1.set 3 1048580
def xCs:List Ce:=[(0,gapHd 1),(1,xH),(2,gapHd 6)]
theorem xMay:(∀t∈xL,t.may) /\ xL.length <= 64:=⟨by intro t ht;obtain rfl:t=⟨2,0,0⟩:=List.mem_singleton.1 ht;decide,by decide⟩
theorem xTy:∀t∈xL,TyIn t:=by
 intro t ht;obtain rfl:t=⟨2,0,0⟩:=List.mem_singleton.1 ht
 constructor<;>decide
theorem xGood0:Good xL xW0 [xC]:=Good.new (n:=16) xMay.1 xMay.2 (by decide) (by decide) (by decide)
theorem xFits:fits xL xH:=⟨by decide,fun _=>⟨⟨2,0,0⟩,rfl,by decide,by decide⟩⟩
theorem xGood1:Good xL xW1 xCs:=Good.put (a:=[]) (b:=[]) (c:=xC) xGood0 (g:=1) (hd:=xH) xFits (by decide) (by decide)
theorem xGood2:Good xL xW2 xCs:=xGood1.slot (c:=(1,xH)) (by unfold xCs;simp) (j:=3) (v:=1048580) (by decide) (by decide) (by decide)
theorem xTouch:noTouch xCs:=by unfold xCs;exact⟨.inr rfl,.inl rfl,trivial⟩
theorem xBad1:badsOf xL xW1 xCs=[]:=by decide +kernel
theorem xBad2:badsOf xL xW2 xCs=[(1,0,-1,1048580)]:=by decide +kernel
def xS1:List HSlot:=List.replicate 4 zeroHSlot
def xS2:List HSlot:=[⟨1,1048582⟩,zeroHSlot,zeroHSlot,zeroHSlot]
theorem xHd1:hdl xS1=[]:=by decide +kernel
theorem xHd2:hdl xS2=[(4294967296,1048582)]:=by decide +kernel
theorem xWr1:wrongs xL xW1 xCs [] [] []=[]:=by unfold wrongs;rw[xBad1];rfl
theorem xWr2:wrongs xL xW2 xCs [(4294967296,1048582)] [] []=[(2,1,0,0,8),(3,0,0,4294967296,0)]:=by unfold wrongs;rw[xBad2];decide +kernel
theorem xLn1:brLine 2 1 0 0 8=[114,101,102,32,49,32,48,32,48,32,56]:=by decide +kernel
theorem xLn2:brLine 3 0 0 4294967296 0=[104,97,110,100,32,48,32,48,32,52,50,57,52,57,54,55,50,57,54,32,48]:=by decide +kernel
theorem xLn3:brLine 99 (-1) 0 0 0=[63,32,45,49,32,48,32,48,32,48]:=by decide +kernel
theorem xBits {B B':List Nat}(h0:∀j,bitAt B j=false)(h:SetIn B B' 1 1):bitsOf B' 8 (objs xCs):=fun i hi=>by
 rw[h.2.2 i,h0 i,Bool.false_or,Bool.and_eq_true,decide_eq_true_eq,decide_eq_true_eq];have ho:objs xCs=[(1,xH)]:=rfl;rw[ho]
 constructor
 ·rintro⟨h1,h2⟩;exact⟨_,List.mem_singleton.2 rfl,by show 1=i;omega⟩
 · rintro⟨c,hc,he⟩
   rw[List.mem_singleton.1 hc]at he;have:1=i:=he;omega
theorem xZero (n j:Nat):bitAt (List.replicate n 0) j=false:=by
 unfold bitAt;rw[List.getD_eq_getElem?_getD,List.getElem?_replicate]
 split<;>simp
theorem xHandCells {b:Nat}{S:List HSlot}{l:List Blk}(h:HandsIs b S l):∀x∈l,x.2.isCells=true:=by
 obtain⟨-,g,cur,rfl,-⟩:=h;intro x hx;simp only[List.mem_cons,List.not_mem_nil,or_false]at hx;rcases hx with rfl|rfl<;>rfl
theorem xSb {w1 w:World}{sb a aw tb bb:Nat}{W B:List Nat}{lb R:List Blk}{cw:Int}{tao:Option Addr}{tcap:Nat}{L:List Ty}(T:Turn [] w1 (arBlks a aw W cw++(spBlk sb a tb bb::lb)++R) w)(hTab:TabAt w1 tb tao tcap L)(hF:Fields w1)(hf:W.length <= 65536)(hbit:BitIs bb B (W.length/2) lb):
  ∃bo bcap,SbAt w sb a aw tb bb W B bo bcap tao tcap L:=by
 obtain⟨bo,bcap,hBit⟩:=hbit.at_ (R:=arBlks a aw W cw++(spBlk sb a tb bb::R)) (T.has.perm po);exact⟨bo,bcap,spAt_of T hTab hF hf,T.has.cell (b:=sb) (c:=#[pt a,pt tb,pt bb]) (e:=146) (f:=(0,0)) (by simp[spBlk]) 2,hBit⟩
theorem VwAt.ofEnd {l L M:List Blk}{w w':World}{vb a:Nat}{g:Int}{h:Hd}{t:Ty}(T:Turn l w (L++(M++[(vb,.cells (viewCells a g h t).toArray 238)])) w'):VwAt w' vb a g h t:=
 T.has.range (b:=vb) (c:=(viewCells a g h t).toArray) (e:=238) (f:=(0,0)) (by simp)
theorem alive29 (w:World)(hF:Fields w)(ht:TabW w):Calls prog 23 #[] w fun e w'=>e=.returned (.bool true) /\ Below w.heap.size w w':=by
 have HF:=uh hF;have Ht:=uh (Lib.tabBelow_of_tabIs ht);obtain⟨n1,hn1⟩:∃n1,w.heap.size=n1:=⟨_,rfl⟩;have T0:=(Turn.refl (Has.nil w)).alloc (.cells #[.int .u8 2,.int .i64 0,.int .u64 0] 49);have hr:Row 49 3 (some ⟨w.heap.size,0,none⟩) 1 1 [.int .u8 2,.int .i64 0,.int .u64 0] [(w.heap.size,.cells #[.int .u8 2,.int .i64 0,.int .u64 0] 49)]:=Row.lit (size:=3) w.heap.size #[.int .u8 2,.int .i64 0,.int .u64 0] 1 rfl (by decide);have hS:Src (w.alloc (.cells #[.int .u8 2,.int .i64 0,.int .u64 0] 49)) (some ⟨w.heap.size,0,none⟩) xL.length 1 3 (tys xL):=hr.src (R:=[]) T0.has;rw[hn1]at T0 hS;have HS:=uh hS;have HT0:=uh T0;clear hF ht hr hS T0
 go_enter func23,ntmps23
 go_wp2_with fail
 refine tnew _ xL (some ⟨n1,0,none⟩) 1 HS.out xTy (by decide) _ (uh (fun _ w1 lt hti T1=>?_)) (uh (fun h=>absurd xMay h));obtain⟨tao,tcap,hTab⟩:=hti.tab (R:=[]) (by rw[List.append_nil];exact T1.has);have hB1:=(HT0.out.call T1.below).below;have HTab:=uh hTab;have HB1:=uh hB1;have HF1:=uh (range_below HF.out hB1);have Hsn:=uh (snew w1 (range_below HF.out hB1) (w.alloc (.cells #[.int .u8 2,.int .i64 0,.int .u64 0] 49)).heap.size 16 (by decide));generalize(w.alloc (.cells #[.int .u8 2,.int .i64 0,.int .u64 0] 49)).heap.size=tb at*;clear T1 hti HS hTab hB1 HT0
 go_wp2_with fail
 refine Hsn.out.mono ?_;rintro e w2 ⟨sb,l,rfl,⟨a,aw,bb,cw,lb,hbit,rfl⟩,T2⟩;have T2':Turn [] w1 (arBlks a aw xW0 cw++(spBlk sb a tb bb::lb)) w2:=T2;have Hhn:=uh (hNew_any w2 4 (by decide) T2'.has);have HT2:=uh T2';clear T2 T2' Hsn
 go_wp2_with fail
 refine Hhn.out.mono ?_;rintro e w3 ⟨hb,lh,rfl,hHd,T3⟩;have T3':Turn [] w1 (arBlks a aw xW0 cw++(spBlk sb a tb bb::lb)++lh) w3:=(HT2.out.trans T3).perm po;have hA3:=spAt_of T3' HTab.out HF1.out (by decide);have hHc:=xHandCells hHd;have HP:=uh (callsIn_wide.1 (sput_in 5 (by omega) w3 sb a aw tb bb tao tcap xL hA3 hbit (by intro v hv;simp at hv;omega) (by decide) hHc T3' HTab.out HF1.out (by decide) xGood0.u64 xTy (by decide) [xC] xGood0.chain 1 1 1 1 (by decide) (by decide) (by decide) (by decide)));have HHd:=uh hHd;clear T3 T3' hA3 Hhn hbit hHd HT2 hHc
 go_wp2_with fail
 refine HP.out.mono ?_;rintro e w4 ⟨er,l',rfl,T4,hE⟩;rcases hE with⟨rfl,rfl,hno⟩|⟨rfl,c,hc,htk,B',lb',cw',hset,hbit',rfl⟩
 ·exact absurd (show takes xC 1 1 by unfold takes;decide) (hno xC (by simp))
 obtain rfl:c=xC:=List.mem_singleton.1 hc;have T4':Turn [] w1 (arBlks a aw xW1 cw'++(spBlk sb a tb bb::lb')++lh) w4:=T4;have hset1:SetIn (List.replicate ((16/2+63)/64) 0) B' 1 1:=hset;have hbit1:BitIs bb B' (xW1.length/2) lb':=hbit';have hI:∀W,Good xL W xCs -> W.length=16 -> SdIn xL W B' xCs:=fun W hG hW=>⟨by omega,hG.u64,xTy,by decide,hG.chain,hset1.2.1,by rw[hset1.1,hW];rfl,by rw[hW];exact xBits (xZero _) hset1⟩;have HI:=uh hI;obtain⟨bo,bcap,hSb⟩:=xSb T4' HTab.out HF1.out (by decide) hbit1;have hPt:Pointed w4.heap.size w4 (some ⟨hb,0,none⟩) xS1:=HHd.out.pointed (R:=arBlks a aw xW1 cw'++(spBlk sb a tb bb::lb')) (T4'.has.perm po)
 have ho:=aof w4 sb a aw tb bb bo bcap tao tcap xL xCs hSb (hI xW1 xGood1 (by decide)) xTouch (some ⟨hb,0,none⟩) none none (hdl xS1) [] [] (by rw[xHd1];simp) (by simp) (by simp) (by rw[xHd1];simp) (by simp) (by simp) (by simp)
  (tells_hrefs w4 _ xS1 (by decide) (by decide) hPt) (tells_hlist w4 _ xS1 (by decide) (by decide) hPt) (tells_none w4 npList) (tells_none w4 nwRefs) (tells_none w4 nwList)
 rw[xHd1,xWr1]at ho;have Hsd:=uh (asound w4 _ _ _ _ _ 0 (Nat.zero_le _) (ho.mono fun e w' ⟨ao,cap,l,h1,h2,h3⟩=>⟨ao,cap,h1,h3.below⟩));have Hbit:=uh hbit1;have HT4:=uh T4';clear T4 T4' hset hset1 hbit' hbit1 hI hSb hPt ho HP htk hc
 go_wp2_with fail
 refine Hsd.out.mono ?_;rintro e w5 ⟨rfl,hB5⟩;have HT5:=uh (HT4.out.call hB5);have hA5:=spAt_of HT5.out HTab.out HF1.out (by decide);have Har:=uh (sarena w5 (a:=⟨a,0,none⟩) rfl hA5.c0);have hof:=sof w5 hA5.fields hA5.ar xGood1.u64 xL xTy (by decide) tb tao tcap hA5.tab ((1:Nat):Int);rw[objq_of (g:=1) (h:=xH) (xGood1.chain.mem (1,xH) (by unfold xCs;simp)).2.2 rfl]at hof;have Hof:=uh hof;clear hB5 hA5 hof HT4 Hsd
 go_wp2_with (first
  | (go_at_call 44;refine Har.out.mono ?_;rintro e w' ⟨rfl,hw⟩;rw[hw];clear hw w')
  | fail)
 refine Hof.out.mono ?_;rintro e w6 ⟨vb,rfl,T6⟩;have HT6:=uh ((HT5.out.grow T6).perm (l2:=arBlks a aw xW1 cw'++(((spBlk sb a tb bb::lb')++lh)++[(vb,.cells (viewCells a ((1:Nat):Int) xH (tyAt xL xH.typ)).toArray 238)])) po);have Hst:=uh (vstore w6 HT6.out (by decide) (VwAt.ofEnd HT6.out) (xTy _ (List.mem_singleton.2 rfl)) (by decide) (by decide) 0 1048580 (by decide) (by decide));clear T6 Har Hof HT5
 go_wp2_with (first
  | (go_at_call 51;refine(saddr _ 2 (by decide)).mono ?_;rintro e w' ⟨rfl,hw⟩;rw[hw];clear hw w')
  | fail)
 refine Hst.out.mono ?_;rintro e w7 ⟨rfl,n',T7⟩;have T7':Turn [] w1 (arBlks a aw xW2 n'++(((spBlk sb a tb bb::lb')++lh)++[(vb,.cells (viewCells a ((1:Nat):Int) xH (tyAt xL xH.typ)).toArray 238)])) w7:=T7;have T7b:=(T7'.sub (l2:=arBlks a aw xW2 n'++((spBlk sb a tb bb::lb')++lh)) (by simp)).perm (l2:=lh++(arBlks a aw xW2 n'++(spBlk sb a tb bb::lb'))) po;have Had:=uh (hAdd_at w7 HHd.out T7b.has 1048582 (by decide) (by decide) 0 zeroHSlot rfl rfl (fun j t hj=>by omega));have HT7:=uh T7b;clear T7 T7' T7b Hst HT6
 go_wp2_with (first
  | (go_at_call 51;refine(saddr _ 3 (by decide)).mono ?_;rintro e w' ⟨rfl,hw⟩;rw[hw];clear hw w')
  | fail)
 refine Had.out.mono ?_;rintro e w8 ⟨rfl,lh2,hHd2,T8⟩;have hHd3:HandsIs hb xS2 lh2:=hHd2;have T8':Turn [] w1 (arBlks a aw xW2 n'++(spBlk sb a tb bb::lb')++lh2) w8:=(HT7.out.trans T8).perm po;obtain⟨bo2,bcap2,hSb⟩:=xSb T8' HTab.out HF1.out (by decide) Hbit.out;have hPt:Pointed w8.heap.size w8 (some ⟨hb,0,none⟩) xS2:=hHd3.pointed (R:=arBlks a aw xW2 n'++(spBlk sb a tb bb::lb')) (T8'.has.perm po)
 have ho:∀w9,Below w8.heap.size w8 w9 -> _:=fun w9 (hk:Below w8.heap.size w8 w9)=>aof w9 sb a aw tb bb bo2 bcap2 tao tcap xL xCs (hSb.below hk) (HI.out xW2 xGood2 (by decide)) xTouch (some ⟨hb,0,none⟩) none none (hdl xS2) [] [] (by rw[xHd2];simp) (by simp) (by simp) (by rw[xHd2];simp) (by simp) (by simp) (by simp)
  ((tells_hrefs w8 _ xS2 (by decide) (by decide) hPt).below hk) ((tells_hlist w8 _ xS2 (by decide) (by decide) hPt).below hk) (tells_none w9 npList) (tells_none w9 nwRefs) (tells_none w9 nwList)
 rw[xHd2,xWr2]at ho;have HO:=uh ho;have HB8:=uh (HB1.out.trans (T8'.below.mono HB1.out.size));clear hHd2 hHd3 T8 T8' hSb hPt ho Had HT7 HHd HI Hbit
 go_wp2_with fail
 refine(HO.out w8 (Below.refl _ _)).mono ?_;rintro e w9 ⟨ao,cap,l9,rfl,hrow,T9⟩;have hS9:=hrow.src (R:=[]) (by rw[List.append_nil];exact T9.has);have HS9:=uh hS9;have HB9:=uh T9.below;clear hrow hS9 T9
 go_wp2_with fail
 refine(aof_nil w9 _ _ _ _).mono ?_;rintro e w10 ⟨rfl,hB10⟩;have hS10:=HS9.out.below hB10;obtain⟨b,off,rfl,-⟩:=hS10.form (by decide);have HO10:=HO;have hr0:∀u,Below w10.heap.size w10 u -> u.rangeAt b (off+0*5) [.int .u8 2,.int .i64 1,.int .i64 0,.int .u64 0,.int .i64 8]:=fun u hk=>Src.fm (f:=brCells) (fun _=>rfl) (S:=[(2,1,0,0,8),(3,0,0,4294967296,0)]) (hS10.below hk) (i:=0) rfl;have hr1:∀u,Below w10.heap.size w10 u -> u.rangeAt b (off+1*5) [.int .u8 3,.int .i64 0,.int .i64 0,.int .u64 4294967296,.int .i64 0]:=fun u hk=>Src.fm (f:=brCells) (fun _=>rfl) (S:=[(2,1,0,0,8),(3,0,0,4294967296,0)]) (hS10.below hk) (i:=1) rfl;have Hr1:=uh hr1;have q0:=hr0 w10 (Below.refl _ _);have hszB:(prog.info? 60).map (·.size)=some 5:=by kernel_rfl
 have HB10:=uh (HB8.out.trans ((HB9.out.trans (hB10.mono HB9.out.size)).mono HB8.out.size));have HB810:=uh (HB9.out.trans (hB10.mono HB9.out.size));clear hr0 hr1 hB10 hS10 HS9
 have hL0:Calls prog 39 #[.agg #[.int .u8 2,.int .i64 1,.int .i64 0,.int .u64 0,.int .i64 8]] w10 fun e w'=>e=.returned (.string ⟨#[114,101,102,32,49,32,48,32,48,32,56]⟩) /\ Below w10.heap.size w10 w':=by
  have h:=aline w10 (Ht.out w10 HB10.out) 2 (by decide) 1 0 0 8 (by decide) (by decide) (by decide) (by decide) (by decide) (by decide) (by decide);rw[xLn1]at h;exact h
 have HL0:=uh hL0;clear hL0
 go_wp2_with (first
  | (show lW 60;refine wpList_load_g 60 _ rfl (by rfl) b (off) rfl [.int .u8 2,.int .i64 1,.int .i64 0,.int .u64 0,.int .i64 8] _ q0 underlying60 rfl hszB ?_;clear q0)
  | fail)
 refine HL0.out.mono ?_;rintro e w11 ⟨rfl,hB11⟩;have q1:=Hr1.out w11 hB11;have HB11:=uh (HB10.out.trans (hB11.mono HB10.out.size));have HB811:=uh (HB810.out.trans (hB11.mono HB810.out.size));clear hB11 HL0 HB10 HB810 Hr1
 have hL1:Calls prog 39 #[.agg #[.int .u8 3,.int .i64 0,.int .i64 0,.int .u64 4294967296,.int .i64 0]] w11 fun e w'=>e=.returned (.string ⟨#[104,97,110,100,32,48,32,48,32,52,50,57,52,57,54,55,50,57,54,32,48]⟩) /\ Below w11.heap.size w11 w':=by
  have h:=aline w11 (Ht.out w11 HB11.out) 3 (by decide) 0 0 4294967296 0 (by decide) (by decide) (by decide) (by decide) (by decide) (by decide) (by decide);rw[xLn2]at h;exact h
 have HL1:=uh hL1;clear hL1
 go_wp2_with (first
  | (show lW 60;refine wpList_load_g 60 _ rfl (by rfl) b (off+5) rfl [.int .u8 3,.int .i64 0,.int .i64 0,.int .u64 4294967296,.int .i64 0] _ q1 underlying60 rfl hszB ?_;clear q1)
  | fail)
 refine HL1.out.mono ?_;rintro e w12 ⟨rfl,hB12⟩;have HB12:=uh (HB11.out.trans (hB12.mono HB11.out.size));have Hsd2:=uh (asound w12 _ _ _ _ _ 2 (by decide) ((HO10.out w12 (HB811.out.trans (hB12.mono HB811.out.size))).mono fun e w' ⟨ao,cap,l,h1,h2,h3⟩=>⟨ao,cap,h1,h3.below⟩));clear hB12 HL1 HB11 HB811
 go_wp2_with fail
 refine Hsd2.out.mono ?_;rintro e w13 ⟨rfl,hB13⟩;have HB13:=uh (HB12.out.trans (hB13.mono HB12.out.size));clear hB13 HB12 Hsd2
 have hL2:Calls prog 39 #[.agg #[.int .u8 99,.int .i64 (-1),.int .i64 0,.int .u64 0,.int .i64 0]] w13 fun e w'=>e=.returned (.string ⟨#[63,32,45,49,32,48,32,48,32,48]⟩) /\ Below w13.heap.size w13 w':=by
  have h:=aline w13 (Ht.out w13 HB13.out) 99 (by decide) (-1) 0 0 0 (by decide) (by decide) (by decide) (by decide) (by decide) (by decide) (by decide);rw[xLn3]at h;exact h
 have HL2:=uh hL2;clear hL2
 go_wp2_with fail
 refine HL2.out.mono ?_;rintro e w14 ⟨rfl,hB14⟩;have HB14:=uh (HB13.out.trans (hB14.mono HB13.out.size));clear hB14 HB13 HL2
 go_wp2_with fail
 go_ret;exact⟨rfl,HB14.out⟩
def AudAt (w1 w:World)(sb tb rb hd wb pb mb:Nat)(lao:Option Addr)(lcap:Nat)(L:List Ty)(W B Wr:List Nat)(rs:List Nat)(S:List Slot)(m:List (Int×Value))(X:List Blk):Prop:=
 ∃(ls lr lh lw:List Blk) (om:Obj),SpIs sb tb W B ls /\ RefIs rb lao L.length lcap Wr lr /\ HandsIs hd (hSl rs) lh /\ WeaksIs wb S lw /\ MapSt .u64 m om /\
  Turn [] w1 (ls++(lr++(lh++(lw++((mb,om)::(pb,.cells #[.map (some mb)] 195)::X))))) w
section
variable {w1 w:World} {sb tb rb hd wb pb mb:Nat} {lao:Option Addr} {lcap:Nat} {L:List Ty} {W B Wr:List Nat} {rs:List Nat} {S:List Slot} {m:List (Int×Value)} {X:List Blk}
theorem AudAt.call {w':World}(h:AudAt w1 w sb tb rb hd wb pb mb lao lcap L W B Wr rs S m X)(hB:Below w.heap.size w w'):AudAt w1 w' sb tb rb hd wb pb mb lao lcap L W B Wr rs S m X:=by
 obtain⟨ls,lr,lh,lw,om,h1,h2,h3,h4,h5,T⟩:=h;exact⟨ls,lr,lh,lw,om,h1,h2,h3,h4,h5,T.call hB⟩
theorem AudAt.drew (h:AudAt w1 w sb tb rb hd wb pb mb lao lcap L W B Wr rs S m X):AudAt w1 w.drew sb tb rb hd wb pb mb lao lcap L W B Wr rs S m X:=by
 obtain⟨ls,lr,lh,lw,om,h1,h2,h3,h4,h5,T⟩:=h;exact⟨ls,lr,lh,lw,om,h1,h2,h3,h4,h5,T.drew⟩
theorem AudAt.below (h:AudAt w1 w sb tb rb hd wb pb mb lao lcap L W B Wr rs S m X):Below w1.heap.size w1 w:=by
 obtain⟨ls,lr,lh,lw,om,h1,h2,h3,h4,h5,T⟩:=h;exact T.below
theorem AudAt.has (h:AudAt w1 w sb tb rb hd wb pb mb lao lcap L W B Wr rs S m X):Has w X:=by
 obtain⟨ls,lr,lh,lw,om,h1,h2,h3,h4,h5,T⟩:=h;exact T.drop.drop.drop.drop.tail.tail.has
theorem AudAt.grow {w':World}{Z:List Blk}(h:AudAt w1 w sb tb rb hd wb pb mb lao lcap L W B Wr rs S m X)(T':Turn [] w Z w'):AudAt w1 w' sb tb rb hd wb pb mb lao lcap L W B Wr rs S m (Z++X):=by
 obtain⟨ls,lr,lh,lw,om,h1,h2,h3,h4,h5,T⟩:=h;exact⟨ls,lr,lh,lw,om,h1,h2,h3,h4,h5,(T.grow T').perm po⟩
theorem AudAt.sub {Y:List Blk}(h:AudAt w1 w sb tb rb hd wb pb mb lao lcap L W B Wr rs S m X)(s:Y.Sublist X):AudAt w1 w sb tb rb hd wb pb mb lao lcap L W B Wr rs S m Y:=by
 obtain⟨ls,lr,lh,lw,om,h1,h2,h3,h4,h5,T⟩:=h;exact⟨ls,lr,lh,lw,om,h1,h2,h3,h4,h5,T.sub ((List.Sublist.refl _).append ((List.Sublist.refl _).append ((List.Sublist.refl _).append ((List.Sublist.refl _).append ((s.cons_cons _).cons_cons _)))))⟩
theorem AudAt.pl (h:AudAt w1 w sb tb rb hd wb pb mb lao lcap L W B Wr rs S m X):PlAt w1 w sb tb rb lao lcap L W B Wr []:=by
 obtain⟨ls,lr,lh,lw,om,h1,h2,h3,h4,h5,T⟩:=h;exact⟨ls,lr,h1,h2,(fun x hx=>by cases hx),T.sub ((List.Sublist.refl _).append ((List.Sublist.refl _).append (List.nil_sublist _)))⟩
theorem hSl_given {rs:List Nat}:∀s∈hSl rs,0 <= s.addr /\ s.given <= 1:=fun s hs=>by
 unfold hSl at hs;rcases List.mem_append.1 hs with hs|hs
 · obtain⟨a,-,rfl⟩:=List.mem_map.1 hs
   exact⟨Int.natCast_nonneg _,Nat.le_refl _⟩
 · rw[List.eq_of_mem_replicate hs]
   exact⟨Int.le_refl _,Nat.zero_le _⟩
theorem hdl_mem {rs:List Nat}(hl:rs.length <= 64)(h0:∀v∈rs,v≠0):∀x∈hdl (hSl rs),x.2∈rs:=fun x hx=>by
 rw[←hSl_refs hl h0];exact List.mem_map.2 ⟨x,hx,rfl⟩
theorem aud_of {cs:List Ce}{ps ys:List Nat}(hb:PlBase w1 tb L lao lcap)(hG:Pl L W B cs)(h:AudAt w1 w sb tb rb hd wb pb mb lao lcap L W B Wr rs S m X)(hl:rs.length <= 64)(h0:∀v∈rs,v≠0 /\ v<18446744073709551616)
  (hS:∀s∈S,0 <= s.addr)(hSx:∀x∈wdl S,x.2<18446744073709551616)(hSl':(wdl S).length <= 65536)(hm:PinsOk m ps)(hpl:ps.length <= 200)(hy:PinList m ys):
  Calls prog 25 #[pt sb,pt hd,pt wb,pt pb,.pointer none] w fun e w'=>∃ao cap l,e=.returned (.tuple #[.slice ao (wrongs L W cs (hdl (hSl rs)) (dup ys) (wdl S)).length cap,.int .i64 0]) /\
   Row 60 5 ao (wrongs L W cs (hdl (hSl rs)) (dup ys) (wdl S)).length cap (brs (wrongs L W cs (hdl (hSl rs)) (dup ys) (wdl S))) l /\ Turn [] w l w':=by
 obtain⟨a,aw,bb,bo,bcap,tao,tcap,hA,hI⟩:=sbat_pl w hb h.pl hG;obtain⟨ls,lr,lh,lw,om,h1,h2,h3,h4,h5,T⟩:=h;have hml:=hm.len;have hhd:=hdl_mem hl (fun v hv=>(h0 v hv).1);have hpt:=h3.pointed (R:=ls++(lr++(lw++((mb,om)::(pb,.cells #[.map (some mb)] 195)::X)))) (T.has.perm po);have hwh:Has w lw:=(T.has.perm (l':=lw++(ls++(lr++(lh++((mb,om)::(pb,.cells #[.map (some mb)] 195)::X))))) po).left;have hpa:PinAt w pb mb m:=⟨T.has.cell (b:=pb) (c:=#[.map (some mb)]) (e:=195) (f:=(0,0)) (by simp) 0,om,T.has.own mb om (by simp),h5⟩
 have hlh:(hdl (hSl rs)).length <= 65536:=by
  have:=congrArg List.length (hSl_refs hl (fun v hv=>(h0 v hv).1));rw[List.length_map]at this;omega
 have hyl:ys.length <= 4096:=hy.2.2.1
 have hymem:∀x∈ys,x<18446744073709551616:=fun x hx=>by
  obtain⟨p,hp,he⟩:=List.mem_map.1 ((hy.2.2.2 x).1 hx);have:=(hm.keys p hp).2;omega
 have hdp:(dup ys).map (·.2)=ys:=by unfold dup;rw[List.map_map];exact List.map_id _
 refine aof w sb a aw tb bb bo bcap tao tcap L cs hA hI hG.touch (some ⟨hd,0,none⟩) (some ⟨wb,0,none⟩) (some ⟨pb,0,none⟩) (hdl (hSl rs)) (wdl S) (dup ys) (fun x hx=>(h0 _ (hhd x hx)).2) hSx (fun x hx=>?_) hlh hSl' (by unfold dup;rw[List.length_map];omega) (fun x hx=>?_) ?_ ?_ ?_ ?_ ?_
 · obtain⟨v,hv,rfl⟩:=List.mem_map.1 hx
   exact hymem v hv
 · obtain⟨v,hv,rfl⟩:=List.mem_map.1 hx
   rfl
 ·exact tells_hrefs w _ (hSl rs) (by rw[hSl_len hl];omega) (fun s hs=>(hSl_given s hs).1) hpt
 ·exact tells_hlist w _ (hSl rs) (by rw[hSl_len hl];omega) (fun s hs=>by have:=(hSl_given s hs).2;omega) hpt
 · rw[hdp]
   exact tells_plist w pb mb m ys hpa hm.keys (by omega) hy
 ·exact tells_wrefs w wb S lw h4 hwh hS
 ·exact tells_wlist w wb S lw h4 hwh
theorem aud_sound {cs:List Ce}{ps ys:List Nat}(hb:PlBase w1 tb L lao lcap)(hG:Pl L W B cs)(h:AudAt w1 w sb tb rb hd wb pb mb lao lcap L W B Wr rs S m X)(hl:rs.length <= 64)(h0:∀v∈rs,v≠0 /\ v<18446744073709551616)
  (hS:∀s∈S,0 <= s.addr)(hSx:∀x∈wdl S,x.2<18446744073709551616)(hSl':(wdl S).length <= 65536)(hm:PinsOk m ps)(hpl:ps.length <= 200)(hy:PinList m ys):
  Calls prog 29 #[pt sb,pt hd,pt wb,pt pb,.pointer none] w fun e w'=>e=.returned (.bool (decide (wrongs L W cs (hdl (hSl rs)) (dup ys) (wdl S)=[]))) /\ Below w.heap.size w w':=by
 have hof:=aud_of hb hG h hl h0 hS hSx hSl' hm hpl hy
 have hnl:(wrongs L W cs (hdl (hSl rs)) (dup ys) (wdl S)).length <= maxLen:=by
  obtain⟨a,aw,bb,bo,bcap,tao,tcap,hA,hI⟩:=sbat_pl w hb h.pl hG;have h6:=bads_len hI;have h7:=lost_len 3 cs (hdl (hSl rs));have h8:=lost_len 4 cs (dup ys);have h9:=lostW_len cs (wdl S)
  have h10:(hdl (hSl rs)).length <= 64:=by
   have:=congrArg List.length (hSl_refs hl (fun v hv=>(h0 v hv).1));rw[List.length_map]at this;omega
  have h11:(dup ys).length=ys.length:=List.length_map ..;have h12:=hy.2.2.1;unfold wrongs maxLen;simp only[List.length_append,List.length_map];omega
 have hs:=asound w _ _ _ _ _ _ hnl (hof.mono fun e w' ⟨ao,cap,l,he,_,T⟩=>⟨ao,cap,he,T.below⟩);refine hs.mono ?_;rintro e w' ⟨rfl,hB⟩;have hd:decide ((wrongs L W cs (hdl (hSl rs)) (dup ys) (wdl S)).length=0)=decide (wrongs L W cs (hdl (hSl rs)) (dup ys) (wdl S)=[]):=decide_eq_decide.2 List.length_eq_zero_iff;exact⟨by rw[hd],hB⟩
theorem aud_hand (h:AudAt w1 w sb tb rb hd wb pb mb lao lcap L W B Wr rs S m X)(hl:rs.length<64)(h0:∀v∈rs,v≠0)(a:Nat)(ha:a≠0):
  Calls prog 31 #[pt hd,.int .u64 a] w fun e w'=>e=.returned (.tuple #[.int .u64 (4294967296+rs.length:Nat),.int .i64 0]) /\ AudAt w1 w' sb tb rb hd wb pb mb lao lcap L W B Wr (rs++[a]) S m X:=by
 obtain⟨ls,lr,lh,lw,om,h1,h2,h3,h4,h5,T⟩:=h;have T1:=T.perm (l2:=lh++(ls++(lr++(lw++((mb,om)::(pb,.cells #[.map (some mb)] 195)::X))))) po;refine(hAdd_at w (b:=hd) (S:=hSl rs) (l:=lh) h3 T1.has (a:Int) (by omega) (fun s hs=>by have:=(hSl_given s hs).2;omega) rs.length zeroHSlot (hSl_hi (Nat.le_refl _) hl) rfl (fun j t hj ht=>?_)).mono ?_
 · obtain⟨v,hv⟩:∃v,rs[j]?= some v:=⟨rs[j],List.getElem?_eq_getElem hj⟩
   rw[hSl_lo hv]at ht
   cases ht
   have:=h0 v (List.mem_of_getElem? hv)
   show(v:Int)≠0
   omega
 · rintro e w' ⟨rfl,l',hS',T'⟩
   refine⟨?_,ls,lr,l',lw,om,h1,h2,?_,h4,h5,(T1.trans T').perm po⟩
   · have:wh rs.length (zeroHSlot.given+1)=((4294967296+rs.length:Nat):Int):=by unfold wh zeroHSlot;simp
     rw[this]
   · rw[←hSl_set hl]
     exact hS'
theorem aud_weak (h:AudAt w1 w sb tb rb hd wb pb mb lao lcap L W B Wr rs (List.replicate 4 zeroSlot) m X)(a:Nat)(ha:a≠0):
  Calls prog 32 #[pt wb,.int .u64 a] w fun e w'=>e=.returned (.tuple #[.int .u64 (4294967296:Nat),.int .i64 0]) /\ AudAt w1 w' sb tb rb hd wb pb mb lao lcap L W B Wr rs ((List.replicate 4 zeroSlot).set 0 ⟨1,(a:Int),1⟩) m X:=by
 obtain⟨ls,lr,lh,lw,om,h1,h2,h3,h4,h5,T⟩:=h;have T1:=T.perm (l2:=lw++(ls++(lr++(lh++((mb,om)::(pb,.cells #[.map (some mb)] 195)::X))))) po;refine(wAdd_at w (b:=wb) (l:=lw) h4 T1.has (a:Int) (by omega) (fun s hs=>by rw[List.eq_of_mem_replicate hs];show(0:Nat)<_;omega) 0 zeroSlot rfl rfl (fun j t hj _=>absurd hj (Nat.not_lt_zero _))).mono ?_;rintro e w' ⟨rfl,l',hS',T'⟩;exact⟨rfl,ls,lr,lh,l',om,h1,h2,h3,hS',h5,(T1.trans T').perm po⟩
theorem aud_pin {ps:List Nat}(h:AudAt w1 w sb tb rb hd wb pb mb lao lcap L W B Wr rs S m X)(hm:PinsOk m ps)(hl:ps.length <= 100)(a:Nat)(ha:a≠0)(ha64:a<18446744073709551616):
  Calls prog 33 #[pt pb,.int .u64 a] w fun e w'=>e=.returned (.int .i64 0) /\ ∃m',PinsOk m' (ps++[a]) /\ (m'.map (·.1)).Nodup /\ AudAt w1 w' sb tb rb hd wb pb mb lao lcap L W B Wr rs S m' X:=by
 obtain⟨ls,lr,lh,lw,om,h1,h2,h3,h4,h5,T⟩:=h;have hml:=hm.len;have T1:=T.perm (l2:=(mb,om)::(pb,.cells #[.map (some mb)] 195)::(ls++(lr++(lh++(lw++X))))) po;refine(ppin w pb mb om m h5 (hm.pv (by omega)) (by omega) T1 a ha).mono ?_;rintro e w' ⟨rfl,c,o',k1,k2,k3,k4,T'⟩;exact⟨rfl,_,hm.put ha64 k1 k2 k3,k4.keys,ls,lr,lh,lw,o',h1,h2,h3,h4,k4,T'.perm po⟩
end
theorem same_br {a b:List Br}(h:a.length=b.length):a=b↔∀i,i<a.length -> a[i]?= b[i]? :=by
 constructor
 ·rintro rfl i _;rfl
 · intro hi
   apply List.ext_getElem?
   intro i
   by_cases hlt:i<a.length
   ·exact hi i hlt
   ·rw[List.getElem?_eq_none (by omega),List.getElem?_eq_none (by omega)]
theorem same29 (w:World)(la lb:List Br)(ao:Option Addr)(acap:Nat)(bo:Option Addr)(bcap:Nat)(hA:Src w ao la.length acap 5 (brs la))(hB:Src w bo lb.length bcap 5 (brs lb))(hl:la.length <= 4294967296)(_hl2:lb.length <= 4294967296):
  Calls prog 35 #[.slice ao la.length acap,.slice bo lb.length bcap] w fun e w'=>e=.returned (.bool (decide (la=lb))) /\ Below w.heap.size w w':=by
 have HA:=uh (fun(h:0<la.length)=>hA.form (by rw[brs_length];omega));have HA2:=uh (fun w' (hk:Below w.heap.size w w')=>hA.below hk);have HB:=uh (fun(h:0<lb.length)=>hB.form (by rw[brs_length];omega));have HB2:=uh (fun w' (hk:Below w.heap.size w w')=>hB.below hk);have hT:=uh (Turn.refl (Has.nil w));have hszB:=sz_breach;clear hA hB
 by_cases hlen:la.length=lb.length
 · have Hiff:=uh (same_br hlen)
   have HL:=uh hlen;have k1:((la.length:Int) != (lb.length:Int))=false:=(by rw[bne_eq_false_iff_eq];omega);have k2:(la.length != lb.length)=false:=(by rw[bne_eq_false_iff_eq];exact hlen);clear hlen
   go_enter func35,ntmps35
   go_wp2_with fail
   go_loopw [5] (fun v5 wr=>∃i:Nat,i <= la.length /\ v5=.int .i64 i /\ (∀j,j<i -> la[j]?= lb[j]?) /\ Turn [] w [] wr) (fun v5 _=>la.length-(intOf v5).toNat)
   case atStart=>exact⟨0,Nat.zero_le _,by go_num,(fun j hj=>absurd hj (Nat.not_lt_zero _)),hT.out⟩
   case round=>
    clear hT;obtain⟨i,hi,rfl,heq,T⟩:=hrel;have hll:=HL.out
    by_cases hlt:i<la.length
    · have hlt':(i:Int)<(la.length:Int):=by omega
      have hlt2:(i:Int)<(lb.length:Int):=(by omega);obtain⟨x,hx⟩:∃x,la[i]?= some x:=⟨la[i],List.getElem?_eq_getElem hlt⟩;obtain⟨y,hy⟩:∃y,lb[i]?= some y:=⟨lb[i]'(by omega),List.getElem?_eq_getElem _⟩;obtain⟨b,off,rfl,-⟩:=HA.out (by omega);obtain⟨b',off',rfl,-⟩:=HB.out (by omega);have HL1:=uh (fun u (hk:Below wr.heap.size wr u)=>(⟨Src.fm (f:=brCells) (fun _=>rfl) (HA2.out u (T.below.trans (hk.mono T.size))) hx,Src.fm (f:=brCells) (fun _=>rfl) (HB2.out u (T.below.trans (hk.mono T.size))) hy⟩:u.rangeAt b (off+i*5) [.int .u8 x.1,.int .i64 x.2.1,.int .i64 x.2.2.1,.int .u64 x.2.2.2.1,.int .i64 x.2.2.2.2] /\ u.rangeAt b' (off'+i*5) [.int .u8 y.1,.int .i64 y.2.1,.int .i64 y.2.2.1,.int .u64 y.2.2.2.1,.int .i64 y.2.2.2.2]));have HT:=uh T;have HE:=uh heq;have HV:=uh hx;have HU:=uh hy;clear T heq hll hx hy
      by_cases hxy:x=y
      · subst hxy
        go_upto_region 6 with fail
        have hS:Below wr.heap.size wr wr.drew:=(Turn.refl (Has.nil wr)).drew.below;refine wp_region_noPanic ?_;refine wp_region_listed (S:=fun u=>Below wr.heap.size wr u) 9 [false,false,false,false,false,false,false,false,false] rfl rfl (by kernel_rfl) ?_;have hS0:=hS;generalize wr.drew=u0 at*;refine tkA 0 17 hS ?_;refine tkA 1 18 hS ?_;refine tkA 2 19 hS ?_;refine tkC 3 20 hS (fun w hSw=>load_mid_run 60 _ rfl b (off+i*5) rfl [.int .u8 x.1,.int .i64 x.2.1,.int .i64 x.2.2.1,.int .u64 x.2.2.2.1,.int .i64 x.2.2.2.2] _ (HL1.out w hSw).1 underlying60 rfl hszB) ?_;refine tkA 4 21 hS ?_;refine tkA 5 22 hS ?_;refine tkA 6 23 hS ?_;refine tkC 7 24 hS (fun w hSw=>load_mid_run 60 _ rfl b' (off'+i*5) rfl [.int .u8 x.1,.int .i64 x.2.1,.int .i64 x.2.2.1,.int .u64 x.2.2.2.1,.int .i64 x.2.2.2.2] _ (HL1.out w hSw).2 underlying60 rfl hszB) ?_;refine tkA 8 25 hS ?_;refine wpAnyH_done (by kernel_rfl) ?_ _;refine NoPanic.normal ?_;clear hS;have HB0:=uh hS0;clear hS0
        go_wp2_with fail
        go_roundw
        case rel=>exact⟨i+1,by omega,by go_num,(fun j hj=>by
         by_cases h:j<i
         ·exact HE.out j h
         ·rw[show j=i by omega,HV.out,HU.out]),Turn.of_below (Has.nil w) (HT.out.below.trans (HB0.out.mono HT.out.size))⟩
        case measure=>simp[intOf];omega
      · have hne:¬la=lb:=fun h=>by
          have h1:=HV.out;rw[h,HU.out]at h1
          cases h1
          exact hxy rfl
        go_upto_region 6 with fail
        have hS:Below wr.heap.size wr wr.drew:=(Turn.refl (Has.nil wr)).drew.below;refine wp_region_noPanic ?_;refine wp_region_listed (S:=fun u=>Below wr.heap.size wr u) 9 [false,false,false,false,false,false,false,false,false] rfl rfl (by kernel_rfl) ?_;have hS0:=hS;generalize wr.drew=u0 at*;refine tkA 0 17 hS ?_;refine tkA 1 18 hS ?_;refine tkA 2 19 hS ?_;refine tkC 3 20 hS (fun w hSw=>load_mid_run 60 _ rfl b (off+i*5) rfl [.int .u8 x.1,.int .i64 x.2.1,.int .i64 x.2.2.1,.int .u64 x.2.2.2.1,.int .i64 x.2.2.2.2] _ (HL1.out w hSw).1 underlying60 rfl hszB) ?_;refine tkA 4 21 hS ?_;refine tkA 5 22 hS ?_;refine tkA 6 23 hS ?_;refine tkC 7 24 hS (fun w hSw=>load_mid_run 60 _ rfl b' (off'+i*5) rfl [.int .u8 y.1,.int .i64 y.2.1,.int .i64 y.2.2.1,.int .u64 y.2.2.2.1,.int .i64 y.2.2.2.2] _ (HL1.out w hSw).2 underlying60 rfl hszB) ?_
        refine takeG (v:=.bool true) 8 25 rfl rfl (by rfl) (by kernel_rfl) (by kernel_rfl) (by kernel_rfl) (fun _ _ _ _ h=>h) hS (by
         intro w hSw;clear hSw
         go_simp
         exact fun h0 h1 h2 h3 h4=>hxy (Prod.ext (by omega) (Prod.ext (by omega) (Prod.ext (by omega) (Prod.ext (by omega) (by omega)))))) ?_
        simp only[st1,st2];refine wpAnyH_done (by kernel_rfl) ?_ _;refine NoPanic.normal ?_;clear hS;have HB0:=uh hS0;clear hS0
        go_wp2_with fail
        go_ret;exact⟨by rw[decide_eq_false hne];rfl,HT.out.below.trans (HB0.out.mono HT.out.size)⟩
    · obtain rfl:i=la.length:=by omega
      have hnl:¬((la.length:Nat):Int)<(la.length:Int):=(by omega);have he:=uh (show la=lb from Hiff.out.2 heq);have HT:=uh T;clear T heq
      go_wp2_with fail
      go_ret;exact⟨by rw[decide_eq_true he.out];rfl,HT.out.below⟩
 · have k1:((la.length:Int) != (lb.length:Int))=true:=by rw[bne_iff_ne];omega
   have k2:(la.length != lb.length)=true:=(by rw[bne_iff_ne];exact hlen);have hne:¬la=lb:=fun h=>hlen (by rw[h]);clear hlen
   go_enter func35,ntmps35
   go_wp2_with fail
   go_ret;exact⟨by rw[decide_eq_false hne];rfl,hT.out.below⟩
section
variable {w1 w:World} {sb tb rb hd wb pb mb:Nat} {lao:Option Addr} {lcap:Nat} {L:List Ty} {W B Wr:List Nat} {rs:List Nat} {S:List Slot} {m:List (Int×Value)} {X:List Blk}
theorem aud_sp {cs:List Ce}(hb:PlBase w1 tb L lao lcap)(hG:Pl L W B cs)(h:AudAt w1 w sb tb rb hd wb pb mb lao lcap L W B Wr rs S m X):∃a aw tao tcap,SpAt w sb a aw tb W tao tcap L /\ SdIn L W B cs:=by
 obtain⟨a,aw,bb,bo,bcap,tao,tcap,hA,hI⟩:=sbat_pl w hb h.pl hG;exact⟨a,aw,tao,tcap,hA.sp,hI⟩
theorem aud_store (h:AudAt w1 w sb tb rb hd wb pb mb lao lcap L W B Wr rs S m X)(hf:W.length <= 65536){vb a g:Nat}{hh:Hd}{t:Ty}(hc:w.cell? ⟨sb,0,none⟩=some (pt a))(hv:VwAt w vb a g hh t)(ht:TyIn t)(he:t.err hh.len=0)(hg:g <= 65536)(s v:Nat)(hs:s<t.slots hh.len)(hw:2*g+1+s<W.length):
  Calls prog 50 #[pt vb,.int .i64 s,.int .u64 v] w fun e w'=>e=.returned (.int .i64 0) /\ w'.cell? ⟨sb,0,none⟩=some (pt a) /\ AudAt w1 w' sb tb rb hd wb pb mb lao lcap L (W.set (2*g+1+s) v) B Wr rs S m X:=by
 obtain⟨ls,lr,lh,lw,om,⟨a',aw,bb,n,lb,hbit,rfl⟩,h2,h3,h4,h5,T⟩:=h;have T1:=T.perm (l2:=arBlks a' aw W n++(spBlk sb a' tb bb::(lb++(lr++(lh++(lw++((mb,om)::(pb,.cells #[.map (some mb)] 195)::X))))))) po;have h0:w.cell? ⟨sb,0,none⟩=some (pt a'):=T1.has.cell (b:=sb) (c:=#[pt a',pt tb,pt bb]) (e:=146) (f:=(0,0)) (by simp[spBlk]) 0;rw[hc]at h0
 cases h0
 refine(vstore w T1 hf hv ht he hg s v hs hw).mono ?_;rintro e w' ⟨rfl,n',T2⟩;exact⟨rfl,T2.has.cell (b:=sb) (c:=#[pt a,pt tb,pt bb]) (e:=146) (f:=(0,0)) (by simp[spBlk]) 0,_,lr,lh,lw,om,⟨a,aw,bb,n',lb,by rw[List.length_set];exact hbit,rfl⟩,h2,h3,h4,h5,T2.perm po⟩
end
theorem refs29 {w1:World}(w:World){xb sb tb rb hd wb pb mb:Nat}{lao:Option Addr}{lcap:Nat}{L:List Ty}{W B Wr:List Nat}{rs:List Nat}{S:List Slot}{m:List (Int×Value)}{cs:List Ce}{ps ys:List Nat}(vR vS vW vF vP:Value)(la:Option Addr)(lc:Nat)(lL:List Blk)
  (hb:PlBase w1 tb L lao lcap)(hG:Pl L W B cs)(hA:AudAt w1 w sb tb rb hd wb pb mb lao lcap L W B Wr rs S m ((xb,.cells #[pt sb,vR,vS,pt hd,pt pb,.slice la cs.length lc,vW,vF,vP] 77)::lL))(hrL:Row 81 5 la cs.length lc (ces cs) lL)
  (hl:rs.length <= 64)(h0:∀v∈rs,v≠0 /\ v<18446744073709551616)(hS:∀s∈S,0 <= s.addr)(hSx:∀x∈wdl S,x.2<18446744073709551616)(hSl':(wdl S).length <= 65536)(hm:PinsOk m ps)(hpl:ps.length <= 200)(hy:PinList m ys)
  (hw0:wrongs L W cs (hdl (hSl rs)) (dup ys) (wdl S)=[])(v:Nat)(hv0:v≠0)(hv64:v<18446744073709551616)(hv:lives cs v=false):
  Calls prog 34 #[pt xb,pt wb,.int .u64 v] w fun e w'=>e=.returned (.bool true) /\ Below w1.heap.size w1 w':=by
 have HOf:=uh (fun u W' X (hG':Pl L W' B cs) (h:AudAt w1 u sb tb rb hd wb pb mb lao lcap L W' B Wr rs S m X)=>aud_of hb hG' h hl h0 hS hSx hSl' hm hpl hy);have HSo:=uh (fun u X (h:AudAt w1 u sb tb rb hd wb pb mb lao lcap L W B Wr rs S m X)=>aud_sound hb hG h hl h0 hS hSx hSl' hm hpl hy);have HWr:=uh (fun c (hc:c∈objs cs) s (hs:s∈(tyAt L c.2.typ).refs c.2.len)=>wrongs_ref (L:=L) (W:=W) (hh:=hdl (hSl rs)) (hp:=dup ys) (hw:=wdl S) hG.good.chain hw0 hc hs hv0 hv);have Hsp:=uh (fun u X (h:AudAt w1 u sb tb rb hd wb pb mb lao lcap L W B Wr rs S m X)=>aud_sp hb hG h);have Hb:=uh hb;have HG:=uh hG;have HrL:=uh hrL;have Hw0:=uh hw0;have HA:=uh hA;have hcl:cs.length <= 32768:=by have h1:=hG.good.chain.len;have h2:=hG.good.small;omega
 clear hb hG hA hrL hl h0 hS hSx hSl' hm hpl hy hw0 hv
 go_enter func34,ntmps34
 go_wp2_with fail
 go_loopw [7] (fun v7 wr=>∃i:Nat,i <= cs.length /\ v7=.int .i64 i /\ AudAt w1 wr sb tb rb hd wb pb mb lao lcap L W B Wr rs S m ((xb,.cells #[pt sb,vR,vS,pt hd,pt pb,.slice la cs.length lc,vW,vF,vP] 77)::lL)) (fun v7 _=>cs.length-(intOf v7).toNat)
 case atStart=>exact⟨0,Nat.zero_le _,by go_num,HA.out⟩
 case round=>
  clear HA;obtain⟨i,hi,rfl,hA⟩:=hrel;have q5:=hA.has.cell (b:=xb) (c:=#[pt sb,vR,vS,pt hd,pt pb,.slice la cs.length lc,vW,vF,vP]) (e:=77) (f:=(0,0)) (by simp) 5
  by_cases hlt:i<cs.length
  · have hlt':(i:Int)<(cs.length:Int):=by omega
    obtain⟨c,hc⟩:∃c,cs[i]?= some c:=⟨cs[i],List.getElem?_eq_getElem hlt⟩;have hsr:=HrL.out.src (R:=[(xb,.cells #[pt sb,vR,vS,pt hd,pt pb,.slice la cs.length lc,vW,vF,vP] 77)]) (hA.has.perm po);obtain⟨b,off,hla,-⟩:=hsr.form (by rw[ces_length];omega);have HLa:=uh hla;rw[hla]at hsr q5;have hrg:=hsr.ce hc;have q0:wr.cell? ⟨b,off+i*5,none⟩=some (.int .i64 c.1):=hrg 0 _ rfl;have q1:wr.cell? ⟨b,off+i*5+1,none⟩=some (.int .u8 c.2.tag):=hrg 1 _ rfl
    by_cases ht:c.2.tag=1
    · have htz:(((c.2.tag:Nat):Int) != 1)=false:=by simp[ht]
      have hco:c∈objs cs:=List.mem_filter.2 ⟨List.mem_of_getElem? hc,by simp[isObj,ht]⟩;obtain⟨a,aw,tao,tcap,hsp,hsd⟩:=Hsp.out wr _ hA;have hob:=obIn_of hsd.chain hsd.few hsd.ty hco;have hof:=sof_at wr hsp.fields hsp.ar HG.out hsd.ty hsp.tab c (List.mem_of_getElem? hc) ht;have HSof:=uh (fun u (hk:Below wr.heap.size wr u)=>sof_at u (range_below hsp.fields hk) (hsp.ar.below hk) HG.out hsd.ty (hsp.tab.below hk) c (List.mem_of_getElem? hc) ht)
      have HX:=uh (fun u (hk:Below wr.heap.size wr u) (j:Nat) (x:Value) (hx:(#[pt sb,vR,vS,pt hd,pt pb,.slice la cs.length lc,vW,vF,vP]:Array Value)[j]?= some x)=>(by
       have h1:=(hA.has.cell (b:=xb) (c:=#[pt sb,vR,vS,pt hd,pt pb,.slice la cs.length lc,vW,vF,vP]) (e:=77) (f:=(0,0)) (by simp) j).trans hx;exact(hk.cell (p:=⟨xb,j,none⟩) (World.block_lt_of_cell? _ _ h1)).trans h1:u.cell? ⟨xb,j,none⟩=some x))
      have HSP:=uh (fun u (hk:Below wr.heap.size wr u)=>hsp.below hk);have HY:=uh (fun u (hk:Below wr.heap.size wr u)=>(⟨(hk.cell (p:=⟨sb,0,none⟩) (World.block_lt_of_cell? _ _ hsp.c0)).trans hsp.c0,(hk.cell (p:=⟨sb,1,none⟩) (World.block_lt_of_cell? _ _ hsp.c1)).trans hsp.c1,(hk.cell (p:=⟨b,off+i*5,none⟩) (World.block_lt_of_cell? _ _ q0)).trans q0,(hk.cell (p:=⟨xb,5,none⟩) (World.block_lt_of_cell? _ _ q5)).trans q5⟩:u.cell? ⟨sb,0,none⟩=some (pt a) /\ u.cell? ⟨sb,1,none⟩=some (pt tb) /\ u.cell? ⟨b,off+i*5,none⟩=some (.int .i64 c.1) /\ u.cell? ⟨xb,5,none⟩=some (.slice (some ⟨b,off,none⟩) cs.length lc)));have Hob:=uh hob;have Hfew:=uh hsd.few;have Hci:=uh hc;have Hco:=uh (And.intro hco (And.intro (List.mem_of_getElem? hc) ht));have hAd:=hA.drew;have HA:=uh hAd;clear hA hc hsr hrg hsp hsd hob hof hco hAd hla
      go_upto_region 5 with fail
      clear q0 q1 q5 ht htz;have hS0:Below wr.heap.size wr wr.drew:=(Turn.refl (Has.nil wr)).drew.below;refine wp_region_noPanic ?_;refine wp_region_listed (S:=fun u=>Below wr.heap.size wr u) 24 [false,false,false,false,false,false,false,false,false,false,false,false,false,false,false,false,false,false,false,false,false,false,false,false] rfl rfl (by kernel_rfl) ?_;generalize wr.drew=u0 at*;refine tkA 0 38 hS0 ?_;refine tkA 1 39 hS0 ?_;refine tkA 2 40 hS0 ?_;refine tkB 3 41 hS0 (fun w hSw=>(HX.out w hSw 0 _ rfl)) ?_;refine tkA 5 43 hS0 ?_;refine tkA 6 44 hS0 ?_;refine tkA 7 45 hS0 ?_;refine tkB 8 46 hS0 (fun w hSw=>(HX.out w hSw 0 _ rfl)) ?_;refine tkA 10 48 hS0 ?_;refine tkA 11 49 hS0 ?_;refine tkA 12 50 hS0 ?_;refine tkB 13 51 hS0 (fun w hSw=>(HY.out w hSw).2.2.2) ?_;refine tkA 14 52 hS0 ?_;refine tkA 15 53 hS0 ?_;refine tkA 16 54 hS0 ?_;refine tkB 17 55 hS0 (fun w hSw=>(HY.out w hSw).2.2.1) ?_;refine rdyA 4 (fun K hK=>?_)
      go_simp
      refine(sarena u0 (a:=⟨a,0,none⟩) rfl (HY.out u0 hS0).1).mono ?_;rintro e u ⟨rfl,hw⟩;rw[hw];clear hw u;refine hK.out _ _ hS0 fun _=>?_;clear hK K;simp only[st0,st1,st2];refine rdyA 9 (fun K hK=>?_)
      go_simp
      refine(stable u0 (a:=⟨tb,0,none⟩) rfl (HY.out u0 hS0).2.1).mono ?_;rintro e u ⟨rfl,hw⟩;rw[hw];clear hw u;refine hK.out _ _ hS0 fun _=>?_;clear hK K;simp only[st0,st1,st2];refine rdyA 18 (fun K hK=>?_)
      go_simp
      refine(HSof.out u0 hS0).mono ?_;rintro e u1 ⟨vb,rfl,TV⟩;have hS1:=hS0.trans (TV.below.mono hS0.size);have hA1:=HA.out.grow TV;have HB1:=uh hS1;have HA1:=uh hA1;clear TV hS0 hA1 HSof HA;refine hK.out _ _ hS1 fun _=>?_;clear hK K;simp only[st0,st1,st2];refine tkA 19 37 hS1 ?_;refine tkA 20 57 hS1 ?_;refine tkA 21 58 hS1 ?_;refine tkA 22 8 hS1 ?_;refine tkA 23 9 hS1 ?_;refine wpAnyH_done (by kernel_rfl) ?_ _;refine NoPanic.normal ?_;clear hS1
      go_wp2_with fail
      have HVw:=uh (fun u W' Y Z (h:AudAt w1 u sb tb rb hd wb pb mb lao lcap L W' B Wr rs S m (Y++((vb,.cells (viewCells a c.1 c.2 (tyAt L c.2.typ)).toArray 238)::Z)))=>(h.has.range (b:=vb) (c:=(viewCells a c.1 c.2 (tyAt L c.2.typ)).toArray) (e:=238) (f:=(0,0)) (by simp):VwAt u vb a c.1 c.2 (tyAt L c.2.typ)));have HRf:=uh (vrefs_all u1 vb a aw c.1 W c.2 (tyAt L c.2.typ) (HSP.out u1 HB1.out).ar (HVw.out u1 W [] ((xb,.cells #[pt sb,vR,vS,pt hd,pt pb,.slice la cs.length lc,vW,vF,vP] 77)::lL) HA1.out) Hob.out.ty Hob.out.err Hob.out.at_ Hob.out.in_);refine HRf.out.mono ?_;rintro e u2 ⟨ra,rcap,lr2,rfl,hrr,T2⟩;obtain⟨R,hR⟩:∃R,R=(tyAt L c.2.typ).refs c.2.len:=⟨_,rfl⟩;rw[←hR]at hrr ⊢;have HR:=uh hR;clear HRf hR
      by_cases hn:R.length=0
      · have hnz:(((R.length:Nat):Int) == 0)=true:=by simp[hn]
        have HA2:=uh ((HA1.out.call T2.below).sub (Y:=(xb,.cells #[pt sb,vR,vS,pt hd,pt pb,.slice la cs.length lc,vW,vF,vP] 77)::lL) (by simp));clear hrr T2 hn
        go_wp2_with fail
        go_roundw
        case rel=>exact⟨i+1,by omega,by go_num,HA2.out⟩
        case measure=>simp[intOf];omega
      · have hnz:(((R.length:Nat):Int) == 0)=false:=by simp[hn]
        obtain⟨k,hk⟩:∃k,R.length=k+1:=⟨R.length-1,by omega⟩;obtain⟨s,hs⟩:∃s,R[k]?= some s:=⟨R[k]'(by omega),List.getElem?_eq_getElem _⟩;have e1:((R.length:Nat):Int)-1=(k:Int):=(by omega);have hkl:(k:Int)<((R.length:Nat):Int):=(by omega);have hss:=hrr.src (R:=[]) (by rw[List.append_nil];exact T2.has);obtain⟨b2,off2,rfl,hcc⟩:=hss.form (by rw[nats_length];omega);have q7:u2.cell? ⟨b2,off2+k,none⟩=some (.int .i64 (s:Nat)):=hcc k _ (nats_at hs)
        have hw7:wrap64 (k:Int)=(k:Int):=by
         have h8:=hrr.2.1;have h9:=hrr.2.2.1;unfold maxLen at h9;exact wrap64_in _ ⟨by omega,by omega⟩
        have hsm:s∈(tyAt L c.2.typ).refs c.2.len:=(by rw[←HR.out];exact List.mem_of_getElem? hs);have hin:=Hob.out.in_ s hsm;obtain⟨was,hwas⟩:∃was,W[2*c.1+1+s]?= some was:=⟨W[2*c.1+1+s]'hin.2,List.getElem?_eq_getElem _⟩;have HA2:=uh (HA1.out.grow T2);have HLd:=uh (vload u2 (HSP.out u2 (HB1.out.trans (T2.below.mono HB1.out.size))).ar (HVw.out u2 W lr2 ((xb,.cells #[pt sb,vR,vS,pt hd,pt pb,.slice la cs.length lc,vW,vF,vP] 77)::lL) HA2.out) Hob.out.ty Hob.out.err Hob.out.at_ s was hin.1 hwas);have HB2:=uh (HB1.out.trans (T2.below.mono HB1.out.size));have Hin:=uh (And.intro hsm (And.intro hin hwas));clear hrr T2 hss hcc hs hsm hin hwas hn HA1 HB1
        go_wp2_with fail
        refine HLd.out.mono ?_;rintro e u3 ⟨rfl,hB3⟩;have HA3:=uh (HA2.out.call hB3);have HSt:=uh (aud_store HA3.out Hfew.out (HY.out u3 (HB2.out.trans (hB3.mono HB2.out.size))).1 (HVw.out u3 W lr2 ((xb,.cells #[pt sb,vR,vS,pt hd,pt pb,.slice la cs.length lc,vW,vF,vP] 77)::lL) HA3.out) Hob.out.ty Hob.out.err Hob.out.at_ s v Hin.out.2.1.1 Hin.out.2.1.2);clear HLd HA2 hB3 q7 hw7 e1 hkl hnz hk
        go_wp2_with fail
        refine HSt.out.mono ?_;rintro e u4 ⟨rfl,hc40,hA4⟩;have Hc40:=uh hc40;clear hc40;have hc4:=ref_in HG.out.good.chain Hco.out.2.1 Hco.out.2.2 Hin.out.1;have hof4:=HOf.out u4.drew (W.set (2*c.1+1+s) v) _ (HG.out.slot Hco.out.2.1 hc4.2.1 hc4.2.2.1 hv64) hA4.drew;rw[HWr.out c Hco.out.1 s Hin.out.1]at hof4;simp only[List.length_singleton]at hof4;have HOf4:=uh hof4
        have HX4:=uh (fun u (hk:Below u4.heap.size u4 u) (j:Nat) (x:Value) (hx:(#[pt sb,vR,vS,pt hd,pt pb,.slice la cs.length lc,vW,vF,vP]:Array Value)[j]?= some x)=>(by
         have h1:=(hA4.has.cell (b:=xb) (c:=#[pt sb,vR,vS,pt hd,pt pb,.slice la cs.length lc,vW,vF,vP]) (e:=77) (f:=(0,0)) (by simp) j).trans hx;exact(hk.cell (p:=⟨xb,j,none⟩) (World.block_lt_of_cell? _ _ h1)).trans h1:u.cell? ⟨xb,j,none⟩=some x))
        have HA4:=uh hA4.drew;clear HSt HA3 hA4 hof4 hc4
        go_upto_region 13 with fail
        have hS0:Below u4.heap.size u4 u4.drew:=(Turn.refl (Has.nil u4)).drew.below;refine wp_region_noPanic ?_;refine wp_region_listed (S:=fun u=>Below u4.heap.size u4 u) 19 [false,false,false,false,false,false,false,false,false,false,false,false,false,false,false,false,false,false,false] rfl rfl (by kernel_rfl) ?_;generalize u4.drew=u0 at*;refine tkA 0 87 hS0 ?_;refine tkA 1 88 hS0 ?_;refine tkA 2 89 hS0 ?_;refine tkB 3 90 hS0 (fun w hSw=>(HX4.out w hSw 0 _ rfl)) ?_;refine tkA 4 91 hS0 ?_;refine tkA 5 92 hS0 ?_;refine tkA 6 93 hS0 ?_;refine tkB 7 94 hS0 (fun w hSw=>(HX4.out w hSw 3 _ rfl)) ?_;refine tkA 8 95 hS0 ?_;refine tkA 9 96 hS0 ?_;refine tkA 10 97 hS0 ?_;refine tkA 11 98 hS0 ?_;refine tkB 12 99 hS0 (fun w hSw=>(HX4.out w hSw 4 _ rfl)) ?_;refine rdyA 13 (fun K hK=>?_)
        go_simp
        refine HOf4.out.mono ?_;rintro e u5 ⟨ao,acap,l5,rfl,hr5,T5⟩;have hS1:=hS0.trans (T5.below.mono hS0.size);have hB45:=hS1;have HA5:=uh (HA4.out.grow T5);have Hr5:=uh hr5;clear T5 hS0 hr5 HOf4 HA4;refine hK.out _ _ hS1 fun _=>?_;clear hK K;simp only[st0,st1,st2];refine tkA 14 86 hS1 ?_;refine tkA 15 101 hS1 ?_;refine tkA 16 102 hS1 ?_;refine tkA 17 15 hS1 ?_;refine tkA 18 16 hS1 ?_;refine wpAnyH_done (by kernel_rfl) ?_ _;refine NoPanic.normal ?_;clear hS1 HX4;have HSP5:=uh ((hB45.cell (p:=⟨sb,0,none⟩) (World.block_lt_of_cell? _ _ Hc40.out)).trans Hc40.out);have HSt:=uh (aud_store HA5.out (by rw[List.length_set];exact Hfew.out) HSP5.out (HVw.out u5 _ (l5++lr2) ((xb,.cells #[pt sb,vR,vS,pt hd,pt pb,.slice la cs.length lc,vW,vF,vP] 77)::lL) (by rw[List.append_assoc];exact HA5.out)) Hob.out.ty Hob.out.err Hob.out.at_ s was Hin.out.2.1.1 (by rw[List.length_set];exact Hin.out.2.1.2))
        go_wp2_with fail
        refine HSt.out.mono ?_;rintro e u6 ⟨rfl,-,hA6⟩
        have hWW:(W.set (2*c.1+1+s) v).set (2*c.1+1+s) was=W:=by
         rw[List.set_set];obtain⟨hq,he⟩:=List.getElem?_eq_some_iff.1 Hin.out.2.2;rw[←he];exact List.set_getElem_self hq
        rw[hWW]at hA6;have q5:=hA6.has.cell (b:=xb) (c:=#[pt sb,vR,vS,pt hd,pt pb,.slice la cs.length lc,vW,vF,vP]) (e:=77) (f:=(0,0)) (by simp) 5;rw[HLa.out]at q5;have hsr:=HrL.out.src (R:=l5++(lr2++((vb,.cells (viewCells a c.1 c.2 (tyAt L c.2.typ)).toArray 238)::[(xb,.cells #[pt sb,vR,vS,pt hd,pt pb,.slice la cs.length lc,vW,vF,vP] 77)]))) (hA6.has.perm po);rw[HLa.out]at hsr;have q0:u6.cell? ⟨b,off+i*5,none⟩=some (.int .i64 c.1):=hsr.ce Hci.out 0 _ rfl;have hs5:=Hr5.out.src (R:=lr2++((vb,.cells (viewCells a c.1 c.2 (tyAt L c.2.typ)).toArray 238)::(xb,.cells #[pt sb,vR,vS,pt hd,pt pb,.slice la cs.length lc,vW,vF,vP] 77)::lL)) (hA6.has.perm po);have T7:=(Turn.refl (Has.nil u6)).alloc (.cells #[.int .u8 2,.int .i64 c.1,.int .i64 s,.int .u64 0,.int .i64 8] 60);have hs6:Src (u6.alloc (.cells #[.int .u8 2,.int .i64 c.1,.int .i64 s,.int .u64 0,.int .i64 8] 60)) (some ⟨u6.heap.size,0,none⟩) 1 1 5 (brs [(2,c.1,s,0,8)]):=(Row.lit (e:=60) (size:=5) u6.heap.size #[.int .u8 2,.int .i64 c.1,.int .i64 s,.int .u64 0,.int .i64 8] 1 rfl (by decide)).src (R:=[]) T7.has;have hdd:decide (([(2,c.1,s,0,8)]:List Br)=[(2,c.1,s,0,8)])=true:=decide_eq_true rfl
        have HSm:=uh (same29 _ [(2,c.1,s,0,8)] [(2,c.1,s,0,8)] ao acap (some ⟨u6.heap.size,0,none⟩) 1 (hs5.below T7.below) hs6 (by simp) (by simp));rw[hdd]at HSm;have HA7:=uh (hA6.grow T7);clear HSt HA5 HSP5 hA6 hsr hs5 T7 hs6 hWW hdd Hr5
        go_wp2_with (first
         | (go_at_call 35;refine HSm.out.mono ?_;rintro e u8 ⟨rfl,hB8⟩;have HA8:=uh ((HA7.out.call hB8).sub (Y:=(xb,.cells #[pt sb,vR,vS,pt hd,pt pb,.slice la cs.length lc,vW,vF,vP] 77)::lL) ((((List.sublist_append_right [(vb,.cells (viewCells a c.1 c.2 (tyAt L c.2.typ)).toArray 238)] _).trans (List.sublist_append_right lr2 _)).trans (List.sublist_append_right l5 _)).trans (List.sublist_append_right [_] _)));clear hB8 q5 q0 HSm HA7)
         | fail)
        go_roundw
        case rel=>exact⟨i+1,by omega,by go_num,HA8.out⟩
        case measure=>simp[intOf];omega
    · have htz:(((c.2.tag:Nat):Int) != 1)=true:=by simp;omega
      have HA:=uh hA;clear hA hc hsr hrg ht hla
      go_wp2_with fail
      go_roundw
      case rel=>exact⟨i+1,by omega,by go_num,HA.out⟩
      case measure=>simp[intOf];omega
  · obtain rfl:i=cs.length:=by omega
    have hnl:¬((cs.length:Nat):Int)<(cs.length:Int):=by omega
    have HX:=uh (fun u (hk:Below wr.heap.size wr u) (j:Nat) (x:Value) (hx:(#[pt sb,vR,vS,pt hd,pt pb,.slice la cs.length lc,vW,vF,vP]:Array Value)[j]?= some x)=>(by
     have h1:=(hA.has.cell (b:=xb) (c:=#[pt sb,vR,vS,pt hd,pt pb,.slice la cs.length lc,vW,vF,vP]) (e:=77) (f:=(0,0)) (by simp) j).trans hx;exact(hk.cell (p:=⟨xb,j,none⟩) (World.block_lt_of_cell? _ _ h1)).trans h1:u.cell? ⟨xb,j,none⟩=some x))
    have hso:=HSo.out wr.drew _ hA.drew;rw[decide_eq_true Hw0.out]at hso;have HSo2:=uh hso;have HB:=uh hA.drew.below;clear hA hso
    go_upto_region 17 with fail
    clear q5;have hS0:Below wr.heap.size wr wr.drew:=(Turn.refl (Has.nil wr)).drew.below;refine wp_region_noPanic ?_;refine wp_region_listed (S:=fun u=>Below wr.heap.size wr u) 15 [false,false,false,false,false,false,false,false,false,false,false,false,false,false,false] rfl rfl (by kernel_rfl) ?_;generalize wr.drew=u0 at*;refine tkA 0 137 hS0 ?_;refine tkA 1 138 hS0 ?_;refine tkA 2 139 hS0 ?_;refine tkB 3 140 hS0 (fun w hSw=>(HX.out w hSw 0 _ rfl)) ?_;refine tkA 4 141 hS0 ?_;refine tkA 5 142 hS0 ?_;refine tkA 6 143 hS0 ?_;refine tkB 7 144 hS0 (fun w hSw=>(HX.out w hSw 3 _ rfl)) ?_;refine tkA 8 145 hS0 ?_;refine tkA 9 146 hS0 ?_;refine tkA 10 147 hS0 ?_;refine tkA 11 148 hS0 ?_;refine tkB 12 149 hS0 (fun w hSw=>(HX.out w hSw 4 _ rfl)) ?_;refine rdyA 13 (fun K hK=>?_)
    go_simp
    refine HSo2.out.mono ?_;rintro e u1 ⟨rfl,hB1⟩;have hS1:=hS0.trans (hB1.mono hS0.size);have HB1:=uh (HB.out.trans (hB1.mono HB.out.size));clear hB1 hS0 HSo2;refine hK.out _ _ hS1 fun _=>?_;clear hK K;simp only[st0,st1,st2];refine tkA 14 6 hS1 ?_;refine wpAnyH_done (by kernel_rfl) ?_ _;refine NoPanic.normal ?_;clear hS1 HX
    go_wp2_with fail
    go_ret;exact⟨rfl,HB1.out⟩
def StepEnd (w w':World)(L:List Ty)(lao:Option Addr)(lcap:Nat)(e:Ending):Prop:=
 (e=.returned (.pointer none) /\ Below w.heap.size w w')∨
 ∃(sb rb tb:Nat) (w1:World) (W B:List Nat) (cs:List Ce),e=.returned (pt sb) /\ Below w.heap.size w w1 /\ PlBase w1 tb L lao lcap /\ Pl L W B cs /\ PlAt w1 w' sb tb rb lao lcap L W B W []
theorem AudAt.laid {w1 w:World}{sb tb rb hd wb pb mb:Nat}{lao:Option Addr}{lcap:Nat}{L:List Ty}{W B Wr:List Nat}{rs:List Nat}{S:List Slot}{m:List (Int×Value)}{X:List Blk}{b:Nat}{c:Array Value}{e:TypeId}{f:Nat×Nat}(h:AudAt w1 w sb tb rb hd wb pb mb lao lcap L W B Wr rs S m ((b,.cells c e f)::X))(vs:List Value)(hl:vs.length=c.size):
  AudAt w1 (w.setCells b 0 vs) sb tb rb hd wb pb mb lao lcap L W B Wr rs S m ((b,.cells vs.toArray e f)::X):=by
 obtain⟨ls,lr,lh,lw,om,h1,h2,h3,h4,h5,T⟩:=h;have T1:Turn [] w1 ((b,.cells c e f)::(ls++(lr++(lh++(lw++((mb,om)::(pb,.cells #[.map (some mb)] 195)::X)))))) w:=T.perm po;exact⟨ls,lr,lh,lw,om,h1,h2,h3,h4,h5,(T1.laid vs hl).perm po⟩
theorem aud_held {w1 w w':World}{xb sb tb rb hd pb mb wb:Nat}{lao:Option Addr}{lcap:Nat}{L:List Ty}{W B:List Nat}{cs:List Ce}{rs ps:List Nat}{m:List (Int×Value)}{S:List Slot}{lw:List Blk}(h:HeldAt w1 w xb sb tb rb hd pb mb lao lcap L W B cs rs ps m)(hW:WeaksIs wb S lw)(TW:Turn [] w lw w'):
  ∃(c2 vw:Value) (la ra pa2:Option Addr) (lc rc pc2:Nat) (lL:List Blk),Row 81 5 la cs.length lc (ces cs) lL /\ AudAt w1 w' sb tb rb hd wb pb mb lao lcap L W B W rs S m ((xb,.cells #[pt sb,pt rb,c2,pt hd,pt pb,.slice la cs.length lc,vw,.slice ra rs.length rc,.slice pa2 ps.length pc2] 77)::lL):=by
 obtain⟨c2,vw,la,ra,pa2,lc,rc,pc2,lh,lL,lR,lP,ls,lr,om,hSp,hRf,hHs,hms,hrL,hrR,hrP,T⟩:=h;refine⟨c2,vw,la,ra,pa2,lc,rc,pc2,lL,hrL,ls,lr,lh,lw,om,hSp,hRf,hHs,hW,hms,?_⟩;have T1:=(T.grow TW).perm (l2:=(lR++lP)++(ls++(lr++(lh++(lw++((mb,om)::(pb,.cells #[.map (some mb)] 195)::((xb,.cells #[pt sb,pt rb,c2,pt hd,pt pb,.slice la cs.length lc,vw,.slice ra rs.length rc,.slice pa2 ps.length pc2] 77)::lL))))))) po;exact T1.drop
theorem zs_addr:∀s∈(List.replicate 4 zeroSlot),0 <= s.addr:=fun s hs=>by rw[List.eq_of_mem_replicate hs];exact Int.le_refl _
theorem os_addr (a:Nat):∀s∈((List.replicate 4 zeroSlot)).set 0 ⟨1,(a:Int),1⟩,0 <= s.addr:=fun s hs=>by
 rcases List.mem_or_eq_of_mem_set hs with h|h
 ·exact zs_addr s h
 · rw[h]
   exact Int.natCast_nonneg _
theorem auditFinds_walk (w:World)(hF:Fields w)(ht:TabW w)(n:Int)(L:List Ty)(lao:Option Addr)(lcap:Nat)(sao ka ha pa:Option Addr)(sl scap kc hc pc:Nat)(kl hl pl:List Nat)(addr:Nat)(h64:addr<18446744073709551616)(which:Nat)(hv:Bool)
  (HHv:∀w',Below w.heap.size w w' -> Calls prog 8 #[.int .i64 n,.slice lao L.length lcap,.slice sao sl scap] w' fun e w2=>e=.returned (.bool hv) /\ w2=w')
  (HPl:hv=false -> ∀w',Below w.heap.size w w' -> Calls prog 10 #[.int .i64 n,.slice lao L.length lcap,.slice sao sl scap] w' fun e w2=>PlayEnd w' w2 L lao lcap e)
  (hK:Src w ka kl.length kc 1 (n64s kl))(hH:Src w ha hl.length hc 1 (n64s hl))(hN:Src w pa pl.length pc 1 (n64s pl))(hku:∀v∈kl,v<18446744073709551616)(hhu:∀v∈hl,v<18446744073709551616)(hpu:∀v∈pl,v<18446744073709551616):
  Calls prog 6 #[.agg #[.int .i64 n,.slice lao L.length lcap,.slice sao sl scap,.slice ka kl.length kc,.slice ha hl.length hc,.slice pa pl.length pc],.int .u64 addr,.int .u8 which] w fun e w'=>e=.returned (.bool true) /\ Below w.heap.size w w':=by
 have HAl:=uh (fun w' (hB:Below w.heap.size w w')=>alive29 w' (range_below hF hB) (Lib.tabBelow_of_tabIs ht w' hB));have T0:=(Turn.refl (Has.nil w)).alloc (.cells #[.int .i64 n,.slice lao L.length lcap,.slice sao sl scap,.slice ka kl.length kc,.slice ha hl.length hc,.slice pa pl.length pc] 63);have HB0:=uh T0.below;have hszC:(prog.info? 63).map (·.size)=some 6:=by kernel_rfl
 have hszB:=sz_breach;have hrg0:(w.alloc (.cells #[.int .i64 n,.slice lao L.length lcap,.slice sao sl scap,.slice ka kl.length kc,.slice ha hl.length hc,.slice pa pl.length pc] 63)).rangeAt w.heap.size 0 [.int .i64 n,.slice lao L.length lcap,.slice sao sl scap,.slice ka kl.length kc,.slice ha hl.length hc,.slice pa pl.length pc]:=T0.has.range (b:=w.heap.size) (c:=#[.int .i64 n,.slice lao L.length lcap,.slice sao sl scap,.slice ka kl.length kc,.slice ha hl.length hc,.slice pa pl.length pc]) (e:=63) (f:=(0,0)) (by simp);have HRg:=uh (fun u (hB:Below (w.alloc (.cells #[.int .i64 n,.slice lao L.length lcap,.slice sao sl scap,.slice ka kl.length kc,.slice ha hl.length hc,.slice pa pl.length pc] 63)).heap.size (w.alloc (.cells #[.int .i64 n,.slice lao L.length lcap,.slice sao sl scap,.slice ka kl.length kc,.slice ha hl.length hc,.slice pa pl.length pc] 63)) u)=>range_below hrg0 hB);have HHv2:=uh (heavy19 (w.alloc (.cells #[.int .i64 n,.slice lao L.length lcap,.slice sao sl scap,.slice ka kl.length kc,.slice ha hl.length hc,.slice pa pl.length pc] 63)) n lao sao ka ha pa L.length lcap sl scap kl.length kc hl.length hc pl.length pc hv (fun w' hB=>HHv w' (T0.below.trans (hB.mono T0.below.size))))
 have HMd:=uh (fun(h1:hv=false) (h2:kl.length <= 60) (h3:hl.length <= 60) (h4:pl.length <= 60) u (hB:Below w.heap.size w u)=>made19 u n L lao lcap sao ka ha pa sl scap kc hc pc kl hl pl (fun w' hB'=>HPl h1 w' (hB.trans (hB'.mono hB.size))) (hK.below hB) (hH.below hB) (hN.below hB) h2 h3 h4 hku hhu hpu);have Hbg:=uh (fun(h:hvB hv kl.length hl.length pl.length=false)=>hvB_of h);clear hF ht HHv HPl hK hH hN hku hhu hpu T0
 go_enter func6,ntmps6
 go_wp2_with (first
  | (show lW 63;refine wpList_load_mid rfl 63 _ rfl w.heap.size 0 rfl _ _ hrg0 underlying63 rfl hszC ?_;clear hrg0)
  | fail)
 refine HHv2.out.mono ?_;rintro e w2 ⟨rfl,hB2⟩;have hrg:=HRg.out w2 hB2;have HB2:=uh (HB0.out.trans (hB2.mono HB0.out.size));obtain⟨bg,hbg⟩:∃bg,bg=hvB hv kl.length hl.length pl.length:=⟨_,rfl⟩;rw[←hbg];clear hB2 HHv2 HRg HB0;have HAlEnd:=uh (fun u (hB:Below w.heap.size w u)=>(HAl.out u hB).mono (fun(e:Ending) (w':World) h=>(⟨h.1,hB.trans (h.2.mono hB.size)⟩:e=Ending.returned (.bool true) /\ Below w.heap.size w w')))
 cases bg
 case true=>
  clear hrg hbg
  go_wp2_with fail
  refine(HAlEnd.out w2 HB2.out).mono ?_;rintro e w3 ⟨rfl,hB⟩;have HB:=uh hB;clear hB
  go_wp2_with fail
  go_ret;exact⟨rfl,HB.out⟩
 obtain⟨hv0,hk6,hh6,hp6⟩:=Hbg.out hbg.symm;have HM:=uh (HMd.out hv0 hk6 hh6 hp6 w2 HB2.out);clear hbg Hbg HMd hv0 hk6 hh6 hp6
 by_cases ha0:addr=0
 · have haz:(((addr:Nat):Int) == 0)=true:=by simp[ha0]
   clear hrg ha0 HM
   go_wp2_with fail
   refine(HAlEnd.out w2 HB2.out).mono ?_;rintro e w3 ⟨rfl,hB⟩;have HB:=uh hB;clear hB
   go_wp2_with fail
   go_ret;exact⟨rfl,HB.out⟩
 have haz:(((addr:Nat):Int) == 0)=false:=by simp[ha0]
 go_wp2_with (first
  | (show lW 63;refine wpList_load_mid rfl 63 _ rfl w.heap.size 0 rfl _ _ hrg underlying63 rfl hszC ?_;clear hrg)
  | fail)
 clear haz;refine HM.out.mono ?_;rintro e w3 (⟨rfl,hB3⟩|⟨xb,sb,tb,rb,hd,pb,mb,w1,W,B,cs,rs,ps,m,rfl,hB1,hb,hG,hrl,hru,hpl,hpu,hok,hHe⟩)
 · have HB3:=uh (HB2.out.trans (hB3.mono HB2.out.size))
   clear hB3 HM
   go_wp2_with fail
   refine(HAlEnd.out w3 HB3.out).mono ?_;rintro e w4 ⟨rfl,hB⟩;have HB:=uh hB;clear hB
   go_wp2_with fail
   go_ret;exact⟨rfl,HB.out⟩
 have HHe:=uh hHe;have HG:=uh hG;have Hb:=uh hb;have Hru:=uh hru;have Hok:=uh hok;have Hpu:=uh hpu;have HB1:=uh (HB2.out.trans (hB1.mono HB2.out.size));clear hHe hG hb hru hok hpu hB1 HM
 go_wp2_with fail
 refine(wNew_any w3 4 (by omega) (R:=[]) (Has.nil w3)).mono ?_;rintro e w4 ⟨wb,lw,rfl,hWs,TW⟩;rw[List.append_nil]at TW;obtain⟨c2,vw,la,ra,pa2,lc,rc,pc2,lL,hrL,hA⟩:=aud_held HHe.out hWs TW
 have hnd:(m.map (·.1)).Nodup:=by
  obtain⟨ls,lr,lh,lw,om,-,-,-,-,h5,-⟩:=hA;exact h5.keys
 obtain⟨ys,hy,hyp⟩:=Hok.out.list (by omega) hnd;have HrL:=uh hrL;have Hy:=uh (And.intro hy hyp);have hcl:=(cs_small HG.out).1;have Hcg:=uh (cs_small HG.out).2;have HBu:=uh (fun u (hB:Below w1.heap.size w1 u)=>HB1.out.trans (hB.mono HB1.out.size));clear hrL hy hyp hnd hWs TW HHe;obtain⟨sd,hsd⟩:∃sd,sd=decide (wrongs L W cs (hdl (hSl rs)) (dup ys) (wdl (List.replicate 4 zeroSlot))=[]):=⟨_,rfl⟩;have hso:=aud_sound Hb.out HG.out hA.drew (by omega) Hru.out zs_addr (by rw[wdl_none];intro x hx;cases hx) (by rw[wdl_none];exact Nat.zero_le _) Hok.out (by omega) Hy.out.1;rw[←hsd]at hso;have HSo:=uh hso;have Hsd:=uh hsd
 have HX:=uh (fun u (hk:Below w4.heap.size w4 u) (j:Nat) (x:Value) (hx:(#[pt sb,pt rb,c2,pt hd,pt pb,.slice la cs.length lc,vw,.slice ra rs.length rc,.slice pa2 ps.length pc2]:Array Value)[j]?= some x)=>(by
  have h1:=(hA.has.cell (b:=xb) (c:=#[pt sb,pt rb,c2,pt hd,pt pb,.slice la cs.length lc,vw,.slice ra rs.length rc,.slice pa2 ps.length pc2]) (e:=77) (f:=(0,0)) (by simp) j).trans hx;exact(hk.cell (p:=⟨xb,j,none⟩) (World.block_lt_of_cell? _ _ h1)).trans h1:u.cell? ⟨xb,j,none⟩=some x))
 have HA:=uh hA.drew;clear hA hso hsd
 go_upto_region 7 with fail
 have hS0:Below w4.heap.size w4 w4.drew:=(Turn.refl (Has.nil w4)).drew.below;refine wp_region_noPanic ?_;refine wp_region_listed (S:=fun u=>Below w4.heap.size w4 u) 23 [false,false,false,false,false,false,false,false,false,false,false,false,false,false,false,false,false,false,false,false,false,false,false] rfl rfl (by kernel_rfl) ?_;generalize w4.drew=u0 at*;refine tkA 0 45 hS0 ?_;refine tkA 1 46 hS0 ?_;refine tkA 2 47 hS0 ?_;refine tkA 3 48 hS0 ?_;refine tkA 4 49 hS0 ?_;refine tkA 5 50 hS0 ?_;refine tkA 6 51 hS0 ?_;refine tkA 7 52 hS0 ?_;refine tkA 8 53 hS0 ?_;refine tkA 9 54 hS0 ?_;refine tkB 10 55 hS0 (fun w hSw=>(HX.out w hSw 0 _ rfl)) ?_;refine tkA 11 56 hS0 ?_;refine tkA 12 57 hS0 ?_;refine tkA 13 58 hS0 ?_;refine tkB 14 59 hS0 (fun w hSw=>(HX.out w hSw 3 _ rfl)) ?_;refine tkA 15 60 hS0 ?_;refine tkA 16 61 hS0 ?_;refine tkA 17 62 hS0 ?_;refine tkA 18 63 hS0 ?_;refine tkB 19 64 hS0 (fun w hSw=>(HX.out w hSw 4 _ rfl)) ?_;refine rdyA 20 (fun K hK=>?_)
 go_simp
 refine HSo.out.mono ?_;rintro e u1 ⟨rfl,hB5⟩;have hS1:=hS0.trans (hB5.mono hS0.size);have HA5:=uh (HA.out.call hB5);clear hB5 hS0 HSo HA;refine hK.out _ _ hS1 fun _=>?_;clear hK K;simp only[st0,st1,st2];refine tkA 21 66 hS1 ?_;refine tkA 22 67 hS1 ?_;refine wpAnyH_done (by kernel_rfl) ?_ _;refine NoPanic.normal ?_;clear hS1 HX
 cases sd
 case false=>
  go_wp2_with fail
  refine(HAlEnd.out u1 (HBu.out u1 HA5.out.below)).mono ?_;rintro e w6 ⟨rfl,hB⟩;have HB:=uh hB;clear hB
  go_wp2_with fail
  go_ret;exact⟨rfl,HB.out⟩
 have Hw0:=uh (of_decide_eq_true Hsd.out.symm);simp only[Bool.not_true];clear Hsd
 go_wp2_with fail
 go_loopw [11] (fun v11 wr=>∃i:Nat,i <= cs.length /\ v11=.int .i64 i /\ (∀j c,j<i -> cs[j]?= some c -> ¬(c.2.tag=1 /\ addr=1048576+2*c.1)) /\ AudAt w1 wr sb tb rb hd wb pb mb lao lcap L W B W rs (List.replicate 4 zeroSlot) m ((xb,.cells #[pt sb,pt rb,c2,pt hd,pt pb,.slice la cs.length lc,vw,.slice ra rs.length rc,.slice pa2 ps.length pc2] 77)::lL)) (fun v11 _=>cs.length-(intOf v11).toNat)
 case atStart=>exact⟨0,Nat.zero_le _,by go_num,(fun j c hj=>absurd hj (Nat.not_lt_zero _)),HA5.out⟩
 case round=>
  clear HA5;obtain⟨i,hi,rfl,hno,hA⟩:=hrel;have q5:=hA.has.cell (b:=xb) (c:=#[pt sb,pt rb,c2,pt hd,pt pb,.slice la cs.length lc,vw,.slice ra rs.length rc,.slice pa2 ps.length pc2]) (e:=77) (f:=(0,0)) (by simp) 5;have Hno:=uh hno
  by_cases hlt:i<cs.length
  · have hlt':(i:Int)<(cs.length:Int):=by omega
    obtain⟨c,hc⟩:∃c,cs[i]?= some c:=⟨cs[i],List.getElem?_eq_getElem hlt⟩;have hsr:=HrL.out.src (R:=[(xb,.cells #[pt sb,pt rb,c2,pt hd,pt pb,.slice la cs.length lc,vw,.slice ra rs.length rc,.slice pa2 ps.length pc2] 77)]) (hA.has.perm po);obtain⟨b,off,rfl,-⟩:=hsr.form (by rw[ces_length];omega);have hrg:=hsr.ce hc;have q0:wr.cell? ⟨b,off+i*5,none⟩=some (.int .i64 c.1):=hrg 0 _ rfl;have q1:wr.cell? ⟨b,off+i*5+1,none⟩=some (.int .u8 c.2.tag):=hrg 1 _ rfl;have hcg:=Hcg.out c (List.mem_of_getElem? hc)
    have HN:=uh (fun(h:¬(c.2.tag=1 /\ addr=1048576+2*c.1)) j d (hj:j<i+1) (hjd:cs[j]?= some d)=>(by
     by_cases hji:j<i
     ·exact hno j d hji hjd
     · obtain rfl:j=i:=by omega
       rw[hc]at hjd
       cases hjd
       exact h:¬(d.2.tag=1 /\ addr=1048576+2*d.1)))
    have HA:=uh hA;clear hA hno hsr hrg hc Hno
    by_cases ht:c.2.tag=1
    · have htz:(((c.2.tag:Nat):Int) == 1)=true:=by simp[ht]
      obtain⟨z,hz⟩:∃z,1048576+2*c.1=z:=⟨_,rfl⟩;have ha8:=addr8 wr c.1 hcg;rw[hz]at ha8 HN;have Ha8:=uh ha8;clear ha8 hz hcg
      by_cases hza:z=addr
      · have hzz:(((z:Nat):Int) == ((addr:Nat):Int))=true:=by simp[hza]
        clear hza ht
        go_wp2_with (first
         | (go_at_call 30;refine Ha8.out.mono ?_;rintro e w' ⟨rfl,hw⟩;rw[hw];clear hw w')
         | (go_at_call 23;refine(HAlEnd.out wr (HBu.out wr HA.out.below)).mono ?_;rintro e w6 ⟨rfl,hB⟩;have HB:=uh hB;clear hB)
         | fail)
        go_ret;exact⟨rfl,HB.out⟩
      · have hzz:(((z:Nat):Int) == ((addr:Nat):Int))=false:=by simp;omega
        go_wp2_with (first
         | (go_at_call 30;refine Ha8.out.mono ?_;rintro e w' ⟨rfl,hw⟩;rw[hw];clear hw w')
         | fail)
        go_roundw
        case rel=>exact⟨i+1,by omega,by go_num,HN.out (by omega),HA.out⟩
        case measure=>simp[intOf];omega
    · have htz:(((c.2.tag:Nat):Int) == 1)=false:=by simp;omega
      clear hcg
      go_wp2_with fail
      go_roundw
      case rel=>exact⟨i+1,by omega,by go_num,HN.out (fun h=>ht h.1),HA.out⟩
      case measure=>simp[intOf];omega
  · obtain rfl:i=cs.length:=by omega
    have hnl:¬((cs.length:Nat):Int)<(cs.length:Int):=by omega
    have hlv:lives cs addr=false:=by
     rw[Bool.eq_false_iff];intro h;obtain⟨c,hc,he⟩:=lives_iff.1 h;obtain⟨h1,h2⟩:=objs_mem hc;obtain⟨j,hj⟩:=List.getElem?_of_mem h1;exact hno j c (List.getElem?_eq_some_iff.1 hj).1 hj ⟨h2,he⟩
    have Hlv:=uh hlv;clear hno hlv Hno Hcg;obtain⟨kb,hkb⟩:∃kb,wr.heap.size=kb:=⟨_,rfl⟩;have hA1:=hA.grow ((Turn.refl (Has.nil wr)).alloc (.cells #[.int .u8 0,.int .i64 0,.int .i64 0,.int .u64 0,.int .i64 0] 60));rw[hkb]at hA1;have HA:=uh hA1;clear hA hA1
    go_upto_region 15 with fail
    clear hkb q5;generalize wr.alloc (.cells #[.int .u8 0,.int .i64 0,.int .i64 0,.int .u64 0,.int .i64 0] 60)=y0 at*;have q3:=HA.out.has.cell (b:=xb) (c:=#[pt sb,pt rb,c2,pt hd,pt pb,.slice la cs.length lc,vw,.slice ra rs.length rc,.slice pa2 ps.length pc2]) (e:=77) (f:=(0,0)) (by simp) 3;have q4:=HA.out.has.cell (b:=xb) (c:=#[pt sb,pt rb,c2,pt hd,pt pb,.slice la cs.length lc,vw,.slice ra rs.length rc,.slice pa2 ps.length pc2]) (e:=77) (f:=(0,0)) (by simp) 4;have hw0:=Hw0.out;rw[wdl_none]at hw0;have HW:=uh hw0;clear hw0;rcases(by omega:which%4=0∨which%4=1∨which%4=2∨which%4=3)with hr|hr|hr|hr
    · have k1:((which:Nat):Int).tmod 4=0:=by rw[Int.tmod_eq_emod_of_nonneg (by omega)];omega
      have k2:((which:Nat):Int)%4=0:=(by omega);clear hr;have hadd:=aud_hand HA.out (by omega) (fun v hv=>(Hru.out v hv).1) addr ha0;have hwr:=wrongs_hand (L:=L) (W:=W) (hp:=dup ys) (hw:=[]) (by omega) (fun v hv=>(Hru.out v hv).1) ha0 HW.out Hlv.out;obtain⟨who,hwho⟩:∃who,4294967296+rs.length=who:=⟨_,rfl⟩;rw[hwho]at hadd hwr;have HAd:=uh hadd;have Hwr:=uh hwr;clear hadd hwr hwho q4 HA
      go_wp2_with fail
      refine HAd.out.mono ?_;rintro e y1 ⟨rfl,hA1⟩;have hob:(#[.int .u8 3,.int .i64 0,.int .i64 0,.int .u64 who,.int .i64 0]:Array Value).all (·.oneCell')=true:=all_one (cs:=[.int .u8 3,.int .i64 0,.int .i64 0,.int .u64 who,.int .i64 0]) (by simp[Value.oneCell']);have hth:y1.there kb 0 5:=hA1.has.there (b:=kb) (c:=#[.int .u8 0,.int .i64 0,.int .i64 0,.int .u64 0,.int .i64 0]) (e:=60) (List.mem_cons_self ..) 0 5 (by simp);have HA2:=uh (hA1.laid [.int .u8 3,.int .i64 0,.int .i64 0,.int .u64 who,.int .i64 0] rfl);clear HAd hA1 q3
      go_wp2_with (first
       | (show sW 60;refine wpList_store_mid rfl 60 _ _ rfl kb 0 #[.int .u8 3,.int .i64 0,.int .i64 0,.int .u64 who,.int .i64 0] rfl rfl hth hszB hob ?_;clear hth hob;generalize y1.setCells kb 0 [.int .u8 3,.int .i64 0,.int .i64 0,.int .u64 who,.int .i64 0]=y2 at*)
       | fail)
      have hof:=aud_of Hb.out HG.out HA2.out.drew (by rw[List.length_append,List.length_singleton];omega) (fun v hv=>by
       rcases List.mem_append.1 hv with hv|hv
       ·exact Hru.out v hv
       · rw[List.mem_singleton.1 hv]
         exact⟨ha0,h64⟩) zs_addr (by rw[wdl_none];intro x hx;cases hx) (by rw[wdl_none];exact Nat.zero_le _) Hok.out (by omega) Hy.out.1
      rw[wdl_none,Hwr.out]at hof;simp only[List.length_singleton]at hof;have Hof:=uh hof;clear hof Hwr k1 k2
      have HX2:=uh (fun u (hk:Below y2.heap.size y2 u) (j:Nat) (x:Value) (hx:(#[pt sb,pt rb,c2,pt hd,pt pb,.slice la cs.length lc,vw,.slice ra rs.length rc,.slice pa2 ps.length pc2]:Array Value)[j]?= some x)=>(by
       have h1:=(HA2.out.has.cell (b:=xb) (c:=#[pt sb,pt rb,c2,pt hd,pt pb,.slice la cs.length lc,vw,.slice ra rs.length rc,.slice pa2 ps.length pc2]) (e:=77) (f:=(0,0)) (by simp) j).trans hx;exact(hk.cell (p:=⟨xb,j,none⟩) (World.block_lt_of_cell? _ _ h1)).trans h1:u.cell? ⟨xb,j,none⟩=some x))
      have HA3:=uh HA2.out.drew;clear HA2;have hS0:Below y2.heap.size y2 y2.drew:=(Turn.refl (Has.nil y2)).drew.below;refine wp_region_noPanic ?_;refine wp_region_listed (S:=fun u=>Below y2.heap.size y2 u) 19 [false,false,false,false,false,false,false,false,false,false,false,false,false,false,false,false,false,false,false] rfl rfl (by kernel_rfl) ?_;generalize y2.drew=u0 at*;refine tkA 0 161 hS0 ?_;refine tkA 1 162 hS0 ?_;refine tkA 2 163 hS0 ?_;refine tkB 3 164 hS0 (fun w hSw=>(HX2.out w hSw 0 _ rfl)) ?_;refine tkA 4 165 hS0 ?_;refine tkA 5 166 hS0 ?_;refine tkA 6 167 hS0 ?_;refine tkB 7 168 hS0 (fun w hSw=>(HX2.out w hSw 3 _ rfl)) ?_;refine tkA 8 169 hS0 ?_;refine tkA 9 170 hS0 ?_;refine tkA 10 171 hS0 ?_;refine tkA 11 172 hS0 ?_;refine tkB 12 173 hS0 (fun w hSw=>(HX2.out w hSw 4 _ rfl)) ?_;refine rdyA 13 (fun K hK=>?_)
      go_simp
      refine Hof.out.mono ?_;rintro e u5 ⟨ao,acap,l5,rfl,hr5,T5⟩;have hS1:=hS0.trans (T5.below.mono hS0.size);have HA5:=uh (HA3.out.grow T5);have Hr5:=uh hr5;clear T5 hS0 hr5 Hof HA3;refine hK.out _ _ hS1 fun _=>?_;clear hK K;simp only[st0,st1,st2];refine tkA 14 160 hS1 ?_;refine tkA 15 175 hS1 ?_;refine tkA 16 176 hS1 ?_;refine tkA 17 17 hS1 ?_;refine tkA 18 18 hS1 ?_;refine wpAnyH_done (by kernel_rfl) ?_ _;refine NoPanic.normal ?_;clear hS1 HX2;have hrk:u5.rangeAt kb 0 [.int .u8 3,.int .i64 0,.int .i64 0,.int .u64 who,.int .i64 0]:=HA5.out.has.range (b:=kb) (c:=#[.int .u8 3,.int .i64 0,.int .i64 0,.int .u64 who,.int .i64 0]) (e:=60) (f:=(0,0)) (by simp);have hs5:=Hr5.out.src (R:=(kb,.cells #[.int .u8 3,.int .i64 0,.int .i64 0,.int .u64 who,.int .i64 0] 60)::(xb,.cells #[pt sb,pt rb,c2,pt hd,pt pb,.slice la cs.length lc,vw,.slice ra rs.length rc,.slice pa2 ps.length pc2] 77)::lL) HA5.out.has;have T7:=(Turn.refl (Has.nil u5)).alloc (.cells #[.int .u8 3,.int .i64 0,.int .i64 0,.int .u64 who,.int .i64 0] 60);have hs6:Src (u5.alloc (.cells #[.int .u8 3,.int .i64 0,.int .i64 0,.int .u64 who,.int .i64 0] 60)) (some ⟨u5.heap.size,0,none⟩) 1 1 5 (brs [(3,0,0,who,0)]):=(Row.lit (e:=60) (size:=5) u5.heap.size #[.int .u8 3,.int .i64 0,.int .i64 0,.int .u64 who,.int .i64 0] 1 rfl (by decide)).src (R:=[]) T7.has
      have hdd:decide (([(3,0,0,who,0)]:List Br)=[(3,0,0,who,0)])=true:=decide_eq_true rfl;have HSm:=uh (same29 _ [(3,0,0,who,0)] [(3,0,0,who,0)] ao acap (some ⟨u5.heap.size,0,none⟩) 1 (hs5.below T7.below) hs6 (by simp) (by simp));rw[hdd]at HSm;have HB5:=uh (HBu.out _ (HA5.out.grow T7).below);clear HA5 hs5 T7 hs6 hdd Hr5
      go_wp2_with (first
       | (show lW 60;refine wpList_load_g 60 _ rfl (by rfl) kb 0 rfl [.int .u8 3,.int .i64 0,.int .i64 0,.int .u64 who,.int .i64 0] _ hrk underlying60 rfl hszB ?_;clear hrk)
       | (go_at_call 35;refine HSm.out.mono ?_;rintro e u8 ⟨rfl,hB8⟩;have HB8:=uh (HB5.out.trans (hB8.mono HB5.out.size));clear hB8 HSm)
       | (go_at_call 23;refine(HAlEnd.out _ HB8.out).mono ?_;rintro e u9 ⟨rfl,hB⟩;have HB9:=uh hB;clear hB HB8)
       | fail)
      go_ret;exact⟨rfl,HB9.out⟩
    · have k1:((which:Nat):Int).tmod 4=1:=by rw[Int.tmod_eq_emod_of_nonneg (by omega)];omega
      have k2:((which:Nat):Int)%4=1:=(by omega);clear hr;have hadd:=aud_weak HA.out addr ha0;have hwr:=wrongs_weak (L:=L) (W:=W) (hh:=hdl (hSl rs)) (hp:=dup ys) ha0 HW.out Hlv.out;have hwd:=wdl_one addr;obtain⟨who,hwho⟩:∃who,4294967296=who:=⟨_,rfl⟩;rw[hwho]at hadd hwr hwd;have HAd:=uh hadd;have Hwr:=uh hwr;have Hwd:=uh hwd;clear hadd hwr hwho hwd q3 q4 HA
      go_wp2_with fail
      refine HAd.out.mono ?_;rintro e y1 ⟨rfl,hA1⟩;have hob:(#[.int .u8 5,.int .i64 0,.int .i64 0,.int .u64 who,.int .i64 0]:Array Value).all (·.oneCell')=true:=all_one (cs:=[.int .u8 5,.int .i64 0,.int .i64 0,.int .u64 who,.int .i64 0]) (by simp[Value.oneCell']);have hth:y1.there kb 0 5:=hA1.has.there (b:=kb) (c:=#[.int .u8 0,.int .i64 0,.int .i64 0,.int .u64 0,.int .i64 0]) (e:=60) (List.mem_cons_self ..) 0 5 (by simp);have HA2:=uh (hA1.laid [.int .u8 5,.int .i64 0,.int .i64 0,.int .u64 who,.int .i64 0] rfl);clear HAd hA1
      go_wp2_with (first
       | (show sW 60;refine wpList_store_mid rfl 60 _ _ rfl kb 0 #[.int .u8 5,.int .i64 0,.int .i64 0,.int .u64 who,.int .i64 0] rfl rfl hth hszB hob ?_;clear hth hob;generalize y1.setCells kb 0 [.int .u8 5,.int .i64 0,.int .i64 0,.int .u64 who,.int .i64 0]=y2 at*)
       | fail)
      have hof:=aud_of Hb.out HG.out HA2.out.drew (by omega) Hru.out (os_addr addr) (by rw[Hwd.out];intro x hx;rw[List.mem_singleton.1 hx];exact h64) (by rw[Hwd.out];exact(by decide:1 <= 65536)) Hok.out (by omega) Hy.out.1;rw[Hwd.out,Hwr.out]at hof;simp only[List.length_singleton]at hof;have Hof:=uh hof;clear hof Hwr k1 k2
      have HX2:=uh (fun u (hk:Below y2.heap.size y2 u) (j:Nat) (x:Value) (hx:(#[pt sb,pt rb,c2,pt hd,pt pb,.slice la cs.length lc,vw,.slice ra rs.length rc,.slice pa2 ps.length pc2]:Array Value)[j]?= some x)=>(by
       have h1:=(HA2.out.has.cell (b:=xb) (c:=#[pt sb,pt rb,c2,pt hd,pt pb,.slice la cs.length lc,vw,.slice ra rs.length rc,.slice pa2 ps.length pc2]) (e:=77) (f:=(0,0)) (by simp) j).trans hx;exact(hk.cell (p:=⟨xb,j,none⟩) (World.block_lt_of_cell? _ _ h1)).trans h1:u.cell? ⟨xb,j,none⟩=some x))
      have HA3:=uh HA2.out.drew;clear HA2;have hS0:Below y2.heap.size y2 y2.drew:=(Turn.refl (Has.nil y2)).drew.below;refine wp_region_noPanic ?_;refine wp_region_listed (S:=fun u=>Below y2.heap.size y2 u) 19 [false,false,false,false,false,false,false,false,false,false,false,false,false,false,false,false,false,false,false] rfl rfl (by kernel_rfl) ?_;generalize y2.drew=u0 at*;refine tkA 0 161 hS0 ?_;refine tkA 1 162 hS0 ?_;refine tkA 2 163 hS0 ?_;refine tkB 3 164 hS0 (fun w hSw=>(HX2.out w hSw 0 _ rfl)) ?_;refine tkA 4 165 hS0 ?_;refine tkA 5 166 hS0 ?_;refine tkA 6 167 hS0 ?_;refine tkB 7 168 hS0 (fun w hSw=>(HX2.out w hSw 3 _ rfl)) ?_;refine tkA 8 169 hS0 ?_;refine tkA 9 170 hS0 ?_;refine tkA 10 171 hS0 ?_;refine tkA 11 172 hS0 ?_;refine tkB 12 173 hS0 (fun w hSw=>(HX2.out w hSw 4 _ rfl)) ?_;refine rdyA 13 (fun K hK=>?_)
      go_simp
      refine Hof.out.mono ?_;rintro e u5 ⟨ao,acap,l5,rfl,hr5,T5⟩;have hS1:=hS0.trans (T5.below.mono hS0.size);have HA5:=uh (HA3.out.grow T5);have Hr5:=uh hr5;clear T5 hS0 hr5 Hof HA3;refine hK.out _ _ hS1 fun _=>?_;clear hK K;simp only[st0,st1,st2];refine tkA 14 160 hS1 ?_;refine tkA 15 175 hS1 ?_;refine tkA 16 176 hS1 ?_;refine tkA 17 17 hS1 ?_;refine tkA 18 18 hS1 ?_;refine wpAnyH_done (by kernel_rfl) ?_ _;refine NoPanic.normal ?_;clear hS1 HX2;have hrk:u5.rangeAt kb 0 [.int .u8 5,.int .i64 0,.int .i64 0,.int .u64 who,.int .i64 0]:=HA5.out.has.range (b:=kb) (c:=#[.int .u8 5,.int .i64 0,.int .i64 0,.int .u64 who,.int .i64 0]) (e:=60) (f:=(0,0)) (by simp);have hs5:=Hr5.out.src (R:=(kb,.cells #[.int .u8 5,.int .i64 0,.int .i64 0,.int .u64 who,.int .i64 0] 60)::(xb,.cells #[pt sb,pt rb,c2,pt hd,pt pb,.slice la cs.length lc,vw,.slice ra rs.length rc,.slice pa2 ps.length pc2] 77)::lL) HA5.out.has;have T7:=(Turn.refl (Has.nil u5)).alloc (.cells #[.int .u8 5,.int .i64 0,.int .i64 0,.int .u64 who,.int .i64 0] 60);have hs6:Src (u5.alloc (.cells #[.int .u8 5,.int .i64 0,.int .i64 0,.int .u64 who,.int .i64 0] 60)) (some ⟨u5.heap.size,0,none⟩) 1 1 5 (brs [(5,0,0,who,0)]):=(Row.lit (e:=60) (size:=5) u5.heap.size #[.int .u8 5,.int .i64 0,.int .i64 0,.int .u64 who,.int .i64 0] 1 rfl (by decide)).src (R:=[]) T7.has
      have hdd:decide (([(5,0,0,who,0)]:List Br)=[(5,0,0,who,0)])=true:=decide_eq_true rfl;have HSm:=uh (same29 _ [(5,0,0,who,0)] [(5,0,0,who,0)] ao acap (some ⟨u5.heap.size,0,none⟩) 1 (hs5.below T7.below) hs6 (by simp) (by simp));rw[hdd]at HSm;have HB5:=uh (HBu.out _ (HA5.out.grow T7).below);clear HA5 hs5 T7 hs6 hdd Hr5
      go_wp2_with (first
       | (show lW 60;refine wpList_load_g 60 _ rfl (by rfl) kb 0 rfl [.int .u8 5,.int .i64 0,.int .i64 0,.int .u64 who,.int .i64 0] _ hrk underlying60 rfl hszB ?_;clear hrk)
       | (go_at_call 35;refine HSm.out.mono ?_;rintro e u8 ⟨rfl,hB8⟩;have HB8:=uh (HB5.out.trans (hB8.mono HB5.out.size));clear hB8 HSm)
       | (go_at_call 23;refine(HAlEnd.out _ HB8.out).mono ?_;rintro e u9 ⟨rfl,hB⟩;have HB9:=uh hB;clear hB HB8)
       | fail)
      go_ret;exact⟨rfl,HB9.out⟩
    · have k1:((which:Nat):Int).tmod 4=2:=by rw[Int.tmod_eq_emod_of_nonneg (by omega)];omega
      have k2:((which:Nat):Int)%4=2:=(by omega);clear hr;have hob:(#[.int .u8 4,.int .i64 0,.int .i64 0,.int .u64 addr,.int .i64 0]:Array Value).all (·.oneCell')=true:=all_one (cs:=[.int .u8 4,.int .i64 0,.int .i64 0,.int .u64 addr,.int .i64 0]) (by simp[Value.oneCell']);have hth:y0.there kb 0 5:=HA.out.has.there (b:=kb) (c:=#[.int .u8 0,.int .i64 0,.int .i64 0,.int .u64 0,.int .i64 0]) (e:=60) (List.mem_cons_self ..) 0 5 (by simp);have HA1:=uh (HA.out.laid [.int .u8 4,.int .i64 0,.int .i64 0,.int .u64 addr,.int .i64 0] rfl);clear HA q3;have q4b:=HA1.out.has.cell (b:=xb) (c:=#[pt sb,pt rb,c2,pt hd,pt pb,.slice la cs.length lc,vw,.slice ra rs.length rc,.slice pa2 ps.length pc2]) (e:=77) (f:=(0,0)) (by simp) 4;clear q4;have HAd:=uh (aud_pin HA1.out Hok.out (by omega) addr ha0 h64)
      go_wp2_with (first
       | (show sW 60;refine wpList_store_mid rfl 60 _ _ rfl kb 0 #[.int .u8 4,.int .i64 0,.int .i64 0,.int .u64 addr,.int .i64 0] rfl rfl hth hszB hob ?_;clear hth hob;generalize y0.setCells kb 0 [.int .u8 4,.int .i64 0,.int .i64 0,.int .u64 addr,.int .i64 0]=y1 at*)
       | fail)
      refine HAd.out.mono ?_;rintro e y2 ⟨rfl,m',hok',hnd',hA2⟩;obtain⟨zs,hz,hzp⟩:=hok'.list (by rw[List.length_append,List.length_singleton];omega) hnd';have hwr:=wrongs_pin (L:=L) (W:=W) (hh:=hdl (hSl rs)) (hw:=[]) hz (fun x=>(hzp x).trans ((List.mem_append.trans (or_congr (Hy.out.2 x).symm List.mem_singleton)))) HW.out Hlv.out;have hof:=aud_of Hb.out HG.out hA2.drew (by omega) Hru.out zs_addr (by rw[wdl_none];intro x hx;cases hx) (by rw[wdl_none];exact Nat.zero_le _) hok' (by rw[List.length_append,List.length_singleton];omega) hz;rw[wdl_none,hwr]at hof;simp only[List.length_singleton]at hof;have Hof:=uh hof;have HA2:=uh hA2;clear hof hwr hok' hnd' hz hzp hA2 HAd HA1 q4b
      go_wp2_with fail
      clear k1 k2
      have HX2:=uh (fun u (hk:Below y2.heap.size y2 u) (j:Nat) (x:Value) (hx:(#[pt sb,pt rb,c2,pt hd,pt pb,.slice la cs.length lc,vw,.slice ra rs.length rc,.slice pa2 ps.length pc2]:Array Value)[j]?= some x)=>(by
       have h1:=(HA2.out.has.cell (b:=xb) (c:=#[pt sb,pt rb,c2,pt hd,pt pb,.slice la cs.length lc,vw,.slice ra rs.length rc,.slice pa2 ps.length pc2]) (e:=77) (f:=(0,0)) (by simp) j).trans hx;exact(hk.cell (p:=⟨xb,j,none⟩) (World.block_lt_of_cell? _ _ h1)).trans h1:u.cell? ⟨xb,j,none⟩=some x))
      have HA3:=uh HA2.out.drew;clear HA2;have hS0:Below y2.heap.size y2 y2.drew:=(Turn.refl (Has.nil y2)).drew.below;refine wp_region_noPanic ?_;refine wp_region_listed (S:=fun u=>Below y2.heap.size y2 u) 19 [false,false,false,false,false,false,false,false,false,false,false,false,false,false,false,false,false,false,false] rfl rfl (by kernel_rfl) ?_;generalize y2.drew=u0 at*;refine tkA 0 161 hS0 ?_;refine tkA 1 162 hS0 ?_;refine tkA 2 163 hS0 ?_;refine tkB 3 164 hS0 (fun w hSw=>(HX2.out w hSw 0 _ rfl)) ?_;refine tkA 4 165 hS0 ?_;refine tkA 5 166 hS0 ?_;refine tkA 6 167 hS0 ?_;refine tkB 7 168 hS0 (fun w hSw=>(HX2.out w hSw 3 _ rfl)) ?_;refine tkA 8 169 hS0 ?_;refine tkA 9 170 hS0 ?_;refine tkA 10 171 hS0 ?_;refine tkA 11 172 hS0 ?_;refine tkB 12 173 hS0 (fun w hSw=>(HX2.out w hSw 4 _ rfl)) ?_;refine rdyA 13 (fun K hK=>?_)
      go_simp
      refine Hof.out.mono ?_;rintro e u5 ⟨ao,acap,l5,rfl,hr5,T5⟩;have hS1:=hS0.trans (T5.below.mono hS0.size);have HA5:=uh (HA3.out.grow T5);have Hr5:=uh hr5;clear T5 hS0 hr5 Hof HA3;refine hK.out _ _ hS1 fun _=>?_;clear hK K;simp only[st0,st1,st2];refine tkA 14 160 hS1 ?_;refine tkA 15 175 hS1 ?_;refine tkA 16 176 hS1 ?_;refine tkA 17 17 hS1 ?_;refine tkA 18 18 hS1 ?_;refine wpAnyH_done (by kernel_rfl) ?_ _;refine NoPanic.normal ?_;clear hS1 HX2;have hrk:u5.rangeAt kb 0 [.int .u8 4,.int .i64 0,.int .i64 0,.int .u64 addr,.int .i64 0]:=HA5.out.has.range (b:=kb) (c:=#[.int .u8 4,.int .i64 0,.int .i64 0,.int .u64 addr,.int .i64 0]) (e:=60) (f:=(0,0)) (by simp);have hs5:=Hr5.out.src (R:=(kb,.cells #[.int .u8 4,.int .i64 0,.int .i64 0,.int .u64 addr,.int .i64 0] 60)::(xb,.cells #[pt sb,pt rb,c2,pt hd,pt pb,.slice la cs.length lc,vw,.slice ra rs.length rc,.slice pa2 ps.length pc2] 77)::lL) HA5.out.has;have T7:=(Turn.refl (Has.nil u5)).alloc (.cells #[.int .u8 4,.int .i64 0,.int .i64 0,.int .u64 addr,.int .i64 0] 60)
      have hs6:Src (u5.alloc (.cells #[.int .u8 4,.int .i64 0,.int .i64 0,.int .u64 addr,.int .i64 0] 60)) (some ⟨u5.heap.size,0,none⟩) 1 1 5 (brs [(4,0,0,addr,0)]):=(Row.lit (e:=60) (size:=5) u5.heap.size #[.int .u8 4,.int .i64 0,.int .i64 0,.int .u64 addr,.int .i64 0] 1 rfl (by decide)).src (R:=[]) T7.has;have hdd:decide (([(4,0,0,addr,0)]:List Br)=[(4,0,0,addr,0)])=true:=decide_eq_true rfl;have HSm:=uh (same29 _ [(4,0,0,addr,0)] [(4,0,0,addr,0)] ao acap (some ⟨u5.heap.size,0,none⟩) 1 (hs5.below T7.below) hs6 (by simp) (by simp));rw[hdd]at HSm;have HB5:=uh (HBu.out _ (HA5.out.grow T7).below);clear HA5 hs5 T7 hs6 hdd Hr5
      go_wp2_with (first
       | (show lW 60;refine wpList_load_g 60 _ rfl (by rfl) kb 0 rfl [.int .u8 4,.int .i64 0,.int .i64 0,.int .u64 addr,.int .i64 0] _ hrk underlying60 rfl hszB ?_;clear hrk)
       | (go_at_call 35;refine HSm.out.mono ?_;rintro e u8 ⟨rfl,hB8⟩;have HB8:=uh (HB5.out.trans (hB8.mono HB5.out.size));clear hB8 HSm)
       | (go_at_call 23;refine(HAlEnd.out _ HB8.out).mono ?_;rintro e u9 ⟨rfl,hB⟩;have HB9:=uh hB;clear hB HB8)
       | fail)
      go_ret;exact⟨rfl,HB9.out⟩
    · have k1:((which:Nat):Int).tmod 4=3:=by rw[Int.tmod_eq_emod_of_nonneg (by omega)];omega
      have k2:((which:Nat):Int)%4=3:=(by omega);clear hr;have HRf:=uh (refs29 y0 (pt rb) c2 vw (.slice ra rs.length rc) (.slice pa2 ps.length pc2) la lc lL Hb.out HG.out (HA.out.sub (List.sublist_cons_self _ _)) HrL.out (by omega) Hru.out zs_addr (by rw[wdl_none];intro x hx;cases hx) (by rw[wdl_none];exact Nat.zero_le _) Hok.out (by omega) Hy.out.1 Hw0.out addr ha0 h64 Hlv.out);clear HA q3 q4
      go_wp2_with fail
      refine HRf.out.mono ?_;rintro e y1 ⟨rfl,hB1⟩;have HB1:=uh (HBu.out y1 hB1);clear hB1 HRf
      go_wp2_with fail
      refine(HAlEnd.out y1 HB1.out).mono ?_;rintro e y2 ⟨rfl,hB⟩;have HB:=uh hB;clear hB
      go_wp2_with fail
      go_ret;exact⟨rfl,HB.out⟩
end
section
open Go Go.RowKit Go.ChangeShapes Go.WideShapes Go.ChangeAt Go.Deep
theorem cells_case:prog.cellsOf 63= 6:=by kernel_rfl
theorem cells_u64:prog.cellsOf 47= 1:=by kernel_rfl
theorem cells_sl0:prog.cellsOf 22= 1:=by kernel_rfl
theorem cells_sl1:prog.cellsOf 23= 1:=by kernel_rfl
theorem cells_sl2:prog.cellsOf 61= 1:=by kernel_rfl
section
variable {H:Type} {enc:TypeId×Value -> H} {w:World}
theorem open_words {u:Value}{fuel:Nat}{x:DataW H×List MemPlace}(h:DataW.trod enc prog w 0 (fun _=>true) true fuel 61 [u]=some x):
  ∃(xs:List Nat) (ao:Option Addr) (cap:Nat),u=.slice ao xs.length cap /\ Src w ao xs.length cap 1 (n64s xs) /\ xs.length <= maxLen /\ ∀v∈xs,v<18446744073709551616:=by
 rcases open_ints underlying61 underlying47 cells_u64 h with⟨hv,-⟩|⟨a5,n5,c5',zs,hv,-,hl5,hm5,hzl,hy,hat,hwf⟩
 · obtain rfl:=List.singleton_inj.1 hv
   exact⟨[],none,0,rfl,⟨rfl,(fun _=>⟨rfl,rfl⟩),(fun ad h=>by cases h)⟩,Nat.zero_le _,(fun _ h=>by cases h)⟩
 · obtain rfl:=List.singleton_inj.1 hv
   simp only[if_true]at hzl
   have hb:∀z∈zs,0 <= z /\ z<18446744073709551616:=fun z hz=>by
    have:=bounds_u64 (hwf z hz);omega
   have hlen:((zs.take n5).map Int.toNat).length=n5:=(by rw[List.length_map,List.length_take];omega);refine⟨(zs.take n5).map Int.toNat,some a5,c5',by rw[hlen],⟨by simp[n64s],(fun h=>by cases h),fun ad had j u hj=>?_⟩,by rw[hlen];omega,fun v hv=>?_⟩
   · cases had
     have hjl:j<n5:=by
      have:=(List.getElem?_eq_some_iff.1 hj).1
      rwa [n64s_length,hlen]at this
     have hjz:j<zs.length:=(by omega);rw[hat j hjz];obtain⟨z,hz⟩:∃z,zs[j]?= some z:=⟨zs[j],List.getElem?_eq_getElem hjz⟩;have hz1:((zs.take n5).map Int.toNat)[j]?= some z.toNat:=(by rw[List.getElem?_map,List.getElem?_take_of_lt hjl,hz];rfl);rw[n64s_at hz1]at hj
     cases hj
     have h0:=(hb z (List.mem_of_getElem? hz)).1;rw[List.getD_eq_getElem?_getD,hz]
     show some (Value.int .u64 z)=some (Value.int .u64 (z.toNat:Int))
     rw[Int.toNat_of_nonneg h0]
   · obtain⟨z,hz,rfl⟩:=List.mem_map.1 hv
     have:=hb z (List.mem_of_mem_take hz);omega
theorem form_types {u:Value}{fuel:Nat}{x:DataW H×List MemPlace}(h:DataW.trod enc prog w 0 (fun _=>true) true fuel 22 [u]=some x):∃ao len cap,u=.slice ao len cap:=by
 rcases DataW.trod_slice underlying22 h with⟨hv,-⟩|⟨a,len,cap,elems,rest,n,-,hv,-⟩
 ·exact⟨_,_,_,List.singleton_inj.1 hv⟩
 ·exact⟨_,_,_,List.singleton_inj.1 hv⟩
theorem form_steps {u:Value}{fuel:Nat}{x:DataW H×List MemPlace}(h:DataW.trod enc prog w 0 (fun _=>true) true fuel 23 [u]=some x):∃ao len cap,u=.slice ao len cap:=by
 rcases DataW.trod_slice underlying23 h with⟨hv,-⟩|⟨a,len,cap,elems,rest,n,-,hv,-⟩
 ·exact⟨_,_,_,List.singleton_inj.1 hv⟩
 ·exact⟨_,_,_,List.singleton_inj.1 hv⟩
theorem one_of {cs:List Value}{o:Nat}(h:o<cs.length):∃u,(cs.drop o).take 1=[u] /\ cs[o]?= some u:=by
 refine⟨cs[o],?_,List.getElem?_eq_getElem h⟩
 rw[List.drop_eq_getElem_cons h]
 rfl
theorem open_case {r:Reach}{b0:Nat}{v:Value}{d:DataW H}{p:List MemPlace}(hval:Value.okWide prog w r b0 63 v)
  (h:DataW.Trod enc prog w 0 (fun _=>true) true 63 v d p)(hw:∀n∈d.weights prog 63,n <= reachBytes):
  ∃(n:Int) (L:List Ty) (lao sao ka ha pa:Option Addr) (lcap scap kc hc pc:Nat) (ss:List Stp) (kl hl pl:List Nat),v=.agg #[.int .i64 n,.slice lao L.length lcap,.slice sao ss.length scap,.slice ka kl.length kc,.slice ha hl.length hc,.slice pa pl.length pc] /\
   (∀t∈L,TyIn t) /\ Src w lao L.length lcap 3 (tys L) /\ L.length <= maxLen /\ Src w sao ss.length scap 6 (sts ss) /\ ss.length <= maxLen /\ (∀s∈ss,s.w<18446744073709551616 /\ Src w s.ao s.ats.length s.cap 1 (ints s.ats) /\ s.ats.length <= 17592186044416) /\
   (Src w ka kl.length kc 1 (n64s kl) /\ kl.length <= maxLen /\ ∀v∈kl,v<18446744073709551616) /\ (Src w ha hl.length hc 1 (n64s hl) /\ hl.length <= maxLen /\ ∀v∈hl,v<18446744073709551616) /\ (Src w pa pl.length pc 1 (n64s pl) /\ pl.length <= maxLen /\ ∀v∈pl,v<18446744073709551616):=by
 unfold Value.okWide at hval;rw[underlying63]at hval;obtain⟨cs,rfl,-,-⟩:=hval;obtain⟨fuel,hf0⟩:=h;have hcs:(Value.agg cs).cells=cs:=by simp[Value.cells]
 rw[hcs]at hf0;obtain⟨ys,n',-,hd,hlen,hyl,hf⟩:=DataW.trod_struct underlying63 hf0;rw[cells_case]at hlen;simp only[Prod.mk.injEq]at hd;obtain⟨rfl,-⟩:=hd;have hyl6:ys.length=6:=hyl
 have get:∀j,j<6 -> ∃u y,(cs.toList.drop j).take 1=[u] /\ cs.toList[j]?= some u /\ ys[j]?= some y:=fun j hj=>by
  obtain⟨u,h1,h2⟩:=one_of (cs:=cs.toList) (o:=j) (by omega);exact⟨u,ys[j]'(by omega),h1,h2,List.getElem?_eq_getElem _⟩
 obtain⟨u0,y0,a0,b0',c0⟩:=get 0 (by decide);obtain⟨u1,y1,a1,b1',c1⟩:=get 1 (by decide);obtain⟨u2,y2,a2,b2',c2⟩:=get 2 (by decide);obtain⟨u3,y3,a3,b3',c3⟩:=get 3 (by decide);obtain⟨u4,y4,a4,b4',c4⟩:=get 4 (by decide);obtain⟨u5,y5,a5,b5',c5⟩:=get 5 (by decide);have t0:DataW.trod enc prog w 0 (fun _=>true) true n' 3 ((cs.toList.drop 0).take (prog.cellsOf 3))=ys[0]? :=hf 0 _ rfl;have t1:DataW.trod enc prog w 0 (fun _=>true) true n' 22 ((cs.toList.drop 1).take (prog.cellsOf 22))=ys[1]? :=hf 1 _ rfl;have t2:DataW.trod enc prog w 0 (fun _=>true) true n' 23 ((cs.toList.drop 2).take (prog.cellsOf 23))=ys[2]? :=hf 2 _ rfl;have t3:DataW.trod enc prog w 0 (fun _=>true) true n' 61 ((cs.toList.drop 3).take (prog.cellsOf 61))=ys[3]? :=hf 3 _ rfl;have t4:DataW.trod enc prog w 0 (fun _=>true) true n' 61 ((cs.toList.drop 4).take (prog.cellsOf 61))=ys[4]? :=hf 4 _ rfl;have t5:DataW.trod enc prog w 0 (fun _=>true) true n' 61 ((cs.toList.drop 5).take (prog.cellsOf 61))=ys[5]? :=hf 5 _ rfl;rw[cells_int1,a0,c0]at t0;rw[cells_sl0,a1,c1]at t1;rw[cells_sl1,a2,c2]at t2;rw[cells_sl2,a3,c3]at t3;rw[cells_sl2,a4,c4]at t4;rw[cells_sl2,a5,c5]at t5;obtain⟨n,hn,-,-⟩:=DataW.trod_int underlying3 t0;obtain rfl:=List.singleton_inj.1 hn;obtain⟨lao,ln,lcap,rfl⟩:=form_types t1
 obtain⟨sao,sn,scap,rfl⟩:=form_steps t2;have k1:(Value.cells (.slice lao ln lcap)).toList=[.slice lao ln lcap]:=by simp[Value.cells]
 have k2:(Value.cells (.slice sao sn scap)).toList=[.slice sao sn scap]:=by simp[Value.cells]
 rw[←k1]at t1;rw[←k2]at t2;obtain⟨L,hTy,hS,rfl,hlc,hlm⟩:=open_types (d:=y1.1) (p:=y1.2) t1
 obtain⟨ss,hSt,rfl,hsm,hin⟩:=open_steps9 (d:=y2.1) (p:=y2.2) t2 (fun k hk=>hw k (by
  simp only[DataW.weights,underlying63];exact DataW.weights_mem_each (j:=2) (t:=23) (d:=y2.1) rfl (by rw[List.getElem?_map,c2];rfl) _ hk))
 obtain⟨kl,ka,kc,rfl,hk⟩:=open_words t3;obtain⟨hl,ha,hc,rfl,hh⟩:=open_words t4;obtain⟨pl,pa,pc,rfl,hp⟩:=open_words t5;refine⟨n,L,lao,sao,ka,ha,pa,lcap,scap,kc,hc,pc,ss,kl,hl,pl,?_,hTy,hS,Nat.le_trans hlc hlm,hSt,hsm,hin,hk,hh,hp⟩
 congr 1
 refine Array.ext' (List.ext_getElem? fun j=>?_)
 match j with
 | 0=>exact b0'
 | 1=>exact b1'
 | 2=>exact b2'
 | 3=>exact b3'
 | 4=>exact b4'
 | 5=>exact b5'
 | j+6=>
  rw[List.getElem?_eq_none (by omega)]
  rfl
end
end
end Go.Proofs.YtbecgkejdacidaaGreatDoor
namespace Go.Proofs.YtbecgkejdacidaaGreatDoor.auditFinds
open Go
theorem named:Tryz.pinned.checked.prog.funcNamed Rows.auditFindsRow.func=some 6:= by kernel_rfl
theorem looks:false=Tryz.pinned.checked.prog.looks []:=by kernel_rfl
theorem wfText:Rows.auditFindsRow.wfByText (OpenSpec.ofChange Rows.auditFindsSpec)=true:=by kernel_rfl
theorem mainIs : Tryz.pinned.checked.prog.mainIs = some (true, "367503d1219b5296946ea50cbce7af74187deeecb45e1afd359862ce6c042c1c".toList) := by kernel_rfl
theorem goesBy:false=Rows.auditFindsRow.goesBy Tryz.pinned.checked.prog:=by kernel_rfl
theorem closed:joinedFacts Tryz.pinned.checked.prog 6 Tryz.f6 Rows.auditFindsSpec Rows.auditFindsRow=true:=by
 unfold joinedFacts;simp only[Bool.and_eq_true]
 and_intros
 all_goals (as_aux_lemma=>kernel_rfl)
end Go.Proofs.YtbecgkejdacidaaGreatDoor.auditFinds
