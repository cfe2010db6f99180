/-
  A part of a proof: texts packed by a program of mine.
  Conditions: those that each theorem states.
-/
import Derived.Laws.EntriesVeiled
import Derived.Scope
import Derived.Deep.QuietTactic
import Derived.BigQuiet
import Derived.WalkSpells
import Derived.Shelf.Abstract
import Derived.Deep.RegionLaw
import Derived.Deep.RegionHeld3
import Derived.RangeFuncNested
import Derived.RangeFuncBound
import Derived.RangeFuncCalls
import Derived.RangeFuncLeaves
import Derived.RangeFuncBox
import Derived.Shelf.RegionOpen
import Derived.WalkKit
import Derived.OwnWalkIn
import Derived.TacticsInMore
import Derived.LoopNIn
import Derived.LoopIn
import Derived.Maps.AppendAt
import Derived.Deep.DrawnRows
import Derived.Test.YtbecgkejdacidaaGreatDoorProg
import Derived.Sort.AtCall
import Derived.Deep.CutRange
import Derived.Deep.Cut
import Derived.Shelf.Strings.OnBuilder
import Derived.Shelf.Strconv.Itoa3
import Derived.Test.YtbecgkejdacidaaGreatDoorQe4
set_option maxRecDepth 100000
set_option maxHeartbeats 12800000
open Go.Proofs.Tryz
namespace Go.Proofs.YtbecgkejdacidaaGreatDoor
section
open Go Go.RowKit Go.Shelf Go.IntWalk Go.Maps
attribute [local go_sem] Oper.semAt_some
def PinAt (w:World)(pb mb:Nat)(m:List (Int×Value)):Prop:=w.cell? ⟨pb,0,none⟩=some (.map (some mb)) /\ ∃o,w.heap[mb]?= some o /\ MapSt .u64 m o
theorem PinAt.below {w w':World}{pb mb:Nat}{m:List (Int×Value)}(h:PinAt w pb mb m)(hk:Below w.heap.size w w'):PinAt w' pb mb m:=by
 obtain⟨h1,o,h2,h3⟩:=h;exact⟨(hk.cell (p:=⟨pb,0,none⟩) (World.block_lt_of_cell? w _ h1)).trans h1,o,(hk.block mb (lt_of_block h2)).trans h2,h3⟩
def PinList (m:List (Int×Value))(ys:List Nat):Prop:=ys.Nodup /\ ys.Pairwise (· <= ·) /\ ys.length <= 4096 /\ ∀x:Nat,x∈ys↔(x:Int)∈m.map (·.1)
theorem kbox (mb:Nat)(w:World):Calls prog 216 #[.map (some mb)] w fun e w'=>e=.returned (.func (.func 246) #[] #[pt w.heap.size]) /\ w'=w.alloc (.cells #[.map (some mb)] 193):=by
 go_enter func216,ntmps216
 go_wp2
 go_ret;exact⟨rfl,rfl⟩
theorem pall (n:Nat)(hn:2 <= n)(w:World)(pb mb:Nat)(m:List (Int×Value))(hP:PinAt w pb mb m)(hk:∀p∈m,0 <= p.1 /\ p.1<18446744073709551616)(hl:m.length <= 4096)(Bs:Nat)(hBs:w.heap[Bs]?= some (.cells #[pt pb] 74))(n4:Nat):
  SeqG Fence.wide n prog 214 #[pt Bs] (fun x:Nat=>#[.int .u64 x]) (KpW n4 (ResD n4)) (fun pre _=>pre.length+1 <= 4096) (PinList m) (ResN n4) w:=fun l J W hW hJ hG hY h0=>by
 have hB0:W.heap[Bs]?= some (.cells #[pt pb] 74):=(hW.block Bs (lt_of_block hBs)).trans hBs;have q:W.cell? ⟨Bs,0,none⟩=some (pt pb):=(Has.one hB0).cell (List.mem_cons_self ..) 0;have hP0:=hP.below hW;have q1:=hP0.1;obtain⟨ob,hob,hms⟩:=hP0.2;have HY:=uh hY;have HJ:=uh hJ;have HG:=uh hG;have H0:=uh h0;have hFl:Fence.wide.fn 214:= trivial;have hf1:Fence.wide.fn 216:= trivial;have hf2:Fence.wide.fn 215:= trivial;have h1:1 <= n:=by omega
 have hro:Fence.wide.round=none:=rfl;have T0:=(Turn.refl (Has.nil W)).alloc (.cells #[.map (some mb)] 193);have hso:=sorted64 (W.alloc (.cells #[.map (some mb)] 193)) mb W.heap.size m ob ((T0.below.block mb (lt_of_block hob)).trans hob) hms hk hl (T0.cell1 0);have HT0:=uh T0;have Hso:=uh hso;clear hY hJ hG h0 hP hW hBs hB0 hP0 hob hms T0 hso;refine callsIn_of_wp func214 rfl hFl ?_ rfl;simp only[ntmps214,List.size_toArray,List.length_cons,List.length_nil,Nat.reduceAdd,Nat.reduceSub,Array.replicate_succ,Array.replicate_zero,List.push_toArray,List.append_toArray,List.nil_append,List.cons_append]
 gi_wp2_with (first
  | (gi_at_call 216;refine(callsIn_wide.2 (kbox mb W)).mono ?_;rintro e w' ⟨rfl,hw⟩;rw[hw];clear hw w')
  | (gi_at_call 215;refine(callsIn_wide.2 Hso.out).mono ?_;rintro e w3 ⟨ys,ao,cap,ly,rfl,hnd,hpw,hyl,hmem,hr,T3⟩;have HX:=uh (⟨⟨hnd,hpw,hyl,hmem⟩,hr,HT0.out.grow T3⟩:PinList m ys /\ Row 47 1 ao ys.length cap (n64s ys) ly /\ Turn [] W (ly++((W.heap.size,.cells #[.map (some mb)] 193)::[])) w3);clear hnd hpw hmem hr T3 HT0)
  | fail)
 obtain⟨hPL,hr,T3⟩:=HX.out;have hyl:=hPL.2.2.1;have hJ3:=HJ.out [] W w3 none H0.out (below_grownBy T3.below) (fun r e=>by cases e);have hG0:=HG.out [] W H0.out;have hHas:Has w3 ly:=T3.has.sub (List.sublist_append_left ..)
 have hNo:∀b∈keys ly,¬ResD n4 w3 b:=fun b hb hd=>by
  have h5:=(hG0 b (ResN.old hG0 T3.below hd)).2;rcases T3.new b (by rw[keys_append];exact List.mem_append.2 (.inl hb))with h6|h6
  ·cases h6
  ·omega
 have HR:=uh hr;have HPL:=uh hPL;have H3:=uh (⟨hJ3,hHas,hNo⟩:J [] w3 /\ Has w3 ly /\ ∀b∈keys ly,¬ResD n4 w3 b);have Hc:=uh hr.cells;clear hPL hr T3 hJ3 hG0 hHas hNo HX Hso HJ HG H0
 gi_wp2_with fail
 gi_loopw [14] (fun v14 wr=>∃i:Nat,i <= ys.length /\ v14=.int .i64 i /\ J (ys.take i) wr /\ Has wr ly /\ ∀b∈keys ly,¬ResD n4 wr b) (fun v14 _=>ys.length-(intOf v14).toNat)
 case atStart=>exact⟨0,Nat.zero_le _,by go_num,H3.out.1,H3.out.2.1,H3.out.2.2⟩
 case round=>
  clear H3;obtain⟨i,hi,rfl,hJw,hHw,hNw⟩:=hrel
  by_cases hlt:i<ys.length
  · have hlt':(i:Int)<(ys.length:Int):=by omega
    obtain⟨x,hx⟩:∃x,ys[i]?= some x:=⟨ys[i],List.getElem?_eq_getElem hlt⟩;have hS:=HR.out.src (R:=[]) (by rw[List.append_nil];exact hHw);obtain⟨b,off,rfl,hc⟩:=hS.form (by rw[n64s_length];omega);have q2:=hc i _ (n64s_at hx);have hsn:ys.take (i+1)=ys.take i++[x]:=(by rw[List.take_add_one,hx];rfl);obtain⟨fn,tmps,assign,body,hy,hR⟩:=HY.out (ys.take i) x wr (by rw[List.length_take];omega) hJw;have HRR:=uh hR;have HSn:=uh hsn;have HNw:=uh (⟨hHw,hNw⟩:Has wr ly /\ ∀b∈keys ly,¬ResD n4 wr b);clear hR hsn hJw hHw hNw hS hc hx
    gi_wp2_with fail
    refine HRR.out.mono ?_;rintro e w8 ⟨rfl,hJ8,hk8⟩
    have HN8:=uh (⟨by rw[HSn.out];exact hJ8,⟨HNw.out.1.nd,fun b o hm=>hk8.1.same b o (HNw.out.1.own b o hm) (Hc.out _ hm) (HNw.out.2 b (mem_keys.2 ⟨o,hm⟩))⟩,fun b hb hd=>by
     obtain⟨o,ho⟩:=mem_keys.1 hb;exact HNw.out.2 b hb (hk8.1.own b (lt_of_block (HNw.out.1.own b o ho)) hd)⟩:J (ys.take (i+1)) w8 /\ Has w8 ly /\ ∀b∈keys ly,¬ResD n4 w8 b)
    clear hJ8 hk8 HRR hy q2
    gi_wp2_with fail
    go_roundw
    case rel=>exact⟨i+1,by omega,by go_num,HN8.out⟩
    case measure=>simp[intOf];omega
  · obtain rfl:i=ys.length:=by omega
    have hnl:¬((ys.length:Nat):Int)<(ys.length:Int):=(by omega);rw[List.take_length]at hJw;have HJw:=uh hJw;clear hJw hHw hNw
    gi_wp2_with fail
    go_end0;exact⟨⟨_,rfl⟩,ys,HPL.out,HJw.out⟩
theorem plist (w:World)(pb mb:Nat)(m:List (Int×Value))(hP:PinAt w pb mb m)(hk:∀p∈m,0 <= p.1 /\ p.1<18446744073709551616)(hl:m.length <= 4096):
  Calls prog 84 #[pt pb] w fun e w'=>∃(ys:List Nat) (ao:Option Addr) (cap:Nat) (l:List Blk),PinList m ys /\ e=.returned (.slice ao ys.length cap) /\ Row 47 1 ao ys.length cap (n64s ys) l /\ Turn [] w l w':=by
 have hall:Calls prog 163 #[pt pb] w fun e w'=>e=.returned (.func (.func 214) #[] #[pt w.heap.size]) /\ w'=w.alloc (.cells #[pt pb] 74):=by
  go_enter func163,ntmps163
  go_wp2
  go_ret;exact⟨rfl,rfl⟩
 have HA:=uh hall;have T0:=(Turn.refl (Has.nil w)).alloc (.cells #[pt pb] 74);have hBs:(w.alloc (.cells #[pt pb] 74)).heap[w.heap.size]?= some (.cells #[pt pb] 74):=T0.has.own _ _ (List.mem_cons_self ..)
 have HC:=uh (col64 (w.alloc (.cells #[pt pb] 74)) 214 #[pt w.heap.size] 4096 (by omega) (fun pre _=>pre.length+1 <= 4096) (PinList m) (fun pre x h=>h)
  (enters_of func214 (by kernel_rfl) rfl)
  (fun W0 hB=>pall 5 (by omega) W0 pb mb m ((hP.below T0.below).below hB) hk hl w.heap.size ((hB.block _ (lt_of_block hBs)).trans hBs) _))
 have HT:=uh T0;clear hall T0 hBs hP hk hl
 go_enter func84,ntmps84
 go_wp2_with fail
 refine HA.out.mono ?_;rintro e w1 ⟨rfl,hw⟩;rw[hw];clear hw w1 HA
 go_wp2_with fail
 refine HC.out.mono ?_;rintro e w2 ⟨ys,ao,cap,l,hS,rfl,hr,T⟩;have HX:=uh (⟨hS,hr,(HT.out.grow T).sub (List.sublist_append_left ..)⟩:PinList m ys /\ Row 47 1 ao ys.length cap (n64s ys) l /\ Turn [] w l w2);clear hS hr T HC HT
 go_wp2_with fail
 go_ret;exact⟨ys,ao,cap,l,HX.out.1,rfl,HX.out.2⟩
end
section
open Go Go.RowKit Go.IntWalk
def u8s (l:List Nat):List Value:=l.map fun n=>.int .u8 (n:Nat)
theorem u8s_length (l:List Nat):(u8s l).length=l.length:=by simp[u8s]
theorem u8s_at {l:List Nat}{i v:Nat}(h:l[i]?= some v):(u8s l)[i]?= some (.int .u8 v):=by unfold u8s;rw[List.getElem?_map,h];rfl
theorem el_u8:Elem prog 95 5 1 1 (.int .u8 0):=Elem.of underlying95 (by kernel_rfl) rfl
def idx8 (l:List Nat)(x:Nat):Nat:=l.findIdx fun y=>x == y
theorem idx8_lt {l:List Nat}{x i v:Nat}(hi:i<idx8 l x)(hv:l[i]?= some v):(x == v)=false:=by
 obtain⟨hlt,rfl⟩:=List.getElem?_eq_some_iff.1 hv;have:=List.not_of_lt_findIdx hi
 simpa using this
theorem idx8_at {l:List Nat}{x v:Nat}(hv:l[idx8 l x]?= some v):(x == v)=true:=by
 obtain⟨hlt,rfl⟩:=List.getElem?_eq_some_iff.1 hv;exact List.findIdx_getElem (w:=hlt) (p:=fun y=>x == y) (xs:=l)
theorem idx8_le (l:List Nat)(x:Nat):idx8 l x <= l.length:=List.findIdx_le_length
theorem idx8_mem (l:List Nat)(x:Nat):idx8 l x<l.length↔x∈l:=by
 unfold idx8;rw[List.findIdx_lt_length]
 constructor
 · rintro⟨y,hy,he⟩
   rw[beq_iff_eq]at he;rw[he];exact hy
 · intro h
   exact⟨x,h,by simp⟩
theorem index8 (w:World)(l:List Nat)(ao:Option Addr)(cap:Nat)(hS:Src w ao l.length cap 1 (u8s l))(hl:l.length <= 65536)(x:Nat):
  Calls prog 158 #[.slice ao l.length cap,.int .u8 x] w fun e w'=>e=.returned (.int .i64 (if idx8 l x<l.length then(idx8 l x:Int)else -1)) /\ w'=w:=by
 have HF:=uh (fun(h:0<l.length)=>hS.form (by rw[u8s_length];exact h));have Hlt:=uh (fun i v (hi:i<idx8 l x) (hv:l[i]?= some v)=>idx8_lt hi hv);have Hat:=uh (fun v (hv:l[idx8 l x]?= some v)=>idx8_at hv);have hle:=idx8_le l x;generalize idx8 l x=f at*;clear hS
 go_enter func158,ntmps158
 go_wp2_with fail
 go_loopw [8] (fun v8 wr=>∃i:Nat,i <= f /\ v8=.int .i64 i /\ wr=w) (fun v8 _=>l.length-(intOf v8).toNat)
 case atStart=>exact⟨0,Nat.zero_le _,by go_num,rfl⟩
 case round=>
  obtain⟨i,hi,rfl,rfl⟩:=hrel
  by_cases hlt:i<l.length
  · have hlt':(i:Int)<(l.length:Int):=by omega
    obtain⟨v,hv⟩:∃v,l[i]?= some v:=⟨l[i],List.getElem?_eq_getElem hlt⟩;obtain⟨b,off,rfl,hc⟩:=HF.out (by omega);have q:=hc i _ (u8s_at hv)
    by_cases hif:i<f
    · have ho:=Hlt.out i v hif hv
      have ho2:((x:Int) == (v:Int))=false:=(by rw[beq_eq_false_iff_ne]at ho ⊢;omega);clear hv hc
      go_wp2_with fail
      go_roundw
      case rel=>exact⟨i+1,by omega,by go_num,trivial⟩
      case measure=>simp[intOf];omega
    · obtain rfl:i=f:=by omega
      have ho:=Hat.out v hv;have ho2:((x:Int) == (v:Int))=true:=(by rw[beq_iff_eq]at ho ⊢;omega);have HR:=uh (show(if i<l.length then(i:Int)else -1)=(i:Int)from if_pos hlt);clear hv hc
      go_wp2_with fail
      go_ret;exact⟨by first|rfl|rw[HR.out],rfl⟩
  · obtain rfl:i=l.length:=by omega
    obtain rfl:f=l.length:=(by omega);have HR:=uh (show(if l.length<l.length then(l.length:Int)else -1)= -1 from if_neg (by omega));have hnl:¬((l.length:Nat):Int)<(l.length:Int):=by omega
    go_wp2_with fail
    go_ret;exact⟨by first|rfl|rw[HR.out],rfl⟩
theorem contains8 (w:World)(l:List Nat)(ao:Option Addr)(cap:Nat)(hS:Src w ao l.length cap 1 (u8s l))(hl:l.length <= 65536)(x:Nat):
  Calls prog 76 #[.slice ao l.length cap,.int .u8 x] w fun e w'=>e=.returned (.bool (decide (x∈l))) /\ w'=w:=by
 have HI:=uh (index8 w l ao cap hS hl x);have hm:=idx8_mem l x
 by_cases h:x∈l
 · rw[if_pos (hm.2 h)]at HI
   have HD:=uh (decide_eq_true h);clear hm h hS;generalize idx8 l x=f at*
   go_enter func76,ntmps76
   go_wp2_with fail
   refine HI.out.mono ?_;rintro e w2 ⟨rfl,hw⟩;subst hw;have hf:(0:Int) <= (f:Int):=by omega
   go_wp2_with fail
   go_ret;exact⟨by rw[HD.out];rfl,rfl⟩
 · rw[if_neg (fun h'=>h (hm.1 h'))]at HI
   have HD:=uh (decide_eq_false h);clear hm h hS
   go_enter func76,ntmps76
   go_wp2_with fail
   refine HI.out.mono ?_;rintro e w2 ⟨rfl,hw⟩;subst hw
   go_wp2_with fail
   go_ret;exact⟨by rw[HD.out];rfl,rfl⟩
def padTo (l:List Nat)(k:Nat):List Nat:=l++List.replicate (k-l.length) 0
def runs (cs:List Ce):List Value:=cs.flatMap fun c=>[.int .i64 c.1,.int .i64 c.2.size]
def kpc (t o g s r n:Nat):Array Value:=#[.int .i64 t,.int .i64 o,.int .i64 g,.int .i64 s,.int .i64 r,.int .i64 n]
def zAt (W:List Nat)(g s:Nat):Bool:=W.getD (2*g+1+s) 0 == 0
def oRefs (L:List Ty)(c:Ce):List Nat:=(tyAt L c.2.typ).refs c.2.len
def oSlots (L:List Ty)(c:Ce):Nat:=(tyAt L c.2.typ).slots c.2.len
def oNils (L:List Ty)(W:List Nat)(c:Ce):Nat:=(oRefs L c).countP (zAt W c.1)
end
section
open Go Go.RowKit Go.Maps Go.IntWalk
theorem Turn.of_owns {L:List Blk}{w w':World}{e:TypeId}{size k:Nat}{v:Value}{xs:List Value}(hH:Has w L)(hB:Below w.heap.size w w')(ho:w'.ownsRow w.heap.size e size v k xs):
  ∃ao cap l',v=.slice ao k cap /\ Row e size ao k cap xs l' /\ Turn L w (l'++L) w':=by
 have T:=Turn.of_below hH hB;obtain⟨hl,⟨rfl,rfl⟩|⟨g,cap,cur,rfl,hg,hgb,hk,hc,hs,ht⟩⟩:=ho
 · have hx:xs=[]:=List.eq_nil_of_length_eq_zero (by simpa using hl)
   subst hx;exact⟨none,0,[],rfl,Row.nil _ _,T⟩
 · refine⟨some ⟨g,0,none⟩,cap,[(g,.cells cur e)],rfl,⟨hl,hk,hc,.inr ⟨g,cur,rfl,rfl,by omega,ht⟩⟩,T.os,T.tape,T.output,T.size,⟨?_,fun b o hm=>?_⟩,fun b hb=>?_,T.same⟩
   · rw[List.singleton_append,keys_cons,List.nodup_cons]
     refine⟨fun hm=>?_,hH.nd⟩;have:=hH.lt hm;omega
   · rw[List.singleton_append]at hm
     rcases List.mem_cons.1 hm with h|h
     ·cases h;exact hgb
     ·exact T.has.own b o h
   · rw[List.singleton_append,keys_cons]at hb
     rcases List.mem_cons.1 hb with rfl|h
     ·exact .inr hg
     ·exact .inl h
def mpk (ks:List Nat)(bl:Nat -> Nat):List (Int×Value):=ks.map fun(k:Nat)=>((k:Int),pt (bl k))
def kpv (k:Nat)(K:Kp):List Value:=[.int .i64 k,.int .i64 K.objects,.int .i64 K.granules,.int .i64 K.slots,.int .i64 K.refs,.int .i64 K.nils]
end
section
open Go Go.RowKit Go.IntWalk
section
variable {P:Program} {w:World} {ops:Array Oper} {rest:List Oper} {o:Oper} {a:Act} {Q:Exit -> Act -> World -> Prop} {q:IntKind} {mp:List (Int×Value)} {b:Nat} {ob:Obj}
theorem wpList_mupdate_st (hw:Region.wanted o (yielded ops a.tmps)=true)(m x v:Operand)(t:TypeId)(hop:o.op=Op.mapUpdate t m x v)(kt e:TypeId)(ht:P.underlying t=some (.map kt e))(hk:P.underlying kt=some (.int q))
  (hm:a.eval m=.map (some b))(hb:w.heap[b]?= some ob)(hmo:MapSt q mp ob)(k:Int)(hx:a.eval x=.int q k)(u:Value)(hv:a.eval v=u)
  (hK:∀o',MapSt q (mput mp k u) o' -> wpList P ops Q rest (a.put o.dst undef) { w with heap:=w.heap.setIfInBounds b o' }):wpList P ops Q (o::rest) a w:=by
 refine wpList_wanted hw fun K' hK'=>?_;obtain⟨o',ho',hrun⟩:=run_mupdate_st hb hmo ht hk k u;unfold Oper.wp;simp only[execOp,hop,hm,hx,hv,hrun,Sem.run_bind,Result.andThen_ok,Sem.run_pure];exact hK' _ _ (hK o' ho')
end
def blk1 (bl:Nat -> Nat)(t nb k:Nat):Nat:=if k=t then nb else bl k
def kbs (L:List Ty)(W:List Nat)(pre:List Ce)(bl:Nat -> Nat)(ks:List Nat):List Blk:=ks.map fun k=>(bl k,.cells (kpv k (keptOf L W (ofType pre k))).toArray 37)
def looseTo (K:Nat -> Kp)(ss:List Nat):Nat:=(ss.map fun k=>(K k).refs-(K k).nils).sum
end
section
open Go Go.RowKit Go.Shelf Go.IntWalk Go.Maps
theorem pnew (w:World):Calls prog 93 #[] w fun e w'=>∃pb mb o,e=.returned (pt pb) /\ MapSt .u64 [] o /\ Turn [] w [(pb,.cells #[.map (some mb)] 195),(mb,o)] w':=by
 have hmm:= @run_makeMap prog;have T0:=((Turn.refl (Has.nil w)).alloc (.map #[] 0)).alloc (.cells #[.map (some w.heap.size)] 195);have HT:=uh T0;clear T0
 go_enter func93,ntmps93
 go_wp2_with fail
 go_ret;have h:=HT.out;rw[World.size_alloc]at h;exact⟨_,_,_,rfl,MapSt.new .u64,h⟩
theorem pput {l L:List Blk}{w0:World}(w:World)(mb:Nat)(o:Obj)(m:List (Int×Value))(hm:MapSt .u64 m o)(T:Turn l w0 ((mb,o)::L) w)(k:Int)(c:Nat)(hc:1 <= c):
  Calls prog 100 #[.map (some mb),.int .u64 k,.int .i64 c] w fun e w'=>e=.returned (.tuple #[]) /\ ∃o',MapSt .u64 (mput m k (.int .i64 c)) o' /\ Turn l w0 ((mb,o')::L) w':=by
 have q9:=T.has.own mb o (List.mem_cons_self ..);have HT:=uh T;have Hm:=uh hm;have hcz:¬(c:Int)=0:=by omega
 clear T hm
 go_enter func100,ntmps100
 go_wp2_with (first
  | (show wpList _ _ _ (⟨_,Op.mapUpdate 193 _ _ _,_,_,_,_⟩::_) _ _;refine wpList_mupdate_st (q:=.u64) (by rfl) _ _ _ 193 rfl 47 3 underlying193 underlying47 rfl q9 Hm.out k rfl (.int .i64 c) rfl ?_;intro o' ho';have HX:=uh (⟨ho',HT.out.setBlk o'⟩:MapSt .u64 (mput m k (.int .i64 c)) o' /\ Turn l w0 ((mb,o')::L) { w with heap:=w.heap.setIfInBounds mb o' });clear ho' q9 HT Hm;generalize({ w with heap:=w.heap.setIfInBounds mb o' }:World)=w2 at*)
  | fail)
 go_end0;exact⟨rfl,o',HX.out⟩
def PinVals (m:List (Int×Value)):Prop:=∀p∈m,∃c:Nat,p.2=.int .i64 c /\ 1 <= c /\ c <= 200
theorem mget_mem {m:List (Int×Value)}{k:Int}{v:Value}(h:mget m k=some v):(k,v)∈m:=by
 induction m with
 | nil=>cases h
 | cons p m ih=>
  rw[mget_cons]at h
  by_cases hk:k=p.1
  · rw[if_pos hk]at h
    cases h
    rw[hk];exact List.mem_cons_self ..
  · rw[if_neg hk]at h
    exact List.mem_cons_of_mem _ (ih h)
theorem run_len {P:Program}{w:World}{b:Nat}{es:Array MapEntry}{clock:Nat}{t k e:TypeId}(hb:w.heap[b]?= some (.map es clock))(ht:P.underlying t=some (.map k e))(ty:TypeId):(Builtin.len_ #[t] ty #[.map (some b)]).run P w=.ok (.int .i64 es.size) w:=by
 simp[Builtin.len_,run_underlying ht,MapKept.run_getObj_map hb,goInt,Result.andThen]
theorem run_maplen {w:World}{b:Nat}{q:IntKind}{m:List (Int×Value)}{o:Obj}(hb:w.heap[b]?= some o)(hm:MapSt q m o):∃es clock,w.heap[b]?= some (.map es clock) /\ es.size=m.length:=by
 obtain⟨es,clock,rfl,h,-⟩:=hm;have:=congrArg List.length h;exact⟨es,clock,hb,by simpa using this⟩
theorem ppin {l L:List Blk}{w0:World}(w:World)(pb mb:Nat)(o:Obj)(m:List (Int×Value))(hm:MapSt .u64 m o)(hv:PinVals m)(hl:m.length <= 200)(T:Turn l w0 ((mb,o)::(pb,.cells #[.map (some mb)] 195)::L) w)(k:Nat)(hk:k≠0):
  Calls prog 33 #[pt pb,.int .u64 k] w fun e w'=>e=.returned (.int .i64 0) /\ ∃c o',1 <= c /\ (mget m k=none -> c=1) /\ (∀d:Nat,mget m k=some (.int .i64 d) -> c=d+1) /\ MapSt .u64 (mput m k (.int .i64 (c:Nat))) o' /\ Turn l w0 ((mb,o')::(pb,.cells #[.map (some mb)] 195)::L) w':=by
 have q9:=T.has.own mb o (List.mem_cons_self ..);have q0:w.cell? ⟨pb,0,none⟩=some (.map (some mb)):=T.has.cell (b:=pb) (c:=#[.map (some mb)]) (e:=195) (f:=(0,0)) (by simp) 0;obtain⟨es,clock,hes,hsz⟩:=run_maplen q9 hm;have hz:∀w,(zeroValue 3).run prog w=.ok (.int .i64 0) w:=fun _=>by kernel_rfl
 have Hput:=uh (fun c hc=>pput w mb o m hm T k c hc);have Hm:=uh hm;have hkz:¬(k:Int)=0:=by omega
 cases hg:mget m (k:Int)with
 | some v=>
  obtain⟨c,rfl,hc1,hc2⟩:=hv _ (mget_mem hg);have HG:=uh hg;have hcz:¬(c:Int)=0:=by omega
  have hc256:¬(256:Int) <= (c:Int):=by omega
  clear hm hv hg T hes hsz
  go_enter func33,ntmps33
  go_wp2_with (first
   | (show wpList _ _ _ (⟨_,Op.lookup 193 _ _ _,_,_,_,_⟩::_) _ _;refine wpList_mlookup_g (q:=.u64) (by rfl) _ _ 193 false rfl 47 3 underlying193 underlying47 (.int .i64 0) (hz _) rfl q9 Hm.out.obj (k:Int) rfl ?_;rw[HG.out];simp only[Option.getD_some])
   | fail)
  refine(Hput.out (c+1) (by omega)).mono ?_;rintro e w2 ⟨rfl,o',ho',T2⟩;have HX:=uh (And.intro ho' T2);clear ho' T2 Hput
  go_wp2_with fail
  go_ret;exact⟨rfl,c+1,o',by omega,fun h=>(by cases h),fun d h=>(by cases h;rfl),HX.out.1,HX.out.2⟩
 | none=>
  have HG:=uh hg;have hle:∀ty,(Builtin.len_ #[193] ty #[.map (some mb)]).run prog w=.ok (.int .i64 m.length) w:=fun ty=>by rw[←hsz];exact run_len hes underlying193 ty
  have hl4:¬(4096:Int) <= (m.length:Int):=by omega
  clear hm hv hg T hes hsz
  go_enter func33,ntmps33
  go_wp2_with (first
   | (show wpList _ _ _ (⟨_,Op.lookup 193 _ _ _,_,_,_,_⟩::_) _ _;refine wpList_mlookup_g (q:=.u64) (by rfl) _ _ 193 false rfl 47 3 underlying193 underlying47 (.int .i64 0) (hz _) rfl q9 Hm.out.obj (k:Int) rfl ?_;rw[HG.out];simp only[Option.getD_none])
   | fail)
  refine(Hput.out 1 (by omega)).mono ?_;rintro e w2 ⟨rfl,o',ho',T2⟩;have HX:=uh (And.intro ho' T2);clear ho' T2 Hput
  go_wp2_with fail
  go_ret;exact⟨rfl,1,o',by omega,fun _=>rfl,fun d h=>(by cases h),HX.out.1,HX.out.2⟩
end
section
open Go Go.RowKit
theorem PinList.one {m:List (Int×Value)}{a b:List Nat}(h1:PinList m a)(h2:PinList m b):a=b:=
 List.Perm.eq_of_pairwise (le:=fun x y:Nat=>x <= y) (fun _ _ _ _ h k=>Nat.le_antisymm h k) h1.2.1 h2.2.1 ((List.perm_ext_iff_of_nodup h1.1 h2.1).2 fun x=>(h1.2.2.2 x).trans (h2.2.2.2 x).symm)
theorem PinList.some {m:List (Int×Value)}(hnd:(m.map (·.1)).Nodup)(h0:∀p∈m,0 <= p.1)(hl:m.length <= 4096):∃ys,PinList m ys:=by
 have hp:=List.mergeSort_perm (m.map fun p=>p.1.toNat) (fun a b=>decide (a <= b))
 have hmem:∀x:Nat,x∈(m.map fun p=>p.1.toNat)↔(x:Int)∈m.map (·.1):=fun x=>by
  constructor
  · intro h
    obtain⟨p,hp,rfl⟩:=List.mem_map.1 h;exact List.mem_map.2 ⟨p,hp,by rw[Int.toNat_of_nonneg (h0 p hp)]⟩
  · intro h
    obtain⟨p,hp,he⟩:=List.mem_map.1 h;exact List.mem_map.2 ⟨p,hp,by rw[he];exact Int.toNat_natCast x⟩
 refine⟨(m.map fun p=>p.1.toNat).mergeSort (fun a b=>decide (a <= b)),hp.nodup_iff.2 ?_,?_,?_,fun x=>hp.mem_iff.trans (hmem x)⟩
 · have h1:(m.map (·.1)).map Int.toNat=m.map fun p=>p.1.toNat:=by rw[List.map_map];rfl
   rw[←h1];rw[List.Nodup,List.pairwise_map];refine List.Pairwise.imp_of_mem (fun {a b} ha hb hne he=>hne ?_) hnd;obtain⟨p,hpm,rfl⟩:=List.mem_map.1 ha;obtain⟨q,hqm,rfl⟩:=List.mem_map.1 hb;have:=h0 p hpm;have:=h0 q hqm;omega
 · have h2:=List.pairwise_mergeSort (le:=fun a b:Nat=>decide (a <= b)) (fun a b c h k=>by simp only[decide_eq_true_eq]at*;omega) (fun a b=>by simp only[Bool.or_eq_true,decide_eq_true_eq];omega) (m.map fun p=>p.1.toNat)
   exact h2.imp fun h=>by simpa using h
 · rw[hp.length_eq,List.length_map]
   exact hl
theorem tells_plist (w:World)(pb mb:Nat)(m:List (Int×Value))(ys:List Nat)(hP:PinAt w pb mb m)(hk:∀p∈m,0 <= p.1 /\ p.1<18446744073709551616)(hl:m.length <= 4096)(hy:PinList m ys):Tells 84 47 (some ⟨pb,0,none⟩) w ys:=fun w' hB=>by
 refine(plist w' pb mb m (hP.below hB) hk hl).mono ?_;rintro e w2 ⟨zs,ao,cap,l,hz,rfl,hr,T⟩;obtain rfl:=hz.one hy;exact⟨ao,cap,l,rfl,hr,T⟩
end
end Go.Proofs.YtbecgkejdacidaaGreatDoor
namespace Go.Proofs.YtbecgkejdacidaaGreatDoor
open Go Go.RowKit
theorem flatMap_get {α β:Type}{f:α -> List β}{sz:Nat}(hf:∀a,(f a).length=sz)(S:List α)(i j:Nat)(hj:j<sz):(S.flatMap f)[i*sz+j]?= S[i]?.bind fun a=>(f a)[j]? :=by
 induction S generalizing i with
 | nil=>simp
 | cons a S ih=>
  rw[List.flatMap_cons]
  cases i with
  | zero=>
   rw[Nat.zero_mul,Nat.zero_add,List.getElem?_append_left (by rw[hf];exact hj)]
   rfl
  | succ i=>
   have e:(i+1)*sz+j=sz+(i*sz+j):=(by rw[Nat.add_mul];omega);rw[e,List.getElem?_append_right (by rw[hf];omega),hf,Nat.add_sub_cancel_left,ih]
   rfl
theorem flatMap_set {α β:Type}{f:α -> List β}{sz:Nat}(hf:∀a,(f a).length=sz)(S:List α)(i j:Nat)(hj:j<sz)(a a':α)(v:β)(h:S[i]?= some a)(ha:f a'=(f a).set j v):
  (S.flatMap f).set (i*sz+j) v=(S.set i a').flatMap f:=by
 induction S generalizing i with
 | nil=>simp at h
 | cons b S ih=>
  rw[List.flatMap_cons]
  cases i with
  | zero=>
   have hb:b=a:=(by simpa using h);subst hb;rw[Nat.zero_mul,Nat.zero_add,List.set_append_left _ _ (by rw[hf];exact hj),List.set_cons_zero,List.flatMap_cons,ha]
  | succ i=>
   have e:(i+1)*sz+j=sz+(i*sz+j):=(by rw[Nat.add_mul];omega);rw[e,List.set_append_right _ _ (by rw[hf];omega),hf,Nat.add_sub_cancel_left,ih i (by simpa using h),List.set_cons_succ,List.flatMap_cons]
theorem flatMap_length {α β:Type}{f:α -> List β}{sz:Nat}(hf:∀a,(f a).length=sz)(S:List α):(S.flatMap f).length=S.length*sz:=by
 induction S with
 | nil=>simp
 | cons a S ih=>rw[List.flatMap_cons,List.length_append,hf,ih,List.length_cons,Nat.add_mul];omega
structure Slot where
 st:Nat
 addr:Int
 given:Nat
def Slot.vals (s:Slot):List Value:=[.int .i64 s.st,.int .u64 s.addr,.int .u64 s.given]
theorem Slot.vals_length (s:Slot):s.vals.length=3:=rfl
structure WkOk (S:List Slot):Prop where
 len:S.length <= 4096
 small:∀s∈S,s.given<4294967295
 states:∀s∈S,s.st <= 2
def WeaksIs (b:Nat)(S:List Slot)(l:List Blk):Prop:=
 WkOk S /\ ∃g cur,l=[(b,.cells #[.slice (some ⟨g,0,none⟩) S.length S.length] 179),(g,.cells cur 190)] /\ cur.toList=S.flatMap Slot.vals
def wh (i given:Nat):Int:=((given*4294967296+i:Nat):Int)
theorem or_handle (g i:Nat)(hi:i<4294967296):(g*4294967296) ||| i=g*4294967296+i:=by
 have h:=Nat.two_pow_add_eq_or_of_lt (i:=32) (b:=i) (by simpa using hi) g;rw[show(2^32:Nat)=4294967296 from rfl,Nat.mul_comm]at h;exact h.symm
theorem or_wh (g i:Nat)(hg:g<4294967295)(hi:i<4294967296):bits .or .u64 ((g:Int)*4294967296) (i:Int)=wh i g:=by
 have h:=u64_or_nat (g*4294967296) i (by omega) (by omega);rw[Int.natCast_mul]at h;rw[show((4294967296:Nat):Int)=4294967296 from rfl]at h;rw[h,or_handle g i hi]
 rfl
section
variable {b:Nat} {S:List Slot} {l R:List Blk}
end
end Go.Proofs.YtbecgkejdacidaaGreatDoor
namespace Go.Proofs.YtbecgkejdacidaaGreatDoor
open Go Go.RowKit
theorem made_rows {α:Type}{f:α -> List Value}{sz:Nat}(hf:∀a,(f a).length=sz)(hsz:0<sz)(a:α)(n:Nat):(madeCells (f a).toArray (n*sz)).toList=(List.replicate n a).flatMap f:=by
 refine List.ext_getElem? fun m=>?_
 by_cases hm:m<n*sz
 · have h1:m/sz<n:=(Nat.div_lt_iff_lt_mul hsz).2 hm
   have h2:m%sz<sz:=Nat.mod_lt _ hsz;have h3:m=m/sz*sz+m%sz:=(Nat.div_add_mod' m sz).symm
   have hr:((List.replicate n a).flatMap f)[m]?= (f a)[m%sz]? :=by
    conv=>lhs;rw[h3]
    rw[flatMap_get hf _ _ _ h2];simp[h1]
   rw[hr];simp[madeCells,hm,hf];rw[List.getElem?_eq_getElem (by rw[hf];exact h2)]
   rfl
 ·rw[List.getElem?_eq_none (by simp[madeCells];omega),List.getElem?_eq_none (by rw[flatMap_length hf];simp;omega)]
section
variable {b:Nat} {S:List Slot} {l R:List Blk}
theorem WkOk.set (h:WkOk S)(i:Nat)(s:Slot)(h1:s.given<4294967295)(h2:s.st <= 2):WkOk (S.set i s):=
 ⟨by simpa using h.len,fun x hx=>by rcases List.mem_or_eq_of_mem_set hx with hm|rfl;exact h.small x hm;exact h1,fun x hx=>by rcases List.mem_or_eq_of_mem_set hx with hm|rfl;exact h.states x hm;exact h2⟩
theorem WeaksIs.mk' {g:Nat}{cur:Array Value}{n:Nat}(hok:WkOk S)(hn:n=S.length)(hc:cur.toList=S.flatMap Slot.vals):
  WeaksIs b S [(b,.cells #[.slice (some ⟨g,0,none⟩) n n] 179),(g,.cells cur 190)]:=by
 subst hn;exact⟨hok,g,cur,rfl,hc⟩
end
end Go.Proofs.YtbecgkejdacidaaGreatDoor
namespace Go.Proofs.YtbecgkejdacidaaGreatDoor
open Go Go.RowKit
structure HSlot where
 given:Nat
 addr:Int
def HSlot.vals (s:HSlot):List Value:=[.int .u64 s.given,.int .u64 s.addr]
theorem HSlot.vals_length (s:HSlot):s.vals.length=2:=rfl
def zeroHSlot:HSlot:=⟨0,0⟩
structure HdOk (S:List HSlot):Prop where
 len:S.length <= 4096
 small:∀s∈S,s.given<4294967295
def HandsIs (b:Nat)(S:List HSlot)(l:List Blk):Prop:=
 HdOk S /\ ∃g cur,l=[(b,.cells #[.slice (some ⟨g,0,none⟩) S.length S.length] 182),(g,.cells cur 186)] /\ cur.toList=S.flatMap HSlot.vals
structure HCells (w:World)(b g:Nat)(S:List HSlot):Prop where
 c0:w.cell? ⟨b,0,none⟩=some (.slice (some ⟨g,0,none⟩) S.length S.length)
 at_:∀i s,S[i]?= some s -> w.cell? ⟨g,i*2,none⟩=some (.int .u64 s.given) /\ w.cell? ⟨g,i*2+1,none⟩=some (.int .u64 s.addr)
 free:∀i,w.frozen? ⟨g,i,none⟩=false
 ne:g≠b
theorem hcells {w:World}{b g:Nat}{S:List HSlot}{cur:Array Value}{R:List Blk}(hc:cur.toList=S.flatMap HSlot.vals)
  (h:Has w ([(b,.cells #[.slice (some ⟨g,0,none⟩) S.length S.length] 182),(g,.cells cur 186)]++R)):HCells w b g S:=by
 have hg:(g,Obj.cells cur 186 (0,0))∈[(b,Obj.cells #[.slice (some ⟨g,0,none⟩) S.length S.length] 182 (0,0)),(g,Obj.cells cur 186 (0,0))]++R:=by simp
 have hat:∀i s j,S[i]?= some s -> j<2 -> w.cell? ⟨g,i*2+j,none⟩=s.vals[j]? :=by
  intro i s j hi hj;rw[h.cell hg,←Array.getElem?_toList,hc,flatMap_get HSlot.vals_length S i j hj,hi]
  rfl
 have hb:(b,Obj.cells #[.slice (some ⟨g,0,none⟩) S.length S.length] 182 (0,0))∈[(b,Obj.cells #[.slice (some ⟨g,0,none⟩) S.length S.length] 182 (0,0)),(g,Obj.cells cur 186 (0,0))]++R:=by simp
 refine⟨h.cell hb 0,fun i s hi=>⟨hat i s 0 hi (by omega),hat i s 1 hi (by omega)⟩,fun i=>h.free hg i,?_⟩;have:=h.nd;intro e;subst e;simp at this
theorem hset_toList {cur:Array Value}{S:List HSlot}(hc:cur.toList=S.flatMap HSlot.vals)(i j:Nat)(hj:j<2)(s s':HSlot)(v:Value)(hi:S[i]?= some s)(hv:s'.vals=s.vals.set j v):
  (cur.setIfInBounds (i*2+j) v).toList=(S.set i s').flatMap HSlot.vals:=by
 rw[Array.toList_setIfInBounds,hc,flatMap_set HSlot.vals_length S i j hj s s' v hi hv]
section
variable {b:Nat} {S:List HSlot} {l R:List Blk}
theorem handle_any (w:World)(hS:HandsIs b S l)(hH:Has w (l++R))(i:Nat)(s:HSlot)(hi:S[i]?= some s):
  Calls prog 96 #[pt b,.int .i64 i] w fun e w'=>e=.returned (.int .u64 (wh i s.given)) /\ w=w':=by
 obtain⟨hok,g,cur,rfl,hc⟩:=hS;have W:=hcells hc hH;have hlt:i<S.length:=(List.getElem?_eq_some_iff.1 hi).1;have hlt':(i:Int)<(S.length:Int):=by omega
 obtain⟨c0,at_,-,-⟩:=W;obtain⟨a0,a1⟩:=at_ i s hi;have hsm:=hok.small s (List.mem_of_getElem? hi);have hl:=hok.len;have hor:=or_wh s.given i hsm (by omega);clear at_ hi
 go_enter func96,ntmps96
 go_wp2
 go_ret;exact⟨rfl,rfl⟩
theorem el_hslot:Elem prog 180 186 2 16 (.agg #[.int .u64 0,.int .u64 0]):=Elem.of underlying180 (by kernel_rfl) rfl
theorem hNew_any (w:World)(m:Nat)(hm:m <= 4096)(hH:Has w R):
  Calls prog 74 #[.int .i64 m] w fun e w'=>∃b l',e=.returned (.tuple #[pt b,.int .i64 0]) /\ HandsIs b (List.replicate m zeroHSlot) l' /\ Turn R w (l'++R) w':=by
 obtain⟨i,hi,hz,hsz,hby⟩:=el_hslot.info;have hmk:=fun W:World=>run_make_rows (P:=prog) 180 186 i _ el_hslot.ht hi hz .i64 .i64 m (by rw[hby];omega) (by omega) W;rw[hsz]at hmk;have hcells:(madeCells (Value.agg #[.int .u64 0,.int .u64 0]).cells (m*2)).toList=(List.replicate m zeroHSlot).flatMap HSlot.vals:=made_rows HSlot.vals_length (by omega) zeroHSlot m;generalize madeCells (Value.agg #[.int .u64 0,.int .u64 0]).cells (m*2)=cur at*;have T:=((Turn.refl hH).alloc (.cells cur 186)).alloc (.cells #[.slice (some ⟨w.heap.size,0,none⟩) m m] 182);have Hcells:=uh hcells;clear hi hz hsz hby hcells
 go_enter func74,ntmps74
 go_wp2
 go_ret2;rw[World.size_alloc]at T;have hok:HdOk (List.replicate m zeroHSlot):=⟨by simpa using hm,fun s hs=>by rw[List.eq_of_mem_replicate hs];exact(by decide)⟩;exact⟨w.heap.size+1,[(w.heap.size+1,.cells #[.slice (some ⟨w.heap.size,0,none⟩) m m] 182),(w.heap.size,.cells cur 186)],rfl,⟨hok,w.heap.size,cur,by simp,Hcells.out⟩,T⟩
theorem HandsIs.mk' {g:Nat}{cur:Array Value}{n:Nat}(hok:HdOk S)(hn:n=S.length)(hc:cur.toList=S.flatMap HSlot.vals):
  HandsIs b S [(b,.cells #[.slice (some ⟨g,0,none⟩) n n] 182),(g,.cells cur 186)]:=by
 subst hn;exact⟨hok,g,cur,rfl,hc⟩
theorem HdOk.set (h:HdOk S)(i:Nat)(s:HSlot)(h1:s.given<4294967295):HdOk (S.set i s):=
 ⟨by simpa using h.len,fun x hx=>by rcases List.mem_or_eq_of_mem_set hx with hm|rfl;exact h.small x hm;exact h1⟩
end
end Go.Proofs.YtbecgkejdacidaaGreatDoor
namespace Go.Proofs.YtbecgkejdacidaaGreatDoor
open Go Go.RowKit
section
variable {b:Nat} {S:List HSlot} {l R:List Blk}
end
end Go.Proofs.YtbecgkejdacidaaGreatDoor
namespace Go.Proofs.YtbecgkejdacidaaGreatDoor
open Go Go.RowKit
section
variable {b:Nat} {S:List HSlot} {l R:List Blk}
end
end Go.Proofs.YtbecgkejdacidaaGreatDoor
namespace Go.Proofs.YtbecgkejdacidaaGreatDoor
open Go Go.RowKit
section
variable {b:Nat} {S:List HSlot} {l R:List Blk}
end
end Go.Proofs.YtbecgkejdacidaaGreatDoor
namespace Go.Proofs.YtbecgkejdacidaaGreatDoor
open Go Go.RowKit
section
variable {b:Nat} {S:List HSlot} {l R:List Blk}
def HAddPost (b:Nat)(S:List HSlot)(a:Int)(l R:List Blk)(w:World)(e:Ending)(w':World):Prop:=
 (∃i s l',S[i]?= some s /\ s.addr=0 /\ (∀(j:Nat) (t:HSlot),j<i -> S[j]?= some t -> t.addr≠0) /\ e=.returned (.tuple #[.int .u64 (wh i (s.given+1)),.int .i64 0]) /\ HandsIs b (S.set i ⟨s.given+1,a⟩) l' /\ Turn (l++R) w (l'++R) w')∨
 ((∀(j:Nat) (t:HSlot),S[j]?= some t -> t.addr≠0) /\ e=.returned (.tuple #[.int .u64 0,.int .i64 4]) /\ Turn (l++R) w (l++R) w')
theorem hset2_toList {cur:Array Value}(hc:cur.toList=S.flatMap HSlot.vals)(i:Nat)(s:HSlot)(hi:S[i]?= some s)(a:Int)(g:Nat):
  ((cur.setIfInBounds (i*2+1) (.int .u64 a)).setIfInBounds (i*2) (.int .u64 g)).toList=(S.set i ⟨g,a⟩).flatMap HSlot.vals:=by
 have hlt:i<S.length:=(List.getElem?_eq_some_iff.1 hi).1;have h1:=hset_toList hc i 1 (by omega) s { s with addr:=a } (.int .u64 a) hi rfl;have h2:=hset_toList (S:=S.set i { s with addr:=a }) h1 i 0 (by omega) { s with addr:=a } ⟨g,a⟩ (.int .u64 g) (List.getElem?_set_self hlt) rfl;rw[Nat.add_zero,List.set_set]at h2;exact h2
theorem hAdd_any (w:World)(hS:HandsIs b S l)(hH:Has w (l++R))(a:Int)(ha:a≠0)(hsm:∀s∈S,s.given<4294967294):
  Calls prog 31 #[pt b,.int .u64 a] w (HAddPost b S a l R w):=by
 obtain⟨hok,g,cur,rfl,hc⟩:=hS;have hl:=hok.len;have W:=hcells hc hH;have HW:=uh W;have c0:=W.c0;have hb0:(a == 0)=false:=by simpa using ha
 have T:=Turn.refl hH;clear W
 go_enter func31,ntmps31
 go_wp2_with fail
 go_loop [18] (fun q=>∃k:Nat,k <= S.length /\ q=.int .i64 k /\ ∀(j:Nat) (t:HSlot),j<k -> S[j]?= some t -> t.addr≠0) (fun q=>S.length-(intOf q).toNat)
 case atStart=>exact⟨0,Nat.zero_le _,rfl,fun j t hj=>absurd hj (Nat.not_lt_zero _)⟩
 case round=>
  obtain⟨k,hk,rfl,hall⟩:=hrel;have Hall:=uh hall;clear hall
  by_cases hlt:k<S.length
  · have hlt':(k:Int)<(S.length:Int):=by omega
    obtain⟨s,hs⟩:∃s,S[k]?= some s:=⟨S[k]'hlt,List.getElem?_eq_getElem _⟩;obtain⟨a0,a1⟩:=HW.out.at_ k s hs;have f0:=HW.out.free (k*2);have f1:=HW.out.free (k*2+1);have hne:=HW.out.ne;have hg:=hsm s (List.mem_of_getElem? hs);have Hs:=uh hs;clear hs
    by_cases hz:s.addr=0
    · rw[hz]at a1
      have hb1:((0:Int) != 0)=false:=rfl;have hok':=hok.set k ⟨s.given+1,a⟩ (show s.given+1<_ by omega);have hc':=hset2_toList hc k s Hs.out a (s.given+1);have T2:=(((T.perm (l2:=(g,.cells cur 186)::((b,.cells #[.slice (some ⟨g,0,none⟩) S.length S.length] 182)::R)) po).setCell (k*2+1) (.int .u64 a)).setCell (k*2) (.int .u64 ((s.given+1:Nat):Int))).perm (l2:=[(b,.cells #[.slice (some ⟨g,0,none⟩) S.length S.length] 182),(g,.cells ((cur.setIfInBounds (k*2+1) (.int .u64 a)).setIfInBounds (k*2) (.int .u64 ((s.given+1:Nat):Int))) 186)]++R) po;have hS2:HandsIs b (S.set k ⟨s.given+1,a⟩) [(b,.cells #[.slice (some ⟨g,0,none⟩) S.length S.length] 182),(g,.cells ((cur.setIfInBounds (k*2+1) (.int .u64 a)).setIfInBounds (k*2) (.int .u64 ((s.given+1:Nat):Int))) 186)]:=HandsIs.mk' hok' (by simp) hc';have hh:=handle_any _ hS2 T2.has k ⟨s.given+1,a⟩ (List.getElem?_set_self hlt);have Hh:=uh hh;have HT2:=uh T2;have hcast:((s.given+1:Nat):Int)=(s.given:Int)+1:=(by omega);rw[hcast]at Hh;clear hh T2 hc' hok' hcast
      go_wp2_with (go_at_call 96;refine Hh.out.mono ?_;rintro e w' ⟨rfl,rfl⟩)
      go_ret2;exact .inl ⟨k,s,_,Hs.out,hz,Hall.out,rfl,hS2,HT2.out⟩
    · have hb1:(s.addr != 0)=true:=by simpa using hz
      go_wp2
      go_round
      case rel=>exact⟨k+1,by omega,by go_num,fun j t hj ht=>by
       by_cases hjk:j=k
       ·subst hjk;rw[Hs.out]at ht;cases ht;exact hz
       ·exact Hall.out j t (by omega) ht⟩
      case measure=>simp[intOf];omega
  · have hge:¬(k:Int)<(S.length:Int):=by omega
    go_wp2
    go_ret2;exact .inr ⟨fun j t ht=>Hall.out j t (by have:=(List.getElem?_eq_some_iff.1 ht).1;omega) ht,rfl,T⟩
end
end Go.Proofs.YtbecgkejdacidaaGreatDoor
namespace Go.Proofs.YtbecgkejdacidaaGreatDoor.handNil
open Go Go.RowKit
end Go.Proofs.YtbecgkejdacidaaGreatDoor.handNil
namespace Go.Proofs.YtbecgkejdacidaaGreatDoor
open Go Go.RowKit Go.Shelf
attribute [local go_sem] Oper.semAt_some
def livingOf (S:List HSlot)(k:Nat):List Nat:=(List.range k).filter fun i=>(S[i]?.map fun s=>s.addr != 0).getD false
theorem livingOf_yes {S:List HSlot}{k:Nat}{s:HSlot}(h:S[k]?= some s)(ha:s.addr≠0):livingOf S (k+1)=livingOf S k++[k]:=by
 simp[livingOf,List.range_succ,List.filter_append,h,ha]
theorem livingOf_no {S:List HSlot}{k:Nat}{s:HSlot}(h:S[k]?= some s)(ha:s.addr=0):livingOf S (k+1)=livingOf S k:=by
 simp[livingOf,List.range_succ,List.filter_append,h,ha]
theorem living_in (F:Fence)(n:Nat)(hf:F.fn 161)(hro:F.round=none)(p:Option Addr)(w:World):
  CallsIn F n prog 161 #[.pointer p] w fun e w'=>e=.returned (.func (.func 212) #[] #[pt w.heap.size]) /\ w'=w.alloc (.cells #[.pointer p] 73):=by
 refine callsIn_of_wp func161 rfl hf ?_ hro;simp only[ntmps161,List.size_toArray,List.length_cons,List.length_nil,Nat.reduceAdd,Nat.reduceSub,Array.replicate_succ,Array.replicate_zero,List.push_toArray,List.append_toArray,List.nil_append,List.cons_append]
 gi_wp2
 go_ret;exact⟨rfl,rfl⟩
theorem living1_nil (F:Fence)(n:Nat)(hf:F.fn 212)(hro:F.round=none)(l Bs:Nat)(J:List Nat -> World -> Prop)(W:World)(hBs:W.cell? ⟨Bs,0,none⟩=some (.pointer none))(h0:J [] W):
  CallsIn F n prog 212 #[.func (.yield l) #[] #[],pt Bs] W fun e W'=>(∃v,e=.returned v) /\ J [] W':=by
 refine callsIn_of_wp func212 rfl hf ?_ hro;simp only[ntmps212,List.size_toArray,List.length_cons,List.length_nil,Nat.reduceAdd,Nat.reduceSub,Array.replicate_succ,Array.replicate_zero,List.push_toArray,List.append_toArray,List.nil_append,List.cons_append]
 gi_wp2
 refine bodyPost_ret (results_none rfl _ _ _) rfl ?_;exact⟨⟨_,rfl⟩,h0⟩
theorem livingOf_length (S:List HSlot)(k:Nat):(livingOf S k).length <= k:=by
 unfold livingOf;exact Nat.le_trans (List.length_filter_le _ _) (by simp)
theorem HCells.below {W W':World}{b g n₀:Nat}{S:List HSlot}(h:HCells W b g S)(hb:b<n₀)(hg:g<n₀)(hk:Below n₀ W W'):HCells W' b g S:=
 ⟨(hk.cell (p:=⟨b,0,none⟩) hb).trans h.c0,fun i s hi=>⟨(hk.cell (p:=⟨g,i*2,none⟩) hg).trans (h.at_ i s hi).1,(hk.cell (p:=⟨g,i*2+1,none⟩) hg).trans (h.at_ i s hi).2⟩,
  fun i=>by have:=h.free i;unfold World.frozen? at this ⊢;rw[hk.block g hg];exact this,h.ne⟩
theorem living1_in (F:Fence)(n:Nat)(hf:F.fn 212)(hro:F.round=none)(hn:1 <= n)(l Bs n₀ b g:Nat)(S:List HSlot)(hlen:S.length <= 4096)(hb:b<n₀)(hg:g<n₀)(J Jx:List Nat -> World -> Prop)
  (W:World)(hn₀:n₀ <= W.heap.size)(hJ:AbidesFrom W.heap.size J)
  (hY:∀pre (x:Nat) W,x<S.length -> J pre W -> pre.length<S.length -> YieldAt F (n-1) prog l #[.int .i64 (x:Nat)] W fun e W'=>
    (e=.returned (.bool true) /\ J (pre++[x]) W' /\ Below n₀ W W')∨(e=.returned (.bool false) /\ Jx (pre++[x]) W'))
  (hBs:W.cell? ⟨Bs,0,none⟩=some (pt b))(hc:HCells W b g S)(h0:J [] W):
  CallsIn F n prog 212 #[.func (.yield l) #[] #[],pt Bs] W fun e W'=>(∃v,e=.returned v) /\
   ((∃ys,ys=livingOf S S.length /\ J ys W')∨(∃pre,(∃k,k <= S.length /\ pre=livingOf S k) /\ Jx pre W')):=by
 have c0:=hc.c0;refine callsIn_of_wp func212 rfl hf ?_ hro;simp only[ntmps212,List.size_toArray,List.length_cons,List.length_nil,Nat.reduceAdd,Nat.reduceSub,Array.replicate_succ,Array.replicate_zero,List.push_toArray,List.append_toArray,List.nil_append,List.cons_append]
 gi_wp2
 gi_loopw [12] (fun i wr=>∃k:Nat,k <= S.length /\ i=.int .i64 k /\ J (livingOf S k) wr /\ Below n₀ W wr)
  (fun i _=>S.length-(intOf i).toNat)
 case atStart=>exact⟨0,Nat.zero_le _,rfl,h0,Below.refl _ _⟩
 case round=>
  obtain⟨k,hk,rfl,hJs,hnx⟩:=hrel
  by_cases hlt:k<S.length
  · have hlt':(k:Int)<(S.length:Int):=by omega
    obtain⟨s,hs⟩:∃s,S[k]?= some s:=⟨S[k]'hlt,List.getElem?_eq_getElem _⟩;obtain⟨a0,a1⟩:=(hc.below hb hg hnx).at_ k s hs;have hsz:=hnx.size;have hJ2:J (livingOf S k) (wr.alloc (.cells #[.int .u64 s.given,.int .u64 s.addr] 186)):=hJ _ _ _ none hJs (World.grownBy_alloc wr _ none) (fun r e=>by cases e);have hB2:Below n₀ W (wr.alloc (.cells #[.int .u64 s.given,.int .u64 s.addr] 186)):=hnx.alloc (by omega) _;have Hs:=uh hs;clear hs
    by_cases hz:s.addr=0
    · have hl2:=livingOf_no Hs.out hz
      rw[hz]at a1 hJ2 hB2
      gi_wp2
      refine⟨fun _ h=>(by cases h),?_⟩
      gi_wp2
      go_roundw
      case rel=>exact⟨k+1,by omega,by simp,by rw[hl2];exact hJ2,hB2⟩
      case measure=>simp[intOf];omega
    · have hl2:=livingOf_yes Hs.out hz
      have hb1:(s.addr != 0)=true:=(by simpa using hz);obtain⟨fn,tmps,assign,body,hy,hR⟩:=hY _ k _ hlt hJ2 (Nat.lt_of_le_of_lt (livingOf_length S k) hlt)
      gi_wp2
      refine hR.mono ?_;rintro e W3 (⟨rfl,hJ3,hk3⟩|⟨rfl,hJx3⟩)
      · gi_wp2
        go_roundw
        case rel=>exact⟨k+1,by omega,by simp,by rw[hl2];exact hJ3,hB2.trans hk3⟩
        case measure=>simp[intOf];omega
      · gi_wp2
        refine bodyPost_ret (results_none rfl _ _ _) rfl ?_;exact⟨⟨_,rfl⟩,.inr ⟨_,⟨k+1,by omega,hl2.symm⟩,hJx3⟩⟩
  · obtain rfl:k=S.length:=by omega
    gi_wp2
    go_end0;exact⟨⟨_,rfl⟩,.inl ⟨_,rfl,hJs⟩⟩
end Go.Proofs.YtbecgkejdacidaaGreatDoor
namespace Go.Proofs.YtbecgkejdacidaaGreatDoor
open Go Go.RowKit Go.Shelf
attribute [local go_sem] Oper.semAt_some
def Pointed (n₀:Nat)(W:World)(p:Option Addr)(S:List HSlot):Prop:=(p=none /\ S=[])∨∃b g,p=some ⟨b,0,none⟩ /\ b<n₀ /\ g<n₀ /\ HCells W b g S
theorem Pointed.below {n₀:Nat}{A B:World}{p:Option Addr}{S:List HSlot}(hk:Below n₀ A B):Pointed n₀ A p S -> Pointed n₀ B p S
 | .inl h=>.inl h
 | .inr ⟨b,g,h1,h2,h3,h4⟩=>.inr ⟨b,g,h1,h2,h3,h4.below h2 h3 hk⟩
theorem living_stops (F:Fence)(n:Nat)(hf:F.fn 212)(hro:F.round=none)(hn:1 <= n)(Bs n₀:Nat)(p:Option Addr)(S:List HSlot)(hlen:S.length <= 4096)(w:World)(hBs:Bs<w.heap.size)(hn₀:n₀ <= w.heap.size)
  (hc:w.cell? ⟨Bs,0,none⟩=some (.pointer p))(hP:Pointed n₀ w p S):
  SeqStopsK F n prog 212 #[pt Bs] (fun x:Fin S.length=>#[Value.int .i64 (x.val:Int)]) (Below n₀) (fun ys=>ys.map Fin.val=livingOf S S.length) (fun _=>True) S.length w:=fun l J Jx W hW hJ hJx hY h0=>by
 have hc':=(hW.cell (p:=⟨Bs,0,none⟩) hBs).trans hc;rcases hP.below (hW.mono hn₀)with⟨rfl,rfl⟩|⟨b,g,rfl,hb,hg,hcs⟩
 ·exact(living1_nil F n hf hro l Bs (fun _ W=>J [] W) W hc' h0).mono fun e W' ⟨he,hj⟩=>⟨he,.inl ⟨[],rfl,hj⟩⟩
 · refine(living1_in F n hf hro hn l Bs n₀ b g S hlen hb hg (fun q W=>∃y:List (Fin S.length),y.map Fin.val=q /\ J y W) (fun _ W=>∃y,Jx y W) W (Nat.le_trans hn₀ hW.size) (fun q A B row ⟨y,hy,h⟩ h1 h2=>⟨y,hy,hJ y A B row h h1 h2⟩) ?_ hc' hcs ⟨[],rfl,h0⟩).mono ?_
   · rintro pre x W1 hx ⟨y,rfl,hj⟩ hl
     exact(hY y ⟨x,hx⟩ W1 hj (by simpa using hl)).mono fun e W' h=>h.imp (fun⟨h1,h2,h3⟩=>⟨h1,⟨y++[⟨x,hx⟩],by simp,h2⟩,h3⟩) (fun⟨h1,h2⟩=>⟨h1,_,h2⟩)
   · rintro e W' ⟨he,⟨ys,rfl,y,hy,hj⟩|⟨pre,-,y,hj⟩⟩
     ·exact⟨he,.inl ⟨y,hy,hj⟩⟩
     ·exact⟨he,.inr ⟨y,trivial,hj⟩⟩
end Go.Proofs.YtbecgkejdacidaaGreatDoor
namespace Go.Proofs.YtbecgkejdacidaaGreatDoor
section
open Go Go.RowKit Go.Shelf
attribute [local go_sem] Oper.semAt_some
theorem info_u64:(prog.info? 47).map (fun i=>(i.zero,i.size,i.bytes))=some (some (.int .u64 0),1,8):=by kernel_rfl
theorem cell_alloc {w:World}{a:Addr}{v:Value}{o:Obj}(h:w.cell? a=some v):(w.alloc o).cell? a=some v:=(World.cell?_alloc_lt _ _ _ (World.block_lt_of_cell? _ _ h)).trans h
def addrsOf (S:List HSlot)(is:List Nat):List Int:=is.map fun i=>(S[i]?.map HSlot.addr).getD 0
theorem hRefs_in (F:Fence)(n:Nat)(hF:F=Fence.wide)(hro:F.round=none)(hn:3 <= n)(p:Option Addr)(S:List HSlot)(hlen:S.length <= 4096)(w:World)(hP:Pointed w.heap.size w p S):
  CallsIn F n prog 81 #[.pointer p] w fun e W'=>∃v,e=.returned v /\ W'.ownsRow w.heap.size 47 1 v (livingOf S S.length).length ((addrsOf S (livingOf S S.length)).map (Value.int .u64)) /\ (v=.slice none 0 0↔livingOf S S.length=[]) /\ Below w.heap.size w W':=by
 have h1:1 <= n:=by omega
 have hfn:∀k,F.fn k:=by subst hF;exact fun _=>trivial
 have HF:=uh hF;clear hF;have h5:=hfn 161;have h7:=hfn 212;obtain⟨i0,hi,hz0,hz1,hz2⟩:=info_parts info_u64;refine callsIn_of_wp_marks func81 rfl (hfn _) ?_ hro;simp only[ntmps81,List.size_toArray,List.length_cons,List.length_nil,Nat.reduceAdd,Nat.reduceSub,Array.replicate_succ,Array.replicate_zero,List.push_toArray,List.append_toArray,List.nil_append,List.cons_append]
 gi_wp2_with (gi_at_call 161;refine(living_in F (n-1) h5 hro _ _).mono ?_;rintro e w' ⟨rfl,rfl⟩)
 have bH:=((Boxed.new w 73 (.pointer p)).alloc (.cells #[.slice none 0 0] 61)).alloc (.cells #[.pointer p] 73);have bO:=(Boxed.new (w.alloc (.cells #[.pointer p] 73)) 61 (.slice none 0 0)).alloc (.cells #[.pointer p] 73);have bN:=Boxed.new ((w.alloc (.cells #[.pointer p] 73)).alloc (.cells #[.slice none 0 0] 61)) 73 (.pointer p);simp only[World.size_alloc]at bO bN;have hB0:Below w.heap.size w (((w.alloc (.cells #[.pointer p] 73)).alloc (.cells #[.slice none 0 0] 61)).alloc (.cells #[.pointer p] 73)):=(((Below.refl _ w).alloc (Nat.le_refl _) _).alloc (by simp) _).alloc (by simp;omega) _;have hsz:(((w.alloc (.cells #[.pointer p] 73)).alloc (.cells #[.slice none 0 0] 61)).alloc (.cells #[.pointer p] 73)).heap.size=w.heap.size+3:=by simp
 obtain⟨W0,hW0⟩:∃W0,((w.alloc (.cells #[.pointer p] 73)).alloc (.cells #[.slice none 0 0] 61)).alloc (.cells #[.pointer p] 73)=W0:=⟨_,rfl⟩;rw[hW0]at bH bO bN hB0 hsz ⊢;clear hW0
 refine wpIn_rangeFunc_ownG hro h1 (gf:=212) (lb:=#[pt (w.heap.size+1+1)]) rfl h7 (enters_of func212 (by kernel_rfl) rfl)
  (living_stops F (n-1) h7 hro (by omega) (w.heap.size+1+1) w.heap.size p S hlen W0 (by omega) (by omega) bN.cell (hP.below hB0)) belowK_t (belowK_b (by omega)) (Below.refl _ _) (fun _=>rfl)
  (fun pre W=>(Boxed W w.heap.size 73 (.pointer p) /\ ∃v,Boxed W (w.heap.size+1) 61 v /\ W.ownsRow w.heap.size 47 1 v pre.length ((addrsOf S (pre.map Fin.val)).map (Value.int .u64)) /\ (v=.slice none 0 0↔pre=[])) /\ Below w.heap.size w W)
  (fun _ _ _=>False)
  (OwnFrom.and (OwnFrom.and (Own.from (boxed_own _ _ _) _) (Own.from (holdsRow_own w.heap.size (w.heap.size+1) 61 47 1 (fun pre=>pre.length) (fun pre=>(addrsOf S (pre.map Fin.val)).map (Value.int .u64)) (fun pre v=>v=.slice none 0 0↔pre=[])) _)) (ownFrom_below (Nat.le_refl _) (by omega)))
  (fun _ _ _ _ _ hs _ _=>hs)
  ⟨⟨bH,_,bO,World.ownsRow_nil _ _ _ _,by simp⟩,hB0⟩
  (fun x=>{ tmps:=#[.pointer p,pt w.heap.size,pt (w.heap.size+1),.int .i64 (x.val:Int),.pointer p,.func (.func 212) #[] #[pt (w.heap.size+1+1)],.int .i64 (x.val:Int),undef,undef,undef,undef,undef,undef,undef,undef,undef,undef,undef,undef],defers:=[] }) ?assign ?body ?done ?stop
 case assign=>
  intro l x W K hK
  gi_wp2
  simpa using hK
 case body=>
  rintro l pre x W ⟨⟨bx,v,hv,hrow,hnil⟩,hB⟩ hlt;rcases hP.below hB with⟨rfl,rfl⟩|⟨b,g,rfl,hb,hg,hcs⟩
  ·exact x.elim0
  have hc:=hv.cell;have hx:=bx.cell;have c0:=hcs.c0;obtain⟨x,hxl⟩:=x;obtain⟨s,hs⟩:∃s,S[x]?= some s:=⟨S[x]'hxl,List.getElem?_eq_getElem _⟩;obtain⟨a0,a1⟩:=hcs.at_ x s hs;have hlt':(x:Int)<(S.length:Int):=by omega
  have Hs:=uh hs;clear hs
  gi_wp2_with fail
  have hF:=HF.out;subst hF;refine wpIn_region_round (S:=fun w'=>w'.cell? ⟨w.heap.size,0,none⟩=some (pt b) /\ w'.cell? ⟨b,0,none⟩=some (.slice (some ⟨g,0,none⟩) S.length S.length) /\ w'.cell? ⟨g,x*2+1,none⟩=some (.int .u64 s.addr)) 12 [false,false,false,false,false,false,false,false,false,false,false,false] rfl rfl (by kernel_rfl) (by rfl) (by rintro⟨a,w,h⟩;exact h) ?_;have hS0:W.drew.cell? ⟨w.heap.size,0,none⟩=some (pt b) /\ W.drew.cell? ⟨b,0,none⟩=some (.slice (some ⟨g,0,none⟩) S.length S.length) /\ W.drew.cell? ⟨g,x*2+1,none⟩=some (.int .u64 s.addr):=⟨hx,c0,a1⟩;refine takeH 1 8 rfl rfl rfl (by kernel_rfl) (by kernel_rfl) (by kernel_rfl) (fun _ _ _ _ h=>h) hS0 (by(intro w hSw;go_simp;try rfl)) ?_;simp only[st1,st2];refine takeH 2 9 rfl rfl rfl (by kernel_rfl) (by kernel_rfl) (by kernel_rfl) (fun _ _ _ _ h=>h) hS0 (by(intro w hSw;go_simp;try rfl)) ?_;simp only[st1,st2];refine takeH 3 10 rfl rfl rfl (by kernel_rfl) (by kernel_rfl) (by kernel_rfl) (fun _ _ _ _ h=>h) hS0 (by(intro w hSw;go_simp;try rfl)) ?_;simp only[st1,st2];refine takeH 4 11 rfl rfl rfl (by kernel_rfl) (by kernel_rfl) (by kernel_rfl) (fun _ _ _ _ h=>h) hS0 (by(intro w hSw;go_simp;try rfl)) ?_;simp only[st1,st2];refine takeH 5 12 rfl rfl rfl (by kernel_rfl) (by kernel_rfl) (by kernel_rfl) (fun _ _ _ _ h=>h) hS0 (by(intro w hSw;go_simp;try rfl)) ?_;simp only[st1,st2]
  refine takeH 6 13 rfl rfl rfl (by kernel_rfl) (by kernel_rfl) (by kernel_rfl) (fun _ _ _ _ h=>h) hS0 (by(intro w hSw;go_simp;try rfl)) ?_;simp only[st1,st2];refine takeH 7 14 rfl rfl rfl (by kernel_rfl) (by kernel_rfl) (by kernel_rfl) (fun _ _ _ _ h=>h) hS0 (by(intro w hSw;go_simp;try rfl)) ?_;simp only[st1,st2];refine takeH 8 15 rfl rfl rfl (by kernel_rfl) (by kernel_rfl) (by kernel_rfl) (fun _ _ _ _ h=>h) hS0 (by(intro w hSw;go_simp;try rfl)) ?_;simp only[st1,st2];have hl1:pre.length+1 <= maxLen:=by unfold maxLen;omega
  have hrowd:(W.drew.alloc (.cells #[.int .u64 s.addr] 47)).ownsRow w.heap.size 47 1 v pre.length ((addrsOf S (pre.map Fin.val)).map (Value.int .u64)):=World.ownsRow.alloc (w:=W.drew) hrow _
  have hS1:(W.drew.alloc (.cells #[.int .u64 s.addr] 47)).cell? ⟨w.heap.size,0,none⟩=some (pt b) /\ (W.drew.alloc (.cells #[.int .u64 s.addr] 47)).cell? ⟨b,0,none⟩=some (.slice (some ⟨g,0,none⟩) S.length S.length) /\ (W.drew.alloc (.cells #[.int .u64 s.addr] 47)).cell? ⟨g,x*2+1,none⟩=some (.int .u64 s.addr):=by
   obtain⟨q1,q2,q3⟩:=hS0;exact⟨cell_alloc q1,cell_alloc q2,cell_alloc q3⟩
  have hlast:∀v' w1,w1.ownsRow w.heap.size 47 1 v' (pre.length+1) ((addrsOf S (pre.map Fin.val)).map (Value.int .u64)++[.int .u64 s.addr]) -> (W.drew.alloc (.cells #[.int .u64 s.addr] 47)).grownBy w1 v.ownBlock ->
    ∃g' cap',v'=.slice (some ⟨g',0,none⟩) (pre.length+1) cap' /\ w1.cell? ⟨w.heap.size+1,0,none⟩=some v /\ w1.frozen? ⟨w.heap.size+1,0,none⟩=false /\
     (w1.cell? ⟨w.heap.size,0,none⟩=some (pt b) /\ w1.cell? ⟨b,0,none⟩=some (.slice (some ⟨g,0,none⟩) S.length S.length) /\ w1.cell? ⟨g,x*2+1,none⟩=some (.int .u64 s.addr)) /\
     ((w1.setCell ⟨w.heap.size+1,0,none⟩ v').cell? ⟨w.heap.size,0,none⟩=some (pt b) /\ (w1.setCell ⟨w.heap.size+1,0,none⟩ v').cell? ⟨b,0,none⟩=some (.slice (some ⟨g,0,none⟩) S.length S.length) /\ (w1.setCell ⟨w.heap.size+1,0,none⟩ v').cell? ⟨g,x*2+1,none⟩=some (.int .u64 s.addr)) /\
     KeepsFrom W0.heap.size W (w1.setCell ⟨w.heap.size+1,0,none⟩ v') /\ Below w.heap.size W (w1.setCell ⟨w.heap.size+1,0,none⟩ v') /\
     ((Boxed (w1.setCell ⟨w.heap.size+1,0,none⟩ v') w.heap.size 73 (pt b) /\ ∃u,Boxed (w1.setCell ⟨w.heap.size+1,0,none⟩ v') (w.heap.size+1) 61 u /\ (w1.setCell ⟨w.heap.size+1,0,none⟩ v').ownsRow w.heap.size 47 1 u (pre++[(⟨x,hxl⟩:Fin S.length)]).length ((addrsOf S ((pre++[(⟨x,hxl⟩:Fin S.length)]).map Fin.val)).map (Value.int .u64)) /\ (u=.slice none 0 0↔pre++[(⟨x,hxl⟩:Fin S.length)]=[])) /\ Below w.heap.size w (w1.setCell ⟨w.heap.size+1,0,none⟩ v')):=by
   intro v' w1 hown' hgrow;obtain⟨g',cap',rfl⟩:=ownsRow_succ hown';have hvd:Boxed W.drew (w.heap.size+1) 61 v:=hv;have hbd:Boxed W.drew w.heap.size 73 (pt b):=bx;have hrd:W.drew.ownsRow w.heap.size 47 1 v pre.length ((addrsOf S (pre.map Fin.val)).map (Value.int .u64)):=hrow;have hBd:Below w.heap.size W W.drew:=(Below.refl _ W).drew;obtain⟨hv1,hv2,hr2,hk2,hb2⟩:=hvd.appended (by decide) hrd hB.size (Nat.le_succ _) hown' hgrow;have hb1:Boxed w1 w.heap.size 73 (pt b):=(hbd.alloc _).kept hgrow (hbd.not_row (by decide) hrd)
   have hB1:Below w.heap.size W.drew w1:=by
    refine((Below.refl _ W.drew).alloc hB.size _).grown hgrow (by simp;have:=hB.size;omega) fun j ej=>?_;rcases hrd.2 with⟨rfl,_⟩|⟨q,cap,cur,rfl,hb,_,_⟩
    ·simp[Value.ownBlock]at ej
    · obtain rfl:q=j:=by simpa [Value.ownBlock]using ej
      exact hb
   have hb3:=hb1.other (B':=w.heap.size+1) (by omega) (.slice (some ⟨g',0,none⟩) (pre.length+1) cap');have hx1:addrsOf S ((pre++[(⟨x,hxl⟩:Fin S.length)]).map Fin.val)=addrsOf S (pre.map Fin.val)++[s.addr]:=(by simp[addrsOf,Hs.out]);refine⟨g',cap',rfl,hv1.cell,hv1.frozen,⟨hb1.cell,(hB1.cell (p:=⟨b,0,none⟩) hb).trans c0,(hB1.cell (p:=⟨g,x*2+1,none⟩) hg).trans a1⟩,⟨hb3.cell,(hb2.cell (p:=⟨b,0,none⟩) hb).trans c0,(hb2.cell (p:=⟨g,x*2+1,none⟩) hg).trans a1⟩,((KeepsOthers.drew W).trans hk2).from _,hBd.trans hb2,⟨hb3,_,hv2,?_,?_⟩,hB.trans (hBd.trans hb2)⟩
   · rw[hx1,List.length_append,List.map_append]
     exact hr2
   ·simp
  refine wpAnyH_ready (rs:=[0,9]) (by kernel_rfl) (by simp) (AllReadyH.cons rfl (fun K hK=>?_) (AllReadyH.cons rfl (fun K hK=>?_) AllReadyH.nil))
  · go_simp
    refine hK.out _ _ hS0 fun _=>?_;simp only[List.setIfInBounds_toArray,List.set_cons_zero];refine rdyA 9 (fun K hK=>?_)
    go_simp
    refine hK.out _ _ hS1 fun _=>?_;simp only[st0,st1,st2];refine rdyA 10 (fun K hK=>?_);refine step_append_own _ 17 rfl rfl _ _ 61 rfl w.heap.size 47 i0 (.int .u64 0) 1 8 underlying61 hi hz0 hz1 hz2 rfl (by decide) _ _ _ rfl hrowd ⟨W.heap.size,0,none⟩ 1 1 [.int .u64 s.addr] rfl rfl (cell_one_new _ _ _) (by simp[Value.oneCell']) hl1 (by omega) (by have:=hB.size;simp;omega) ?_;intro v' w1 hown' hgrow _;obtain⟨g',cap',rfl,hc1,hf1,hS2,hS3,hend⟩:=hlast v' w1 hown' hgrow;refine hK.out _ _ hS2 fun _=>?_;simp only[st0,st1,st2];refine rdyA 11 (fun K hK=>?_)
    go_simp
    refine hK.out _ _ hS3 fun _=>?_;exact wpAnyH_done (by kernel_rfl) hend _
  · go_simp
    refine hK.out _ _ hS1 fun _=>?_;simp only[st0,st1,st2];refine rdyA 0 (fun K hK=>?_);have hcd:(W.alloc (.cells #[.int .u64 s.addr] 47)).drew.cell? ⟨w.heap.size+1,0,none⟩=some v:=cell_alloc (w:=W.drew) hc
    go_simp
    refine hK.out _ _ hS1 fun _=>?_;simp only[List.setIfInBounds_toArray,List.set_cons_zero];refine rdyA 10 (fun K hK=>?_);refine step_append_own _ 17 rfl rfl _ _ 61 rfl w.heap.size 47 i0 (.int .u64 0) 1 8 underlying61 hi hz0 hz1 hz2 rfl (by decide) _ _ _ rfl hrowd ⟨W.heap.size,0,none⟩ 1 1 [.int .u64 s.addr] rfl rfl (cell_one_new _ _ _) (by simp[Value.oneCell']) hl1 (by omega) (by have:=hB.size;simp;omega) ?_;intro v' w1 hown' hgrow _;obtain⟨g',cap',rfl,hc1,hf1,hS2,hS3,hend⟩:=hlast v' w1 hown' hgrow;refine hK.out _ _ hS2 fun _=>?_;simp only[st0,st1,st2];refine rdyA 11 (fun K hK=>?_)
    go_simp
    refine hK.out _ _ hS3 fun _=>?_;exact wpAnyH_done (by kernel_rfl) hend _
 case done=>
  rintro D ys W hD hys ⟨⟨bx,v,hv,hrow,hnil⟩,hB⟩ hK;have hyl:ys.length=(livingOf S S.length).length:=by rw[←hys,List.length_map]
  have hyn:ys=[]↔livingOf S S.length=[]:=by rw[←hys,List.map_eq_nil_iff]
  rw[hyl,hys]at hrow;rw[hyn]at hnil
  obtain⟨av,nv,cv,rfl⟩:∃av nv cv,v=.slice av nv cv:=by
   rcases hrow.2 with⟨h,-⟩|⟨g,cap,cur,h,-⟩
   ·exact⟨_,_,_,h⟩
   ·exact⟨_,_,_,h⟩
  have hc:=hv.cell;have hf:=hv.frozen
  gi_wp2
  have hK2:=(KeepsOthers.setCell W ⟨w.heap.size+1,0,none⟩ (.slice av nv cv)).same D _ hK rfl;have hc2:=(hv.set (.slice av nv cv)).cell;refine⟨by simp,.inl ⟨_,_,rfl,run_takeDeferred hK2,?_⟩⟩;have hc3:=cell_kept hc2 (grownBy_putObj' _ D (.deferred none)) (fun r e=>by cases e;exact⟨_,hK2,rfl⟩);refine⟨.slice av nv cv,?_,_,rfl,?_,hnil,?_⟩
  ·simp[results,results81,go_sem,hc3]
  ·exact ownsRow_putObj (hrow.kept (grownBy_setCell' W (w.heap.size+1) (.slice av nv cv)) (.inr (hv.not_row (by decide) hrow).symm)) _ hK2 rfl
  ·exact(hB.setCell (p:=⟨w.heap.size+1,0,none⟩) (Nat.le_succ _) _).trans (belowK_b (w:=w) (Nat.le_refl _) _ D _ _ (by omega) hK2 rfl rfl)
 case stop=>
  rintro D c pre W _ _ h _;exact h.elim
theorem hRefs_any (p:Option Addr)(S:List HSlot)(hlen:S.length <= 4096)(w:World)(hP:Pointed w.heap.size w p S):
  Calls prog 81 #[.pointer p] w fun e W'=>∃v,e=.returned v /\ W'.ownsRow w.heap.size 47 1 v (livingOf S S.length).length ((addrsOf S (livingOf S S.length)).map (Value.int .u64)) /\ (v=.slice none 0 0↔livingOf S S.length=[]) /\ Below w.heap.size w W':=
 (callsIn_wide (n:=3)).1 (hRefs_in Fence.wide 3 rfl rfl (Nat.le_refl _) p S hlen w hP)
end
section
open Go Go.RowKit Go.Shelf
attribute [local go_sem] Oper.semAt_some
theorem info_handle:(prog.info? 83).map (fun i=>(i.zero,i.size,i.bytes))=some (some (.int .u64 0),1,8):=by kernel_rfl
theorem HCells.drew {w:World}{b g:Nat}{S:List HSlot}(h:HCells w b g S):HCells w.drew b g S:=⟨h.c0,h.at_,h.free,h.ne⟩
theorem handle_cells (w:World){b g:Nat}{S:List HSlot}(W:HCells w b g S)(hl:S.length <= 4096)(i:Nat)(s:HSlot)(hi:S[i]?= some s)(hsm:s.given<4294967295):
  Calls prog 96 #[pt b,.int .i64 i] w fun e w'=>e=.returned (.int .u64 (wh i s.given)) /\ w=w':=by
 have hlt:i<S.length:=(List.getElem?_eq_some_iff.1 hi).1;have hlt':(i:Int)<(S.length:Int):=by omega
 obtain⟨c0,at_,-,-⟩:=W;obtain⟨a0,a1⟩:=at_ i s hi;have hor:=or_wh s.given i hsm (by omega);clear at_ hi
 go_enter func96,ntmps96
 go_wp2
 go_ret;exact⟨rfl,rfl⟩
def handsOf (S:List HSlot)(is:List Nat):List Int:=is.map fun i=>wh i ((S[i]?.map HSlot.given).getD 0)
theorem hList_in (F:Fence)(n:Nat)(hF:F=Fence.wide)(hro:F.round=none)(hn:3 <= n)(p:Option Addr)(S:List HSlot)(hlen:S.length <= 4096)(hsm:∀s∈S,s.given<4294967295)(w:World)(hP:Pointed w.heap.size w p S):
  CallsIn F n prog 82 #[.pointer p] w fun e W'=>∃v,e=.returned v /\ W'.ownsRow w.heap.size 83 1 v (livingOf S S.length).length ((handsOf S (livingOf S S.length)).map (Value.int .u64)) /\ (v=.slice none 0 0↔livingOf S S.length=[]) /\ Below w.heap.size w W':=by
 have h1:1 <= n:=by omega
 have hfn:∀k,F.fn k:=by subst hF;exact fun _=>trivial
 have HF:=uh hF;clear hF;have h5:=hfn 161;have h7:=hfn 212;obtain⟨i0,hi,hz0,hz1,hz2⟩:=info_parts info_handle;refine callsIn_of_wp_marks func82 rfl (hfn _) ?_ hro;simp only[ntmps82,List.size_toArray,List.length_cons,List.length_nil,Nat.reduceAdd,Nat.reduceSub,Array.replicate_succ,Array.replicate_zero,List.push_toArray,List.append_toArray,List.nil_append,List.cons_append]
 gi_wp2_with (gi_at_call 161;refine(living_in F (n-1) h5 hro _ _).mono ?_;rintro e w' ⟨rfl,rfl⟩)
 have bH:=((Boxed.new w 73 (.pointer p)).alloc (.cells #[.slice none 0 0] 165)).alloc (.cells #[.pointer p] 73);have bO:=(Boxed.new (w.alloc (.cells #[.pointer p] 73)) 165 (.slice none 0 0)).alloc (.cells #[.pointer p] 73);have bN:=Boxed.new ((w.alloc (.cells #[.pointer p] 73)).alloc (.cells #[.slice none 0 0] 165)) 73 (.pointer p);simp only[World.size_alloc]at bO bN;have hB0:Below w.heap.size w (((w.alloc (.cells #[.pointer p] 73)).alloc (.cells #[.slice none 0 0] 165)).alloc (.cells #[.pointer p] 73)):=(((Below.refl _ w).alloc (Nat.le_refl _) _).alloc (by simp) _).alloc (by simp;omega) _;have hsz:(((w.alloc (.cells #[.pointer p] 73)).alloc (.cells #[.slice none 0 0] 165)).alloc (.cells #[.pointer p] 73)).heap.size=w.heap.size+3:=by simp
 obtain⟨W0,hW0⟩:∃W0,((w.alloc (.cells #[.pointer p] 73)).alloc (.cells #[.slice none 0 0] 165)).alloc (.cells #[.pointer p] 73)=W0:=⟨_,rfl⟩;rw[hW0]at bH bO bN hB0 hsz ⊢;clear hW0
 refine wpIn_rangeFunc_ownG hro h1 (gf:=212) (lb:=#[pt (w.heap.size+1+1)]) rfl h7 (enters_of func212 (by kernel_rfl) rfl)
  (living_stops F (n-1) h7 hro (by omega) (w.heap.size+1+1) w.heap.size p S hlen W0 (by omega) (by omega) bN.cell (hP.below hB0)) belowK_t (belowK_b (by omega)) (Below.refl _ _) (fun _=>rfl)
  (fun pre W=>(Boxed W w.heap.size 73 (.pointer p) /\ ∃v,Boxed W (w.heap.size+1) 165 v /\ W.ownsRow w.heap.size 83 1 v pre.length ((handsOf S (pre.map Fin.val)).map (Value.int .u64)) /\ (v=.slice none 0 0↔pre=[])) /\ Below w.heap.size w W)
  (fun _ _ _=>False)
  (OwnFrom.and (OwnFrom.and (Own.from (boxed_own _ _ _) _) (Own.from (holdsRow_own w.heap.size (w.heap.size+1) 165 83 1 (fun pre=>pre.length) (fun pre=>(handsOf S (pre.map Fin.val)).map (Value.int .u64)) (fun pre v=>v=.slice none 0 0↔pre=[])) _)) (ownFrom_below (Nat.le_refl _) (by omega)))
  (fun _ _ _ _ _ hs _ _=>hs)
  ⟨⟨bH,_,bO,World.ownsRow_nil _ _ _ _,by simp⟩,hB0⟩
  (fun x=>{ tmps:=#[.pointer p,pt w.heap.size,pt (w.heap.size+1),.int .i64 (x.val:Int),.pointer p,.func (.func 212) #[] #[pt (w.heap.size+1+1)],.int .i64 (x.val:Int),undef,undef,undef,undef,undef,undef,undef],defers:=[] }) ?assign ?body ?done ?stop
 case assign=>
  intro l x W K hK
  gi_wp2
  simpa using hK
 case body=>
  rintro l pre x W ⟨⟨bx,v,hv,hrow,hnil⟩,hB⟩ hlt;rcases hP.below hB with⟨rfl,rfl⟩|⟨b,g,rfl,hb,hg,hcs⟩
  ·exact x.elim0
  have hc:=hv.cell;have hx:=bx.cell;have c0:=hcs.c0;obtain⟨x,hxl⟩:=x;obtain⟨s,hs⟩:∃s,S[x]?= some s:=⟨S[x]'hxl,List.getElem?_eq_getElem _⟩;have Hs:=uh hs;clear hs
  gi_wp2_with fail
  have hF:=HF.out;subst hF;refine wpIn_region_round (S:=fun w'=>w'.cell? ⟨w.heap.size,0,none⟩=some (pt b)) 7 [false,false,false,false,false,false,false] rfl rfl (by kernel_rfl) (by rfl) (by rintro⟨a,w,h⟩;exact h) ?_;have hS0:W.drew.cell? ⟨w.heap.size,0,none⟩=some (pt b):=hx;refine takeH 1 8 rfl rfl rfl (by kernel_rfl) (by kernel_rfl) (by kernel_rfl) (fun _ _ _ _ h=>h) hS0 (by(intro w hSw;go_simp;try rfl)) ?_;simp only[st1,st2];refine takeH 2 9 rfl rfl rfl (by kernel_rfl) (by kernel_rfl) (by kernel_rfl) (fun _ _ _ _ h=>h) hS0 (by(intro w hSw;go_simp;try rfl)) ?_;simp only[st1,st2];have hl1:pre.length+1 <= maxLen:=by unfold maxLen;omega
  have hrowd:(W.drew.alloc (.cells #[.int .u64 (wh x s.given)] 83)).ownsRow w.heap.size 83 1 v pre.length ((handsOf S (pre.map Fin.val)).map (Value.int .u64)):=World.ownsRow.alloc (w:=W.drew) hrow _;have hS1:(W.drew.alloc (.cells #[.int .u64 (wh x s.given)] 83)).cell? ⟨w.heap.size,0,none⟩=some (pt b):=cell_alloc hS0;have hcd:(W.alloc (.cells #[.int .u64 (wh x s.given)] 83)).drew.cell? ⟨w.heap.size+1,0,none⟩=some v:=cell_alloc (w:=W.drew) hc;have hcall:=handle_cells W.drew hcs.drew hlen x s Hs.out (hsm s (List.mem_of_getElem? Hs.out));have Hcall:=uh hcall;clear hcall
  have hlast:∀v' w1,w1.ownsRow w.heap.size 83 1 v' (pre.length+1) ((handsOf S (pre.map Fin.val)).map (Value.int .u64)++[.int .u64 (wh x s.given)]) -> (W.drew.alloc (.cells #[.int .u64 (wh x s.given)] 83)).grownBy w1 v.ownBlock ->
    ∃g' cap',v'=.slice (some ⟨g',0,none⟩) (pre.length+1) cap' /\ w1.cell? ⟨w.heap.size+1,0,none⟩=some v /\ w1.frozen? ⟨w.heap.size+1,0,none⟩=false /\
     (w1.cell? ⟨w.heap.size,0,none⟩=some (pt b)) /\
     ((w1.setCell ⟨w.heap.size+1,0,none⟩ v').cell? ⟨w.heap.size,0,none⟩=some (pt b)) /\
     KeepsFrom W0.heap.size W (w1.setCell ⟨w.heap.size+1,0,none⟩ v') /\ Below w.heap.size W (w1.setCell ⟨w.heap.size+1,0,none⟩ v') /\
     ((Boxed (w1.setCell ⟨w.heap.size+1,0,none⟩ v') w.heap.size 73 (pt b) /\ ∃u,Boxed (w1.setCell ⟨w.heap.size+1,0,none⟩ v') (w.heap.size+1) 165 u /\ (w1.setCell ⟨w.heap.size+1,0,none⟩ v').ownsRow w.heap.size 83 1 u (pre++[(⟨x,hxl⟩:Fin S.length)]).length ((handsOf S ((pre++[(⟨x,hxl⟩:Fin S.length)]).map Fin.val)).map (Value.int .u64)) /\ (u=.slice none 0 0↔pre++[(⟨x,hxl⟩:Fin S.length)]=[])) /\ Below w.heap.size w (w1.setCell ⟨w.heap.size+1,0,none⟩ v')):=by
   intro v' w1 hown' hgrow;obtain⟨g',cap',rfl⟩:=ownsRow_succ hown';have hvd:Boxed W.drew (w.heap.size+1) 165 v:=hv;have hbd:Boxed W.drew w.heap.size 73 (pt b):=bx;have hrd:W.drew.ownsRow w.heap.size 83 1 v pre.length ((handsOf S (pre.map Fin.val)).map (Value.int .u64)):=hrow;have hBd:Below w.heap.size W W.drew:=(Below.refl _ W).drew;obtain⟨hv1,hv2,hr2,hk2,hb2⟩:=hvd.appended (by decide) hrd hB.size (Nat.le_succ _) hown' hgrow;have hb1:Boxed w1 w.heap.size 73 (pt b):=(hbd.alloc _).kept hgrow (hbd.not_row (by decide) hrd)
   have hB1:Below w.heap.size W.drew w1:=by
    refine((Below.refl _ W.drew).alloc hB.size _).grown hgrow (by simp;have:=hB.size;omega) fun j ej=>?_;rcases hrd.2 with⟨rfl,_⟩|⟨q,cap,cur,rfl,hb,_,_⟩
    ·simp[Value.ownBlock]at ej
    · obtain rfl:q=j:=by simpa [Value.ownBlock]using ej
      exact hb
   have hb3:=hb1.other (B':=w.heap.size+1) (by omega) (.slice (some ⟨g',0,none⟩) (pre.length+1) cap');have hx1:handsOf S ((pre++[(⟨x,hxl⟩:Fin S.length)]).map Fin.val)=handsOf S (pre.map Fin.val)++[wh x s.given]:=(by simp[handsOf,Hs.out]);refine⟨g',cap',rfl,hv1.cell,hv1.frozen,hb1.cell,hb3.cell,((KeepsOthers.drew W).trans hk2).from _,hBd.trans hb2,⟨hb3,_,hv2,?_,?_⟩,hB.trans (hBd.trans hb2)⟩
   · rw[hx1,List.length_append,List.map_append]
     exact hr2
   ·simp
  refine wpAnyH_ready (rs:=[0,3]) (by kernel_rfl) (by simp) (AllReadyH.cons rfl (fun K hK=>?_) (AllReadyH.cons rfl (fun K hK=>?_) AllReadyH.nil))
  · go_simp
    refine hK.out _ _ hS0 fun _=>?_;simp only[List.setIfInBounds_toArray,List.set_cons_zero];refine rdyA 3 (fun K hK=>?_)
    go_simp
    refine(Hcall.out).mono ?_;rintro e w' ⟨rfl,rfl⟩;refine hK.out _ _ hS0 fun _=>?_;simp only[st0,st1,st2];refine rdyA 4 (fun K hK=>?_)
    go_simp
    refine hK.out _ _ hS1 fun _=>?_;simp only[st0,st1,st2];refine rdyA 5 (fun K hK=>?_);refine step_append_own _ 12 rfl rfl _ _ 165 rfl w.heap.size 83 i0 (.int .u64 0) 1 8 underlying165 hi hz0 hz1 hz2 rfl (by decide) _ _ _ rfl hrowd ⟨W.heap.size,0,none⟩ 1 1 [.int .u64 (wh x s.given)] rfl rfl (cell_one_new _ _ _) (by simp[Value.oneCell']) hl1 (by omega) (by have:=hB.size;simp;omega) ?_;intro v' w1 hown' hgrow _;obtain⟨g',cap',rfl,hc1,hf1,hS2,hS3,hend⟩:=hlast v' w1 hown' hgrow;refine hK.out _ _ hS2 fun _=>?_;simp only[st0,st1,st2];refine rdyA 6 (fun K hK=>?_)
    go_simp
    refine hK.out _ _ hS3 fun _=>?_;exact wpAnyH_done (by kernel_rfl) hend _
  · go_simp
    refine(Hcall.out).mono ?_;rintro e w' ⟨rfl,rfl⟩;refine hK.out _ _ hS0 fun _=>?_;simp only[st0,st1,st2];refine wpAnyH_ready (rs:=[0,4]) (by kernel_rfl) (by simp) (AllReadyH.cons rfl (fun K hK=>?_) (AllReadyH.cons rfl (fun K hK=>?_) AllReadyH.nil))
    · go_simp
      refine hK.out _ _ hS0 fun _=>?_;simp only[List.setIfInBounds_toArray,List.set_cons_zero];refine rdyA 4 (fun K hK=>?_)
      go_simp
      refine hK.out _ _ hS1 fun _=>?_;simp only[st0,st1,st2];refine rdyA 5 (fun K hK=>?_);refine step_append_own _ 12 rfl rfl _ _ 165 rfl w.heap.size 83 i0 (.int .u64 0) 1 8 underlying165 hi hz0 hz1 hz2 rfl (by decide) _ _ _ rfl hrowd ⟨W.heap.size,0,none⟩ 1 1 [.int .u64 (wh x s.given)] rfl rfl (cell_one_new _ _ _) (by simp[Value.oneCell']) hl1 (by omega) (by have:=hB.size;simp;omega) ?_;intro v' w1 hown' hgrow _;obtain⟨g',cap',rfl,hc1,hf1,hS2,hS3,hend⟩:=hlast v' w1 hown' hgrow;refine hK.out _ _ hS2 fun _=>?_;simp only[st0,st1,st2];refine rdyA 6 (fun K hK=>?_)
      go_simp
      refine hK.out _ _ hS3 fun _=>?_;exact wpAnyH_done (by kernel_rfl) hend _
    · go_simp
      refine hK.out _ _ hS1 fun _=>?_;simp only[st0,st1,st2];refine rdyA 0 (fun K hK=>?_)
      go_simp
      refine hK.out _ _ hS1 fun _=>?_;simp only[List.setIfInBounds_toArray,List.set_cons_zero];refine rdyA 5 (fun K hK=>?_);refine step_append_own _ 12 rfl rfl _ _ 165 rfl w.heap.size 83 i0 (.int .u64 0) 1 8 underlying165 hi hz0 hz1 hz2 rfl (by decide) _ _ _ rfl hrowd ⟨W.heap.size,0,none⟩ 1 1 [.int .u64 (wh x s.given)] rfl rfl (cell_one_new _ _ _) (by simp[Value.oneCell']) hl1 (by omega) (by have:=hB.size;simp;omega) ?_;intro v' w1 hown' hgrow _;obtain⟨g',cap',rfl,hc1,hf1,hS2,hS3,hend⟩:=hlast v' w1 hown' hgrow;refine hK.out _ _ hS2 fun _=>?_;simp only[st0,st1,st2];refine rdyA 6 (fun K hK=>?_)
      go_simp
      refine hK.out _ _ hS3 fun _=>?_;exact wpAnyH_done (by kernel_rfl) hend _
 case done=>
  rintro D ys W hD hys ⟨⟨bx,v,hv,hrow,hnil⟩,hB⟩ hK;have hyl:ys.length=(livingOf S S.length).length:=by rw[←hys,List.length_map]
  have hyn:ys=[]↔livingOf S S.length=[]:=by rw[←hys,List.map_eq_nil_iff]
  rw[hyl,hys]at hrow;rw[hyn]at hnil
  obtain⟨av,nv,cv,rfl⟩:∃av nv cv,v=.slice av nv cv:=by
   rcases hrow.2 with⟨h,-⟩|⟨g,cap,cur,h,-⟩
   ·exact⟨_,_,_,h⟩
   ·exact⟨_,_,_,h⟩
  have hc:=hv.cell;have hf:=hv.frozen
  gi_wp2
  have hK2:=(KeepsOthers.setCell W ⟨w.heap.size+1,0,none⟩ (.slice av nv cv)).same D _ hK rfl;have hc2:=(hv.set (.slice av nv cv)).cell;refine⟨by simp,.inl ⟨_,_,rfl,run_takeDeferred hK2,?_⟩⟩;have hc3:=cell_kept hc2 (grownBy_putObj' _ D (.deferred none)) (fun r e=>by cases e;exact⟨_,hK2,rfl⟩);refine⟨.slice av nv cv,?_,_,rfl,?_,hnil,?_⟩
  ·simp[results,results82,go_sem,hc3]
  ·exact ownsRow_putObj (hrow.kept (grownBy_setCell' W (w.heap.size+1) (.slice av nv cv)) (.inr (hv.not_row (by decide) hrow).symm)) _ hK2 rfl
  ·exact(hB.setCell (p:=⟨w.heap.size+1,0,none⟩) (Nat.le_succ _) _).trans (belowK_b (w:=w) (Nat.le_refl _) _ D _ _ (by omega) hK2 rfl rfl)
 case stop=>
  rintro D c pre W _ _ h _;exact h.elim
theorem hList_any (p:Option Addr)(S:List HSlot)(hlen:S.length <= 4096)(hsm:∀s∈S,s.given<4294967295)(w:World)(hP:Pointed w.heap.size w p S):
  Calls prog 82 #[.pointer p] w fun e W'=>∃v,e=.returned v /\ W'.ownsRow w.heap.size 83 1 v (livingOf S S.length).length ((handsOf S (livingOf S S.length)).map (Value.int .u64)) /\ (v=.slice none 0 0↔livingOf S S.length=[]) /\ Below w.heap.size w W':=
 (callsIn_wide (n:=3)).1 (hList_in Fence.wide 3 rfl rfl (Nat.le_refl _) p S hlen hsm w hP)
end
end Go.Proofs.YtbecgkejdacidaaGreatDoor
namespace Go.Proofs.YtbecgkejdacidaaGreatDoor
open Go Go.RowKit Go.Shelf
section
variable {b:Nat} {S:List HSlot} {l R:List Blk}
theorem HandsIs.pointed {w:World}(hS:HandsIs b S l)(hH:Has w (l++R)):Pointed w.heap.size w (some ⟨b,0,none⟩) S:=by
 obtain⟨hok,g,cur,rfl,hc⟩:=hS;exact .inr ⟨b,g,rfl,hH.lt (by simp),hH.lt (by simp),hcells hc hH⟩
def SlicePost (e:TypeId)(xs:List Int)(L:List Blk)(w:World)(en:Ending)(w':World):Prop:=
 ∃ao cap l',en=.returned (.slice ao xs.length cap) /\ Row e 1 ao xs.length cap (xs.map (Value.int .u64)) l' /\ Turn L w (l'++L) w'
end
namespace handNil
variable {R:List Blk}
end handNil
end Go.Proofs.YtbecgkejdacidaaGreatDoor
namespace Go.Proofs.YtbecgkejdacidaaGreatDoor
open Go Go.RowKit
section
variable {b:Nat} {S:List HSlot} {l R:List Blk}
theorem hAdd_at (w:World)(hS:HandsIs b S l)(hH:Has w (l++R))(a:Int)(ha:a≠0)(hsm:∀s∈S,s.given<4294967294)(i:Nat)(s:HSlot)(hi:S[i]?= some s)(hst:s.addr=0)(hf:∀(j:Nat) (t:HSlot),j<i -> S[j]?= some t -> t.addr≠0):
  Calls prog 31 #[pt b,.int .u64 a] w fun e w'=>e=.returned (.tuple #[.int .u64 (wh i (s.given+1)),.int .i64 0]) /\ ∃l',HandsIs b (S.set i ⟨s.given+1,a⟩) l' /\ Turn (l++R) w (l'++R) w':=by
 refine(hAdd_any w hS hH a ha hsm).mono ?_;rintro e w' (⟨i',s',l',hi',hst',hf',rfl,hS',T⟩|⟨hall,-⟩)
 · have hii:i=i':=by
     rcases Nat.lt_trichotomy i i' with h|h|h
     ·exact absurd hst (hf' i s h hi)
     ·exact h
     ·exact absurd hst' (hf i' s' h hi')
   subst hii;have hss:=hi.symm.trans hi'
   cases hss
   exact⟨rfl,l',hS',T⟩
 ·exact absurd hst (hall i s hi)
end
end Go.Proofs.YtbecgkejdacidaaGreatDoor
namespace Go.Proofs.YtbecgkejdacidaaGreatDoor
section
open Go Go.RowKit
def hAt (S:List HSlot)(i:Nat):Nat×Nat:=(((S[i]?.map HSlot.given).getD 0)*4294967296+i,((S[i]?.map HSlot.addr).getD 0).toNat)
def hdl (S:List HSlot):List (Nat×Nat):=(livingOf S S.length).map (hAt S)
theorem addr_nat {S:List HSlot}(h0:∀s∈S,0 <= s.addr)(i:Nat):0 <= (S[i]?.map HSlot.addr).getD 0:=by
 cases h:S[i]? with
 | none=>simp
 | some s=>simpa using h0 s (List.mem_of_getElem? h)
theorem hdl_refs {S:List HSlot}(h0:∀s∈S,0 <= s.addr):(addrsOf S (livingOf S S.length)).map (Value.int .u64)=n64s ((hdl S).map (·.2)):=by
 unfold addrsOf n64s hdl;simp only[List.map_map];refine List.map_congr_left fun i _=>?_;have:=addr_nat h0 i;simp only[Function.comp,hAt];rw[Int.toNat_of_nonneg this]
theorem hdl_list (S:List HSlot):(handsOf S (livingOf S S.length)).map (Value.int .u64)=n64s ((hdl S).map (·.1)):=by
 unfold handsOf n64s hdl;simp only[List.map_map];refine List.map_congr_left fun i _=>?_;simp only[Function.comp,hAt,wh]
theorem hdl_len (S:List HSlot):(hdl S).length=(livingOf S S.length).length:=List.length_map ..
theorem Pointed.more {n₀ n1:Nat}{W:World}{p:Option Addr}{S:List HSlot}(h:Pointed n₀ W p S)(hn:n₀ <= n1):Pointed n1 W p S:=by
 rcases h with h|⟨b,g,h1,h2,h3,h4⟩
 ·exact .inl h
 ·exact .inr ⟨b,g,h1,by omega,by omega,h4⟩
theorem tells_hrefs (w:World)(p:Option Addr)(S:List HSlot)(hlen:S.length <= 4096)(h0:∀s∈S,0 <= s.addr)(hP:Pointed w.heap.size w p S):Tells 81 47 p w ((hdl S).map (·.2)):=fun w' hk=>by
 refine(hRefs_any p S hlen w' ((hP.below hk).more hk.size)).mono ?_;rintro e w2 ⟨v,rfl,ho,-,hB⟩;obtain⟨ao,cap,l',rfl,hr,T⟩:=Turn.of_owns (Has.nil w') hB ho;rw[hdl_refs h0]at hr;have hl:((hdl S).map (·.2)).length=(livingOf S S.length).length:=by rw[List.length_map,hdl_len]
 rw[hl];exact⟨ao,cap,l',rfl,hr,by simpa using T⟩
theorem tells_hlist (w:World)(p:Option Addr)(S:List HSlot)(hlen:S.length <= 4096)(hsm:∀s∈S,s.given<4294967295)(hP:Pointed w.heap.size w p S):Tells 82 83 p w ((hdl S).map (·.1)):=fun w' hk=>by
 refine(hList_any p S hlen hsm w' ((hP.below hk).more hk.size)).mono ?_;rintro e w2 ⟨v,rfl,ho,-,hB⟩;obtain⟨ao,cap,l',rfl,hr,T⟩:=Turn.of_owns (Has.nil w') hB ho;rw[hdl_list]at hr;have hl:((hdl S).map (·.1)).length=(livingOf S S.length).length:=by rw[List.length_map,hdl_len]
 rw[hl];exact⟨ao,cap,l',rfl,hr,by simpa using T⟩
def hSl (rs:List Nat):List HSlot:=rs.map (fun a=>⟨1,(a:Int)⟩)++List.replicate (64-rs.length) zeroHSlot
theorem hSl_len {rs:List Nat}(h:rs.length <= 64):(hSl rs).length=64:=by
 unfold hSl;rw[List.length_append,List.length_map,List.length_replicate];omega
theorem hSl_lo {rs:List Nat}{i a:Nat}(h:rs[i]?= some a):(hSl rs)[i]?= some ⟨1,(a:Int)⟩:=by
 unfold hSl;rw[List.getElem?_append_left (by rw[List.length_map];exact(List.getElem?_eq_some_iff.1 h).1),List.getElem?_map,h]
 rfl
theorem hSl_hi {rs:List Nat}{i:Nat}(h:rs.length <= i)(h2:i<64):(hSl rs)[i]?= some zeroHSlot:=by
 unfold hSl;rw[List.getElem?_append_right (by rw[List.length_map];exact h),List.length_map,List.getElem?_replicate,if_pos (by omega)]
theorem hSl_set {rs:List Nat}(h:rs.length<64)(a:Nat):(hSl rs).set rs.length ⟨1,(a:Int)⟩=hSl (rs++[a]):=by
 unfold hSl;rw[List.set_append_right _ _ (by rw[List.length_map];exact Nat.le_refl _),List.length_map,Nat.sub_self];obtain⟨n,hn⟩:∃n,64-rs.length=n+1:=⟨63-rs.length,by omega⟩;rw[hn,List.replicate_succ,List.set_cons_zero,List.map_append,List.length_append];rw[show 64-(rs.length+[a].length)=n by simp;omega];simp
theorem hSl_living {rs:List Nat}(h:rs.length <= 64)(h0:∀a∈rs,a≠0):∀k,k <= 64 -> livingOf (hSl rs) k=List.range (min k rs.length)
 | 0,_=>by simp[livingOf]
 | k+1,hk=>by
  have ih:=hSl_living h h0 k (by omega)
  by_cases hlt:k<rs.length
  · obtain⟨a,ha⟩:∃a,rs[k]?= some a:=⟨rs[k],List.getElem?_eq_getElem hlt⟩
    have hne:=h0 a (List.mem_of_getElem? ha);rw[livingOf_yes (hSl_lo ha) (by simp only;omega),ih,show min k rs.length=k by omega,show min (k+1) rs.length=k+1 by omega,List.range_succ]
  · rw[livingOf_no (hSl_hi (by omega) (by omega)) rfl,ih]
    congr 1
    omega
theorem hSl_hdl {rs:List Nat}(h:rs.length <= 64)(h0:∀a∈rs,a≠0):hdl (hSl rs)=rs.zipIdx.map fun x=>(4294967296+x.2,x.1):=by
 unfold hdl;rw[hSl_len h,hSl_living h h0 64 (Nat.le_refl _),show min 64 rs.length=rs.length by omega];refine List.ext_getElem? fun i=>?_;rw[List.getElem?_map,List.getElem?_map,List.getElem?_zipIdx]
 by_cases hlt:i<rs.length
 · obtain⟨a,ha⟩:∃a,rs[i]?= some a:=⟨rs[i],List.getElem?_eq_getElem hlt⟩
   rw[List.getElem?_range hlt,ha];simp only[Option.map_some,hAt,hSl_lo ha,Option.getD_some,Nat.zero_add];simp
 · rw[List.getElem?_eq_none (by rw[List.length_range];omega),List.getElem?_eq_none (l:=rs) (by omega)]
   rfl
theorem hSl_refs {rs:List Nat}(h:rs.length <= 64)(h0:∀a∈rs,a≠0):(hdl (hSl rs)).map (·.2)=rs:=by
 rw[hSl_hdl h h0,List.map_map];exact List.zipIdx_map_fst 0 rs
end
section
open Go Go.RowKit Go.IntWalk
theorem sknew (w:World):Calls prog 92 #[.int .i64 64] w fun e w'=>e=.returned (.tuple #[pt w.heap.size,.int .i64 0]) /\ Turn [] w [(w.heap.size,.cells #[.slice none 0 0,.slice none 0 0,.int .i64 64] 294)] w':=by
 have HT:=uh ((Turn.refl (Has.nil w)).alloc (.cells #[.slice none 0 0,.slice none 0 0,.int .i64 64] 294))
 go_enter func92,ntmps92
 go_wp2_with fail
 refine bodyPost_ret (results_tmp2 rfl _ _ _) rfl ?_;exact⟨rfl,HT.out⟩
theorem skpush {l L:List Blk}{w0:World}(w:World)(b:Nat)(aw:Option Addr)(cw:Nat)(ws:List Nat)(lw:List Blk)(hr:Row 47 1 aw ws.length cw (n64s ws) lw)(hl:ws.length<64)
  (T:Turn l w0 ((b,.cells #[.slice aw ws.length cw,.slice none 0 0,.int .i64 64] 294)::(lw++L)) w)(v:Nat):
  Calls prog 94 #[pt b,.int .u64 v] w fun e w'=>e=.returned (.int .i64 0) /\ ∃aw' cw' lw',Row 47 1 aw' (ws++[v]).length cw' (n64s (ws++[v])) lw' /\ Turn l w0 ((b,.cells #[.slice aw' (ws++[v]).length cw',.slice none 0 0,.int .i64 64] 294)::(lw'++L)) w':=by
 have q0:=T.cell1 0;have q2:=T.cell1 2;have f0:=T.free1 0;have HT:=uh T;have Hr:=uh hr;have hlz:¬(64:Int) <= (ws.length:Int):=by omega
 have hmax:ws.length+1 <= maxLen:=by unfold maxLen;omega
 clear T hr
 go_enter func94,ntmps94
 go_wp2_with fail
 go_quiet (fail)
 have T1:=HT.out.drewN nq;clear q0 q2 f0 HT;generalize w.drewN nq=w1 at*;have q0:=T1.cell1 0;have HT:=uh T1;clear T1
 go_wp2_with (first
  | (at_builtin;have T6:=uh ((HT.out.alloc (.cells #[.int .u64 v] 47)).perm (l2:=lw++((w1.heap.size,.cells #[.int .u64 v] 47)::(b,.cells #[.slice aw ws.length cw,.slice none 0 0,.int .i64 64] 294)::L)) po);refine wpList_append_row rfl _ _ rfl el_u64 rfl Hr.out (R:=(w1.heap.size,.cells #[.int .u64 v] 47)::(b,.cells #[.slice aw ws.length cw,.slice none 0 0,.int .i64 64] 294)::L) T6.out.has rfl (news:=[.int .u64 v]) rfl (news_of (heap_alloc_new _ _)) (by simp[Value.oneCell']) hmax (by omega) ?_;intro a9 p9 l9 w2 hr2 V hno;have T7:=(T6.out.trans V).perm (l2:=(b,.cells #[.slice aw ws.length cw,.slice none 0 0,.int .i64 64] 294)::(l9++((w1.heap.size,.cells #[.int .u64 v] 47)::L))) po;have q5:=T7.cell1 0;have f5:=T7.free1 0;have HT7:=uh (T7.setCell 0 (.slice a9 (ws.length+1) p9));have Hr2:=uh hr2;clear T6 V hno T7 q0 hr2)
  | fail)
 go_ret;have hl1:(ws++[v]).length=ws.length+1:=by simp
 have hn1:n64s (ws++[v])=n64s ws++[.int .u64 v]:=by simp[n64s]
 refine⟨rfl,a9,p9,l9,by rw[hl1,hn1];exact Hr2.out,?_⟩;rw[hl1];exact HT7.out.sub (by simp)
def atsOf (cs:List Ce):List Nat:=(objs cs).map (·.1)
def wordOf (at_:List Nat)(v:Nat):Nat:=if v<64 /\ at_≠[]then 1048576+2*at_.getD (v%at_.length) 0 else v
theorem atsOf_next {cs:List Ce}{j:Nat}{c:Ce}(hc:cs[j]?= some c):atsOf (cs.take (j+1))=atsOf (cs.take j)++if isObj c=true then [c.1]else []:=by
 unfold atsOf;rw[objs_snoc hc,List.map_append]
 split<;>rfl
theorem atsOf_le (cs:List Ce)(j:Nat):(atsOf (cs.take j)).length <= j:=by
 unfold atsOf objs;rw[List.length_map];refine Nat.le_trans (List.length_filter_le ..) ?_;rw[List.length_take];omega
theorem words19 (w:World)(cs:List Ce)(la xa:Option Addr)(lc xc:Nat)(xs:List Nat)(hS:Src w la cs.length lc 5 (ces cs))(hX:Src w xa xs.length xc 1 (n64s xs))(hcl:cs.length <= 32768)(hxl:xs.length <= 60)(hcg:∀c∈cs,c.1 <= 65536)(hx:∀x∈xs,x<18446744073709551616):
  Calls prog 91 #[.slice la cs.length lc,.slice xa xs.length xc] w fun e w'=>∃ao cap l,e=.returned (.slice ao xs.length cap) /\ Row 47 1 ao xs.length cap (n64s (xs.map (wordOf (atsOf cs)))) l /\ Turn [] w l w':=by
 have HS:=uh (fun w' (hk:Below w.heap.size w w')=>hS.below hk);have HX:=uh (fun w' (hk:Below w.heap.size w w')=>hX.below hk);have hT0:=uh (Turn.refl (Has.nil w));have Hcg:=uh hcg;have Hx:=uh hx;clear hS hX hcg hx
 go_enter func91,ntmps91
 go_wp2_with fail
 go_loopw [5,6] (fun v5 v6 wr=>∃(i:Nat) (a5:Option Addr) (p5:Nat) (lr lj:List Blk),i <= cs.length /\ v6=.int .i64 i /\ v5=.slice a5 (atsOf (cs.take i)).length p5 /\ Row 3 1 a5 (atsOf (cs.take i)).length p5 (nats (atsOf (cs.take i))) lr /\ Turn [] w (lr++lj) wr) (fun _ v6 _=>cs.length-(intOf v6).toNat)
 case atStart=>exact⟨0,none,0,[],[],Nat.zero_le _,by go_num,rfl,Row.nil _ _,hT0.out⟩
 case round=>
  clear hT0;obtain⟨i,a5,p5,lr,lj,hi,rfl,rfl,hr5,V⟩:=hrel;have Hr5:=uh hr5;have hle:=atsOf_le cs i
  by_cases hlt:i<cs.length
  · have hlt':(i:Int)<(cs.length:Int):=by omega
    obtain⟨c,hc⟩:∃c,cs[i]?= some c:=⟨cs[i],List.getElem?_eq_getElem hlt⟩;have hS8:=HS.out wr V.below;obtain⟨b,off,rfl,hcc⟩:=hS8.form (by rw[ces_length];omega);have hrg:wr.rangeAt b (off+i*5) [.int .i64 c.1,.int .u8 c.2.tag,.int .i64 c.2.typ,.int .i64 c.2.len,.int .i64 c.2.size]:=hS8.ce hc;have q0:=hrg 0 _ rfl;rw[Nat.add_zero]at q0;have q1:=hrg 1 _ rfl;have HN:=uh (atsOf_next hc);have HV:=uh V;clear V hr5 hS8 hcc hrg hc;generalize atsOf (cs.take i)=A at*
    by_cases ht:isObj c=true
    · have htz:(((c.2.tag:Nat):Int) == 1)=true:=by rw[isObj_iff]at ht;simp[ht]
      have h63:A.length+1 <= maxLen:=(by unfold maxLen;omega);rw[if_pos ht]at HN;clear ht
      go_wp2_with (first
       | (at_builtin;have T6:=uh (HV.out.alloc (.cells #[.int .i64 c.1] 3));refine wpList_append_row rfl _ _ rfl el_int rfl Hr5.out (R:=(wr.heap.size,.cells #[.int .i64 c.1] 3)::lj) (T6.out.perm po).has rfl (news:=[.int .i64 c.1]) rfl (news_of (heap_alloc_new _ _)) (by simp[Value.oneCell']) h63 (by omega) ?_;intro a9 p9 l9 w8 hr9 V9 hno;have HV9:=uh ((T6.out.perm po).trans V9);have Hr9:=uh hr9;clear V9 hr9 hno)
       | fail)
      go_roundw
      case rel=>
       have hl1:(atsOf (cs.take (i+1))).length=A.length+1:=(by rw[HN.out];simp);exact⟨i+1,a9,p9,l9,_::lj,by omega,by go_num,by rw[hl1],by rw[hl1,HN.out,nats_append];exact Hr9.out,HV9.out⟩
      case measure=>simp[intOf];omega
    · have htz:(((c.2.tag:Nat):Int) == 1)=false:=by rw[isObj_iff]at ht;simp;omega
      rw[if_neg ht,List.append_nil]at HN;clear ht
      go_wp2_with fail
      go_roundw
      case rel=>exact⟨i+1,a5,p5,lr,lj,by omega,by go_num,by rw[HN.out],by rw[HN.out];exact Hr5.out,HV.out⟩
      case measure=>simp[intOf];omega
  · obtain rfl:i=cs.length:=by omega
    have hnl:¬((cs.length:Nat):Int)<(cs.length:Int):=(by omega);rw[List.take_length]at hr5 hle;clear Hr5;have Hr5:=uh hr5;have HV:=uh V;clear V hr5;rw[List.take_length];have Hag:=uh (fun(g:Nat) (hg:g∈atsOf cs)=>(by obtain⟨c,hc,rfl⟩:=List.mem_map.1 hg;exact Hcg.out c (objs_mem hc).1:g <= 65536));generalize hAe:atsOf cs=A at*;have HAe:=uh hAe;clear hAe
    go_wp2_with fail
    have Hal:=atsOf_le cs cs.length;rw[List.take_length]at Hal
    go_loopw [7,8] (fun v7 v8 wr=>∃(i:Nat) (a7:Option Addr) (p7:Nat) (lr7 lj:List Blk),i <= xs.length /\ v8=.int .i64 i /\ v7=.slice a7 i p7 /\ Row 47 1 a7 i p7 (n64s ((xs.take i).map (wordOf A))) lr7 /\ Turn [] w (lr7++(lj++lr)) wr) (fun _ v8 _=>xs.length-(intOf v8).toNat)
    case atStart=>exact⟨0,none,0,[],lj,Nat.zero_le _,by go_num,rfl,Row.nil _ _,HV.out.perm po⟩
    case round=>
     clear HV;obtain⟨i,a7,p7,lr7,lj,hi,rfl,rfl,hr7,V⟩:=hrel;have Hr7:=uh hr7
     by_cases hlt:i<xs.length
     · have hlt':(i:Int)<(xs.length:Int):=by omega
       obtain⟨v,hv⟩:∃v,xs[i]?= some v:=⟨xs[i],List.getElem?_eq_getElem hlt⟩;have hv64:=Hx.out v (List.mem_of_getElem? hv);obtain⟨bx,offx,rfl,hcx⟩:=(HX.out wr V.below).form (by rw[n64s_length];omega);have q0:=hcx i _ (n64s_at hv);have h63:i+1 <= maxLen:=(by unfold maxLen;omega);have hsn:n64s ((xs.take (i+1)).map (wordOf A))=n64s ((xs.take i).map (wordOf A))++[.int .u64 (wordOf A v:Nat)]:=by rw[List.take_add_one,hv];simp[n64s]
       by_cases hb:v<64 /\ A≠[]
       · obtain⟨hb1,hb2⟩:=hb
         have hbz:(v:Int)<64:=(by omega);have hA0:0<A.length:=List.length_pos_iff.2 hb2;have hAz:(0:Int)<(A.length:Int):=(by omega);have hjl:v%A.length<A.length:=Nat.mod_lt _ hA0;obtain⟨g,hg⟩:∃g,A[v%A.length]?= some g:=⟨A[v%A.length],List.getElem?_eq_getElem hjl⟩;obtain⟨ba,offa,rfl,hca⟩:=(Hr5.out.src (V.has.perm (l':=lr++(lr7++lj)) po)).form (by rw[nats_length];omega);have q1:=hca (v%A.length) _ (nats_at hg);have hwo:wordOf A v=1048576+2*g:=(by unfold wordOf;rw[if_pos ⟨hb1,hb2⟩,List.getD_eq_getElem?_getD,hg];rfl);have hcv:IntKind.i64.wrap (v:Int)=(v:Int):=(by rw[IntKind.wrap_i64];omega);have HSn:=uh hsn;obtain⟨z,hz⟩:∃z,1048576+2*g=z:=⟨_,rfl⟩;have ha:=addr8 wr g (Hag.out g (List.mem_of_getElem? hg));rw[hz]at ha hwo;have Ha:=uh ha;have HWo:=uh hwo;have HV:=uh V;clear ha hz V hr7 hcx hca hsn hwo hv hg
         go_wp2_with fail
         refine Ha.out.mono ?_;rintro e w' ⟨rfl,hw⟩;rw[hw];clear hw w' Ha
         go_wp2_with (first
          | (at_builtin;have T6:=uh (HV.out.alloc (.cells #[.int .u64 (z:Nat)] 47));refine wpList_append_row rfl _ _ rfl el_u64 rfl Hr7.out (R:=(wr.heap.size,.cells #[.int .u64 (z:Nat)] 47)::(lj++lr)) (T6.out.perm po).has rfl (news:=[.int .u64 (z:Nat)]) rfl (news_of (heap_alloc_new _ _)) (by simp[Value.oneCell']) h63 (by omega) ?_;intro a9 p9 l9 w8 hr9 V9 hno;have HV9:=uh ((T6.out.perm po).trans V9);have Hr9:=uh hr9;clear V9 hr9 hno)
          | fail)
         go_roundw
         case rel=>exact⟨i+1,a9,p9,l9,_::lj,by omega,by go_num,rfl,by rw[HSn.out,HWo.out];exact Hr9.out,HV9.out⟩
         case measure=>simp[intOf];omega
       · have HSn:=uh hsn
         have hwo:wordOf A v=v:=(by unfold wordOf;rw[if_neg hb]);have HWo:=uh hwo;have HV:=uh V;clear hr7 hcx hsn hwo hv V
         by_cases hb1:v<64
         · have hA:A=[]:=Decidable.byContradiction fun h=>hb ⟨hb1,h⟩
           have hAz:¬(0:Int)<(A.length:Int):=(by rw[hA];simp);have hbz:(v:Int)<64:=(by omega);clear hA hb
           go_wp2_with (first
            | (at_builtin;have T6:=uh (HV.out.alloc (.cells #[.int .u64 (v:Nat)] 47));refine wpList_append_row rfl _ _ rfl el_u64 rfl Hr7.out (R:=(wr.heap.size,.cells #[.int .u64 (v:Nat)] 47)::(lj++lr)) (T6.out.perm po).has rfl (news:=[.int .u64 (v:Nat)]) rfl (news_of (heap_alloc_new _ _)) (by simp[Value.oneCell']) h63 (by omega) ?_;intro a9 p9 l9 w8 hr9 V9 hno;have HV9:=uh ((T6.out.perm po).trans V9);have Hr9:=uh hr9;clear V9 hr9 hno)
            | fail)
           go_roundw
           case rel=>exact⟨i+1,a9,p9,l9,_::lj,by omega,by go_num,rfl,by rw[HSn.out,HWo.out];exact Hr9.out,HV9.out⟩
           case measure=>simp[intOf];omega
         · have hbz:¬(v:Int)<64:=by omega
           clear hb
           go_wp2_with (first
            | (at_builtin;have T6:=uh (HV.out.alloc (.cells #[.int .u64 (v:Nat)] 47));refine wpList_append_row rfl _ _ rfl el_u64 rfl Hr7.out (R:=(wr.heap.size,.cells #[.int .u64 (v:Nat)] 47)::(lj++lr)) (T6.out.perm po).has rfl (news:=[.int .u64 (v:Nat)]) rfl (news_of (heap_alloc_new _ _)) (by simp[Value.oneCell']) h63 (by omega) ?_;intro a9 p9 l9 w8 hr9 V9 hno;have HV9:=uh ((T6.out.perm po).trans V9);have Hr9:=uh hr9;clear V9 hr9 hno)
            | fail)
           go_roundw
           case rel=>exact⟨i+1,a9,p9,l9,_::lj,by omega,by go_num,rfl,by rw[HSn.out,HWo.out];exact Hr9.out,HV9.out⟩
           case measure=>simp[intOf];omega
     · obtain rfl:i=xs.length:=by omega
       have hnl2:¬((xs.length:Nat):Int)<(xs.length:Int):=(by omega);rw[List.take_length]at hr7;clear Hr7;have Hr7:=uh hr7;have HV:=uh V;clear V hr7
       go_wp2_with fail
       go_ret;exact⟨a7,p7,rfl,lr7,by rw[HAe.out];exact Hr7.out,HV.out.sub (List.sublist_append_left ..)⟩
theorem same64 (w:World)(la lb:List Nat)(ao:Option Addr)(acap:Nat)(bo:Option Addr)(bcap:Nat)(hA:Src w ao la.length acap 1 (n64s la))(hB:Src w bo lb.length bcap 1 (n64s lb))(hl:la.length <= 65536)(_hl2:lb.length <= 65536):
  Calls prog 95 #[.slice ao la.length acap,.slice bo lb.length bcap] w fun e w'=>e=.returned (.bool (decide (la=lb))) /\ Below w.heap.size w w':=by
 have HA:=uh (fun(h:0<la.length)=>hA.form (by rw[n64s_length];exact h));have HB:=uh (fun(h:0<lb.length)=>hB.form (by rw[n64s_length];exact h));have hT:=uh (Turn.refl (Has.nil w));clear hA hB
 by_cases hlen:la.length=lb.length
 · have Hiff:=uh (same_at hlen)
   have HL:=uh hlen;have k1:((la.length:Int) != (lb.length:Int))=false:=(by rw[bne_eq_false_iff_eq];omega);have k2:(la.length != lb.length)=false:=(by rw[bne_eq_false_iff_eq];exact hlen);clear hlen
   go_enter func95,ntmps95
   go_wp2_with fail
   go_loopw [5] (fun v5 wr=>∃i:Nat,i <= la.length /\ v5=.int .i64 i /\ (∀j,j<i -> la[j]?= lb[j]?) /\ Turn [] w [] wr) (fun v5 _=>la.length-(intOf v5).toNat)
   case atStart=>exact⟨0,Nat.zero_le _,by go_num,(fun j hj=>absurd hj (Nat.not_lt_zero _)),hT.out⟩
   case round=>
    obtain⟨i,hi,rfl,heq,T⟩:=hrel;have hll:=HL.out
    by_cases hlt:i<la.length
    · have hlt':(i:Int)<(la.length:Int):=by omega
      have hlt2:(i:Int)<(lb.length:Int):=(by omega);obtain⟨v,hv⟩:∃v,la[i]?= some v:=⟨la[i],List.getElem?_eq_getElem hlt⟩;obtain⟨u,hu⟩:∃u,lb[i]?= some u:=⟨lb[i]'(by omega),List.getElem?_eq_getElem _⟩;obtain⟨b,off,rfl,hc⟩:=HA.out (by omega);obtain⟨b',off',rfl,hc'⟩:=HB.out (by omega);have q:=(T.below.cell (p:=⟨b,off+i,none⟩) (World.block_lt_of_cell? w _ (hc i _ (n64s_at hv)))).trans (hc i _ (n64s_at hv));have q':=(T.below.cell (p:=⟨b',off'+i,none⟩) (World.block_lt_of_cell? w _ (hc' i _ (n64s_at hu)))).trans (hc' i _ (n64s_at hu));have HT:=uh T;have HE:=uh heq;have HV:=uh hv;have HU:=uh hu;clear T heq hc hc' hll hv hu
      by_cases huv:v=u
      · have k3:((v:Int) != (u:Int))=false:=by rw[bne_eq_false_iff_eq];omega
        have k4:(v != u)=false:=by rw[bne_eq_false_iff_eq];exact huv
        go_upto_region 6 with fail
        go_quiet (fail)
        clear q q'
        go_wp2_with fail
        go_roundw
        case rel=>exact⟨i+1,by omega,by go_num,(fun j hj=>by
         by_cases h:j<i
         ·exact HE.out j h
         ·rw[show j=i by omega,HV.out,HU.out,huv]),HT.out.drewN _⟩
        case measure=>simp[intOf];omega
      · have k3:((v:Int) != (u:Int))=true:=by rw[bne_iff_ne];omega
        have k4:(v != u)=true:=by rw[bne_iff_ne];exact huv
        have hne:¬la=lb:=fun h=>by
         have h1:=HV.out;rw[h,HU.out]at h1
         cases h1
         exact huv rfl
        go_upto_region 6 with fail
        go_quiet (fail)
        clear q q'
        go_wp2_with fail
        go_ret;exact⟨by rw[decide_eq_false hne];rfl,(HT.out.drewN _).below⟩
    · obtain rfl:i=la.length:=by omega
      have hnl:¬((la.length:Nat):Int)<(la.length:Int):=(by omega);have he:=uh (show la=lb from Hiff.out.2 heq);have HT:=uh T;clear T heq
      go_wp2_with fail
      go_ret;exact⟨by rw[decide_eq_true he.out];rfl,HT.out.below⟩
 · have k1:((la.length:Int) != (lb.length:Int))=true:=by rw[bne_iff_ne];omega
   have k2:(la.length != lb.length)=true:=(by rw[bne_iff_ne];exact hlen);have hne:¬la=lb:=fun h=>hlen (by rw[h]);clear hlen
   go_enter func95,ntmps95
   go_wp2_with fail
   go_ret;exact⟨by rw[decide_eq_false hne];rfl,hT.out.below⟩
end
section
open Go Go.RowKit
theorem lens_mem {N:Nat}:∀{ss:List Stp},lens ss <= N -> ∀s∈ss,s.ats.length <= N
 | a::l,h,s,hs=>by
  have h1:lens (a::l)=a.ats.length+lens l:=by simp[lens]
  rcases List.mem_cons.1 hs with rfl|hs
  ·omega
  ·exact lens_mem (by omega) s hs
theorem played_all (w:World)(hF:Fields w)(L:List Ty)(lao:Option Addr)(lcap:Nat)(hS:Src w lao L.length lcap 3 (tys L))(hTy:∀t∈L,TyIn t)(n:Int)
  (sao:Option Addr)(scap:Nat)(ss:List Stp)(hSt:Src w sao ss.length scap 6 (sts ss))(hin:∀s∈ss,s.w<18446744073709551616 /\ Src w s.ao s.ats.length s.cap 1 (ints s.ats) /\ s.ats.length <= 17592186044416)(hh:heavy n L.length ss=false):
  Calls prog 10 #[.int .i64 n,.slice lao L.length lcap,.slice sao ss.length scap] w fun e w'=>PlayEnd w w' L lao lcap e:=by
 unfold heavy at hh;simp only[Bool.or_eq_false_iff,Bool.and_eq_false_iff,decide_eq_false_iff_not]at hh;obtain⟨⟨⟨h1,h2⟩,h3⟩,h4⟩:=hh;have hL:L.length <= 1000:=by omega
 by_cases hok:(∀t∈L,t.may) /\ L.length <= 64
 · by_cases hn:mayWords n
   · obtain⟨k,rfl⟩:∃k:Nat,n=k:=⟨n.toNat,by have:=hn.1;omega⟩
     refine played_ok w hF L lao lcap hS hTy hL hok k hn (by have:=hn.2.1;omega) sao scap ss hSt (by omega) fun s hs=>?_;obtain⟨i1,i2,i3⟩:=hin s hs
     have h5:lens ss <= 300:=by
      rw[List.take_of_length_le (by omega)]at h4;omega
     exact⟨by have:=lens_mem h5 s hs;omega,i1,i2⟩
   ·exact played_no w n L lao lcap sao ss.length scap (uh (made_few w L lao lcap hS hTy hL hok n hn))
 ·exact played_no w n L lao lcap sao ss.length scap (uh (made_types w L lao lcap hS hTy hL hok n))
end
section
open Go Go.RowKit Go.IntWalk
def hvB (hv:Bool)(kn hn pn:Nat):Bool:=hv || (decide (60<kn) || (decide (60<hn) || decide (60<pn)))
theorem hvB_of {hv:Bool}{kn hn pn:Nat}(h:hvB hv kn hn pn=false):hv=false /\ kn <= 60 /\ hn <= 60 /\ pn <= 60:=by
 unfold hvB at h;simp at h;omega
theorem over60 (m:Nat):decide ((60:Int)<(m:Int))=decide (60<m):=by
 rw[decide_eq_decide];omega
theorem heavy19 (w:World)(n:Int)(lao sao ka ha pa:Option Addr)(ln lcap sn scap kn kc hn hc pn pc:Nat)(hv:Bool)(hH:∀w',Below w.heap.size w w' -> Calls prog 8 #[.int .i64 n,.slice lao ln lcap,.slice sao sn scap] w' fun e w2=>e=.returned (.bool hv) /\ w2=w'):
  Calls prog 26 #[.agg #[.int .i64 n,.slice lao ln lcap,.slice sao sn scap,.slice ka kn kc,.slice ha hn hc,.slice pa pn pc]] w fun e w'=>e=.returned (.bool (hvB hv kn hn pn)) /\ Below w.heap.size w w':=by
 have T0:=(Turn.refl (Has.nil w)).alloc (.cells #[.int .i64 n,.slice lao ln lcap,.slice sao sn scap,.slice ka kn kc,.slice ha hn hc,.slice pa pn pc] 63);have HT:=uh T0;have HH:=uh (hH _ T0.below);clear T0 hH
 go_enter func26,ntmps26
 go_wp2_with (first
  | (go_at_call 8;refine HH.out.mono ?_;rintro e w' ⟨rfl,hw⟩;rw[hw];clear hw w')
  | fail)
 all_goals go_ret
 all_goals refine⟨?_,HT.out.below⟩
 all_goals (show Ending.returned (Value.bool _)=Ending.returned (Value.bool _);congr 2;unfold hvB;simp_all[over60,Bool.or_assoc]<;>omega)
theorem hAdd_zero (w:World)(b:Nat):Calls prog 31 #[pt b,.int .u64 0] w fun e w'=>e=.returned (.tuple #[.int .u64 0,.int .i64 2]) /\ w'=w:=by
 go_enter func31,ntmps31
 go_wp2_with fail
 refine bodyPost_ret (results_tmp2 rfl _ _ _) rfl ?_;exact⟨rfl,rfl⟩
theorem ppin_zero (w:World)(b:Nat):Calls prog 33 #[pt b,.int .u64 0] w fun e w'=>e=.returned (.int .i64 2) /\ w'=w:=by
 go_enter func33,ntmps33
 go_wp2_with fail
 go_ret;exact⟨rfl,rfl⟩
structure PinsOk (m:List (Int×Value))(ps:List Nat):Prop where
 len:m.length <= ps.length
 vals:∀p∈m,∃c:Nat,p.2=.int .i64 c /\ 1 <= c /\ c <= ps.length
 keys:∀p∈m,0 <= p.1 /\ p.1<18446744073709551616
 mem:∀x:Nat,(x:Int)∈m.map (·.1)↔x∈ps
theorem PinsOk.nil:PinsOk [] []:=⟨Nat.le_refl _,(fun _ h=>by cases h),(fun _ h=>by cases h),fun _=>by simp⟩
theorem mput_mem {k:Int}{v:Value}:∀{m:List (Int×Value)} {p:Int×Value},p∈mput m k v -> p=(k,v)∨p∈m
 | [],p,h=>.inl (List.mem_singleton.1 h)
 | q::m,p,h=>by
  rw[mput]at h
  by_cases hk:k=q.1
  · rw[if_pos hk]at h
    rcases List.mem_cons.1 h with h|h
    ·exact .inl h
    ·exact .inr (List.mem_cons_of_mem _ h)
  · rw[if_neg hk]at h
    rcases List.mem_cons.1 h with h|h
    ·exact .inr (by rw[h];exact List.mem_cons_self ..)
    ·exact(mput_mem h).imp id (List.mem_cons_of_mem _)
theorem mput_len (k:Int)(v:Value):∀m:List (Int×Value),(mput m k v).length <= m.length+1
 | []=>Nat.le_refl _
 | q::m=>by
  rw[mput]
  split
  ·simp
  · have:=mput_len k v m
    simp only[List.length_cons];omega
theorem mput_keys (k:Int)(v:Value)(x:Int):∀m:List (Int×Value),x∈(mput m k v).map (·.1)↔x=k∨x∈m.map (·.1)
 | []=>by simp[mput]
 | q::m=>by
  rw[mput]
  by_cases hk:k=q.1
  · rw[if_pos hk,List.map_cons,List.map_cons,List.mem_cons,List.mem_cons,←hk]
    constructor
    · rintro(h|h)
      ·exact .inl h
      ·exact .inr (.inr h)
    · rintro(h|h|h)
      ·exact .inl h
      ·exact .inl h
      ·exact .inr h
  · rw[if_neg hk,List.map_cons,List.map_cons,List.mem_cons,List.mem_cons,mput_keys k v x m]
    constructor
    · rintro(h|h|h)
      ·exact .inr (.inl h)
      ·exact .inl h
      ·exact .inr (.inr h)
    · rintro(h|h|h)
      ·exact .inr (.inl h)
      ·exact .inl h
      ·exact .inr (.inr h)
theorem PinsOk.put {m:List (Int×Value)}{ps:List Nat}(h:PinsOk m ps){k c:Nat}(hk:k<18446744073709551616)(h1:1 <= c)(h2:mget m k=none -> c=1)(h3:∀d:Nat,mget m k=some (.int .i64 d) -> c=d+1):PinsOk (mput m k (.int .i64 c)) (ps++[k]):=by
 have hc:c <= ps.length+1:=by
  cases hg:mget m (k:Int)with
  | none=>have:=h2 hg;omega
  | some v=>
   obtain⟨d,rfl,-,h5⟩:=h.vals _ (mget_mem hg);have:=h3 d hg;omega
 refine⟨?_,fun p hp=>?_,fun p hp=>?_,fun x=>?_⟩
 · have:=mput_len k (.int .i64 c) m
   have:=h.len;rw[List.length_append,List.length_singleton];omega
 · rw[List.length_append,List.length_singleton]
   rcases mput_mem hp with rfl|hp
   ·exact⟨c,rfl,h1,hc⟩
   · obtain⟨d,h4,h5,h6⟩:=h.vals p hp
     exact⟨d,h4,h5,by omega⟩
 · rcases mput_mem hp with rfl|hp
   ·exact⟨Int.natCast_nonneg _,by simp only;omega⟩
   ·exact h.keys p hp
 · rw[mput_keys,h.mem,List.mem_append,List.mem_singleton]
   constructor
   · rintro(h|h)
     ·exact .inr (by omega)
     ·exact .inl h
   · rintro(h|h)
     ·exact .inr h
     ·exact .inl (by omega)
theorem PinsOk.pv {m:List (Int×Value)}{ps:List Nat}(h:PinsOk m ps)(hl:ps.length <= 200):PinVals m:=fun p hp=>by
 obtain⟨c,h1,h2,h3⟩:=h.vals p hp;exact⟨c,h1,h2,by omega⟩
theorem PinsOk.list {m:List (Int×Value)}{ps:List Nat}(h:PinsOk m ps)(hl:ps.length <= 200)(hn:(m.map (·.1)).Nodup):∃ys,PinList m ys /\ ∀x,x∈ys↔x∈ps:=by
 have:=h.len;obtain⟨ys,hy⟩:=PinList.some hn (fun p hp=>(h.keys p hp).1) (by omega);exact⟨ys,hy,fun x=>(hy.2.2.2 x).trans (h.mem x)⟩
theorem wordOf_lt {A:List Nat}(hA:∀g∈A,g <= 65536){v:Nat}(hv:v<18446744073709551616):wordOf A v<18446744073709551616:=by
 unfold wordOf
 split
 · have:A.getD (v%A.length) 0 <= 65536:=by
     rw[List.getD_eq_getElem?_getD]
     cases h:A[v%A.length]? with
     | none=>simp
     | some g=>exact hA g (List.mem_of_getElem? h)
   omega
 ·exact hv
def kept0 (l:List Nat):List Nat:=l.filter fun v=>v != 0
theorem kept0_zero {l:List Nat}{i:Nat}(h:l[i]?= some 0):kept0 (l.take (i+1))=kept0 (l.take i):=by
 unfold kept0;rw[List.take_add_one,h,List.filter_append];simp
theorem kept0_more {l:List Nat}{i v:Nat}(h:l[i]?= some v)(hv:v≠0):kept0 (l.take (i+1))=kept0 (l.take i)++[v]:=by
 unfold kept0;rw[List.take_add_one,h,List.filter_append];simp[hv]
theorem kept0_len (l:List Nat)(i:Nat):(kept0 (l.take i)).length <= i:=by
 unfold kept0;refine Nat.le_trans (List.length_filter_le ..) ?_;rw[List.length_take];omega
theorem kept0_ne {l:List Nat}:∀v∈kept0 l,v≠0 /\ v∈l:=fun v hv=>by
 obtain⟨h1,h2⟩:=List.mem_filter.1 hv;exact⟨by simpa using h2,h1⟩
def HeldAt (w1 w:World)(xb sb tb rb hb pb mb:Nat)(lao:Option Addr)(lcap:Nat)(L:List Ty)(W B:List Nat)(cs:List Ce)(rs ps:List Nat)(m:List (Int×Value)):Prop:=
 ∃(c2 vw:Value) (la ra pa:Option Addr) (lc rc pc:Nat) (lh lL lR lP ls lr:List Blk) (om:Obj),SpIs sb tb W B ls /\ RefIs rb lao L.length lcap W lr /\ HandsIs hb (hSl rs) lh /\ MapSt .u64 m om /\
  Row 81 5 la cs.length lc (ces cs) lL /\ Row 47 1 ra rs.length rc (n64s rs) lR /\ Row 47 1 pa ps.length pc (n64s ps) lP /\
  Turn [] w1 ((xb,.cells #[pt sb,pt rb,c2,pt hb,pt pb,.slice la cs.length lc,vw,.slice ra rs.length rc,.slice pa ps.length pc] 77)::(lh++((mb,om)::(pb,.cells #[.map (some mb)] 195)::(lL++(lR++(lP++(ls++lr))))))) w
def MadeEnd (w w':World)(L:List Ty)(lao:Option Addr)(lcap:Nat)(e:Ending):Prop:=
 (e=.returned (.tuple #[.pointer none,.bool true]) /\ Below w.heap.size w w')∨
 ∃(xb sb tb rb hb pb mb:Nat) (w1:World) (W B:List Nat) (cs:List Ce) (rs ps:List Nat) (m:List (Int×Value)),e=.returned (.tuple #[pt xb,.bool true]) /\ Below w.heap.size w w1 /\ PlBase w1 tb L lao lcap /\ Pl L W B cs /\
  rs.length <= 60 /\ (∀v∈rs,v≠0 /\ v<18446744073709551616) /\ ps.length <= 60 /\ (∀v∈ps,v≠0 /\ v<18446744073709551616) /\ PinsOk m ps /\ HeldAt w1 w' xb sb tb rb hb pb mb lao lcap L W B cs rs ps m
theorem cs_small {L:List Ty}{W B:List Nat}{cs:List Ce}(h:Pl L W B cs):cs.length <= 32768 /\ ∀c∈cs,c.1 <= 65536:=by
 have h1:=h.good.chain.len;have h2:=h.good.small;exact⟨by omega,fun c hc=>by have:=(h.good.chain.mem c hc).2.1;omega⟩
theorem n64s_more (l:List Nat)(v:Nat):n64s (l++[v])=n64s l++[.int .u64 (v:Nat)]:=by simp[n64s]
theorem Src.cell64 {w:World}{b off n cap:Nat}{xs:List Nat}(h:Src w (some ⟨b,off,none⟩) n cap 1 (n64s xs)){i x:Nat}(hx:xs[i]?= some x):w.cell? ⟨b,off+i,none⟩=some (.int .u64 (x:Nat)):=by
 obtain⟨b',off',he,hc⟩:=h.form (by rw[n64s_length];have:=(List.getElem?_eq_some_iff.1 hx).1;omega)
 cases he
 exact hc i _ (n64s_at hx)
theorem made19 (w:World)(n:Int)(L:List Ty)(lao:Option Addr)(lcap:Nat)(sao ka ha pa:Option Addr)(sl scap kc hc pc:Nat)(kl hl pl:List Nat)
  (hP:∀w',Below w.heap.size w w' -> Calls prog 10 #[.int .i64 n,.slice lao L.length lcap,.slice sao sl scap] w' fun e w2=>PlayEnd w' w2 L lao lcap e)
  (hK:Src w ka kl.length kc 1 (n64s kl))(hH:Src w ha hl.length hc 1 (n64s hl))(hN:Src w pa pl.length pc 1 (n64s pl))(hk6:kl.length <= 60)(hh6:hl.length <= 60)(hp6:pl.length <= 60)
  (hku:∀v∈kl,v<18446744073709551616)(hhu:∀v∈hl,v<18446744073709551616)(hpu:∀v∈pl,v<18446744073709551616):
  Calls prog 27 #[.agg #[.int .i64 n,.slice lao L.length lcap,.slice sao sl scap,.slice ka kl.length kc,.slice ha hl.length hc,.slice pa pl.length pc]] w fun e w'=>MadeEnd w w' L lao lcap e:=by
 have T0:=(Turn.refl (Has.nil w)).alloc (.cells #[.int .i64 n,.slice lao L.length lcap,.slice sao sl scap,.slice ka kl.length kc,.slice ha hl.length hc,.slice pa pl.length pc] 63);have HB0:=uh T0.below;have HP:=uh (hP _ T0.below)
 have HCl:=uh (fun u (hB:Below (w.alloc (.cells #[.int .i64 n,.slice lao L.length lcap,.slice sao sl scap,.slice ka kl.length kc,.slice ha hl.length hc,.slice pa pl.length pc] 63)).heap.size (w.alloc (.cells #[.int .i64 n,.slice lao L.length lcap,.slice sao sl scap,.slice ka kl.length kc,.slice ha hl.length hc,.slice pa pl.length pc] 63)) u) (i:Nat) (v:Value) (hi:(#[.int .i64 n,.slice lao L.length lcap,.slice sao sl scap,.slice ka kl.length kc,.slice ha hl.length hc,.slice pa pl.length pc]:Array Value)[i]?= some v)=>(by
  have h1:=(T0.cell1 i).trans hi;exact(hB.cell (p:=⟨w.heap.size,i,none⟩) (World.block_lt_of_cell? _ _ h1)).trans h1:u.cell? ⟨w.heap.size,i,none⟩=some v))
 have HKw:=uh (fun u (hB:Below w.heap.size w u)=>hK.below hB);have HHw:=uh (fun u (hB:Below w.heap.size w u)=>hH.below hB);have HNw:=uh (fun u (hB:Below w.heap.size w u)=>hN.below hB);have Hku:=uh hku;have Hhu:=uh hhu;have Hpu:=uh hpu;clear hP hK hH hN hku hhu hpu T0
 go_enter func27,ntmps27
 go_wp2_with fail
 refine HP.out.mono ?_;rintro e w2 (⟨rfl,hB⟩|⟨sb,rb,tb,w1,W,B,cs,rfl,hB1,hb,hpl,hat⟩)
 · have HB:=uh (HB0.out.trans (hB.mono HB0.out.size))
   clear hB HP HCl
   go_wp2_with fail
   refine bodyPost_ret (results_tmp2 rfl _ _ _) rfl ?_;exact .inl ⟨rfl,HB.out⟩
 · have HAll:=uh (all_at w2 hb hpl hat)
   have Hpl:=uh hpl;have Hb:=uh hb;have HB1:=uh hB1;clear hat hpl hb hB1 HP
   go_wp2_with fail
   refine HAll.out.mono ?_;rintro e w3 ⟨la,lc,lL,rfl,hrL,hat⟩;have HB3:=uh (HB1.out.trans (hat.below.mono HB1.out.size));have HL:=uh (fun u l (V:Turn [] w3 l u)=>((by obtain⟨ls,lr,-,-,-,T⟩:=hat;exact hrL.src (R:=ls++lr) (T.has.perm po)):Src w3 la cs.length lc 5 (ces cs)).below V.below);have HC:=uh (fun u l (V:Turn [] w3 l u) i v hi=>HCl.out u (HB3.out.trans (V.below.mono HB3.out.size)) i v hi);have HWu:=uh (fun u l (V:Turn [] w3 l u)=>(HB0.out.trans (HB3.out.mono HB0.out.size)).trans (V.below.mono (HB0.out.trans (HB3.out.mono HB0.out.size)).size));have Hat:=uh (And.intro hrL hat);obtain⟨hcl,hcg⟩:=cs_small Hpl.out;have Hcg:=uh hcg;have V0:=(Turn.refl (Has.nil w3)).alloc (.cells #[pt sb,pt rb,.pointer none,.pointer none,.pointer none,.slice la cs.length lc,.slice none 0 0,.slice none 0 0,.slice none 0 0] 77);clear hrL hat HAll hcg HCl
   go_upto_region 5 with fail
   obtain⟨xb,hxb⟩:∃xb,w3.heap.size=xb:=⟨_,rfl⟩;rw[hxb]at V0 ⊢;clear hxb;generalize w3.alloc (.cells #[pt sb,pt rb,.pointer none,.pointer none,.pointer none,.slice la cs.length lc,.slice none 0 0,.slice none 0 0,.slice none 0 0] 77)=w4 at*;have hS0:w4.drew.cell? ⟨xb,5,none⟩=some (.slice la cs.length lc) /\ w4.drew.cell? ⟨w.heap.size,3,none⟩=some (.slice ka kl.length kc):=⟨V0.drew.cell1 5,HC.out _ _ V0.drew 3 _ rfl⟩;have HV:=uh V0.drew;clear V0;refine wp_region_noPanic ?_;refine wp_region_listed (S:=fun u=>u.cell? ⟨xb,5,none⟩=some (.slice la cs.length lc) /\ u.cell? ⟨w.heap.size,3,none⟩=some (.slice ka kl.length kc)) 11 [false,false,false,false,false,false,false,false,false,false,false] rfl rfl (by kernel_rfl) ?_;generalize w4.drew=u0 at*;refine tkA 0 44 hS0 ?_;refine tkA 1 45 hS0 ?_;refine tkA 2 46 hS0 ?_;refine tkA 3 47 hS0 ?_;refine tkB 4 48 hS0 (fun w hSw=>hSw.1) ?_;refine tkA 5 49 hS0 ?_;refine tkB 6 50 hS0 (fun w hSw=>hSw.2) ?_;refine rdyA 7 (fun K hK=>?_)
   go_simp
   refine(words19 u0 cs la ka lc kc kl (HL.out _ _ HV.out) (HKw.out _ (HWu.out _ _ HV.out)) hcl hk6 Hcg.out Hku.out).mono ?_;rintro e u1 ⟨wa,wc,lW,rfl,hrW,TW⟩;have hS1:=And.intro ((TW.below.cell (p:=⟨xb,5,none⟩) (World.block_lt_of_cell? _ _ hS0.1)).trans hS0.1) ((TW.below.cell (p:=⟨w.heap.size,3,none⟩) (World.block_lt_of_cell? _ _ hS0.2)).trans hS0.2);have V1:=HV.out.grow TW;have HrW:=uh hrW;clear hrW TW hS0 HV;refine hK.out _ _ hS1 fun _=>?_;clear hK K;simp only[st0,st1,st2];refine tkA 8 52 hS1 ?_;refine tkA 9 53 hS1 ?_;have V1:=V1.perm (l2:=(xb,.cells #[pt sb,pt rb,.pointer none,.pointer none,.pointer none,.slice la cs.length lc,.slice none 0 0,.slice none 0 0,.slice none 0 0] 77)::lW) po;have q6:u1.cell? ⟨xb,6,none⟩=some (.slice none 0 0):=V1.cell1 6;have f6:=V1.free1 6;have V2:=V1.setCell 6 (.slice wa kl.length wc);have hS2:=And.intro (V2.cell1 5) (HC.out _ _ V2 3 _ rfl);refine rdyA 10 (fun K hK=>?_)
   go_simp
   have HV:=uh V2;refine hK.out _ _ hS2 fun _=>?_;clear hK K hS1 hS2 V1 V2 q6 f6;simp only[st0,st1,st2];refine wpAnyH_done (by kernel_rfl) ?_ _;refine NoPanic.normal ?_;generalize u1.setCell ⟨xb,6,none⟩ (.slice wa kl.length wc)=u2 at*;have hwl:(kl.map (wordOf (atsOf cs))).length=kl.length:=List.length_map ..;have Hwu:=uh (fun(A:List Nat) (hA:A=atsOf cs) v (hv:v∈hl.map (wordOf A))=>(by obtain⟨x,hx,rfl⟩:=List.mem_map.1 hv;exact wordOf_lt (fun g hg=>by rw[hA]at hg;obtain⟨c,hc,rfl⟩:=List.mem_map.1 hg;exact Hcg.out c (objs_mem hc).1) (Hhu.out x hx):v<18446744073709551616));have Hpu2:=uh (fun(A:List Nat) (hA:A=atsOf cs) v (hv:v∈pl.map (wordOf A))=>(by obtain⟨x,hx,rfl⟩:=List.mem_map.1 hv;exact wordOf_lt (fun g hg=>by rw[hA]at hg;obtain⟨c,hc,rfl⟩:=List.mem_map.1 hg;exact Hcg.out c (objs_mem hc).1) (Hpu.out x hx):v<18446744073709551616))
   go_wp2_with fail
   refine(sknew u2).mono ?_;rintro e u3 ⟨rfl,TS⟩;have V3:=HV.out.grow TS;clear TS HV;generalize u2.heap.size=stb at*;have HV:=uh V3;clear V3
   go_wp2_with fail
   refine(hNew_any u3 64 (by omega) (R:=[]) (Has.nil u3)).mono ?_;rintro e u4 ⟨hb,lh,rfl,hHs,TH⟩;rw[List.append_nil]at TH;have V4:=HV.out.grow TH;have HHs:=uh hHs;clear TH HV hHs;have HV:=uh V4;clear V4
   go_wp2_with fail
   refine(pnew u4).mono ?_;rintro e u5 ⟨pb,mb,om,rfl,hms,TP⟩;have HV5:=uh ((HV.out.grow TP).perm (l2:=(stb,.cells #[.slice none 0 0,.slice none 0 0,.int .i64 64] 294)::([]++((xb,.cells #[pt sb,pt rb,.pointer none,.pointer none,.pointer none,.slice la cs.length lc,.slice wa kl.length wc,.slice none 0 0,.slice none 0 0] 77)::(lW++(lh++[(pb,.cells #[.map (some mb)] 195),(mb,om)]))))) po);have HMS:=uh hms;clear TP HV hms;obtain⟨ks,hks⟩:∃ks,ks=kl.map (wordOf (atsOf cs)):=⟨_,rfl⟩;obtain⟨hs,hhs⟩:∃hs,hs=hl.map (wordOf (atsOf cs)):=⟨_,rfl⟩;obtain⟨ps,hps⟩:∃ps,ps=pl.map (wordOf (atsOf cs)):=⟨_,rfl⟩;have hkl:ks.length=kl.length:=by rw[hks];exact List.length_map ..
   have hhl:hs.length=hl.length:=(by rw[hhs];exact List.length_map ..);have hpl:ps.length=pl.length:=(by rw[hps];exact List.length_map ..);rw[←hks]at HrW;have Hhs:=uh (And.intro hhs (Hwu.out _ rfl));have Hps:=uh (And.intro hps (Hpu2.out _ rfl));have Hkl:=uh (And.intro hkl (And.intro hhl hpl));obtain⟨RS,hRS⟩:∃RS,RS=(xb,.cells #[pt sb,pt rb,.pointer none,.pointer none,.pointer none,.slice la cs.length lc,.slice wa kl.length wc,.slice none 0 0,.slice none 0 0] 77)::(lW++(lh++[(pb,.cells #[.map (some mb)] 195),(mb,om)])):=⟨_,rfl⟩;rw[←hRS]at HV5;have HRS:=uh hRS;clear hwl Hwu Hpu2 hks hhs hps hRS hkl hhl hpl
   go_wp2_with fail
   go_loopw [13] (fun v13 wr=>∃(i cw:Nat) (aw:Option Addr) (lw:List Blk),i <= kl.length /\ v13=.int .i64 i /\ Row 47 1 aw (ks.take i).length cw (n64s (ks.take i)) lw /\ Turn [] w3 ((stb,.cells #[.slice aw (ks.take i).length cw,.slice none 0 0,.int .i64 64] 294)::(lw++RS)) wr) (fun v13 _=>kl.length-(intOf v13).toNat)
   case atStart=>exact⟨0,0,none,[],Nat.zero_le _,by go_num,Row.nil _ _,HV5.out⟩
   case round=>
    clear HV5;obtain⟨i,cw,aw,lw,hi,rfl,hr,V⟩:=hrel
    have VX:Turn [] w3 ((xb,.cells #[pt sb,pt rb,.pointer none,.pointer none,.pointer none,.slice la cs.length lc,.slice wa kl.length wc,.slice none 0 0,.slice none 0 0] 77)::(lW++((stb,.cells #[.slice aw (ks.take i).length cw,.slice none 0 0,.int .i64 64] 294)::(lw++(lh++[(pb,.cells #[.map (some mb)] 195),(mb,om)]))))) wr:=by
     have h:=V;rw[HRS.out]at h;exact h.perm po
    have q6:wr.cell? ⟨xb,6,none⟩=some (.slice wa kl.length wc):=VX.cell1 6
    by_cases hlt:i<kl.length
    · have hlt':(i:Int)<(kl.length:Int):=by omega
      obtain⟨v,hv⟩:∃v,ks[i]?= some v:=⟨ks[i]'(by have:=Hkl.out.1;omega),List.getElem?_eq_getElem _⟩;have hsW:=HrW.out.src (R:=((xb,.cells #[pt sb,pt rb,.pointer none,.pointer none,.pointer none,.slice la cs.length lc,.slice wa kl.length wc,.slice none 0 0,.slice none 0 0] 77)::((stb,.cells #[.slice aw (ks.take i).length cw,.slice none 0 0,.int .i64 64] 294)::(lw++(lh++[(pb,.cells #[.map (some mb)] 195),(mb,om)]))))) (VX.has.perm po);obtain⟨bw,offw,rfl,-⟩:=hsW.form (by rw[n64s_length];have:=(List.getElem?_eq_some_iff.1 hv).1;omega);have qv:=hsW.cell64 hv;have hsn:ks.take (i+1)=ks.take i++[v]:=(by rw[List.take_add_one,hv];rfl);have HU:=uh (skpush wr stb aw cw (ks.take i) lw hr (by rw[List.length_take];omega) V v);have HSn:=uh hsn;clear hv hsn hsW VX V hr
      go_wp2_with fail
      refine HU.out.mono ?_;rintro e w8 ⟨rfl,aw',cw',lw',hr',V'⟩;have HX:=uh (And.intro hr' V');clear hr' V' HU q6 qv
      go_wp2_with fail
      go_roundw
      case rel=>exact⟨i+1,cw',aw',lw',by omega,by go_num,by rw[HSn.out];exact HX.out.1,by rw[HSn.out];exact HX.out.2⟩
      case measure=>simp[intOf];omega
    · obtain rfl:i=kl.length:=by omega
      have hnl:¬((kl.length:Nat):Int)<(kl.length:Int):=(by omega);have V6:Turn [] w3 ((xb,.cells #[pt sb,pt rb,.pointer none,.pointer none,.pointer none,.slice la cs.length lc,.slice wa kl.length wc,.slice none 0 0,.slice none 0 0] 77)::(lh++[(pb,.cells #[.map (some mb)] 195),(mb,om)])) wr:=(VX.perm (l2:=(lW++((stb,.cells #[.slice aw (ks.take kl.length).length cw,.slice none 0 0,.int .i64 64] 294)::lw))++((xb,.cells #[pt sb,pt rb,.pointer none,.pointer none,.pointer none,.slice la cs.length lc,.slice wa kl.length wc,.slice none 0 0,.slice none 0 0] 77)::(lh++[(pb,.cells #[.map (some mb)] 195),(mb,om)]))) po).drop;clear V VX hr HrW HRS
      go_upto_region 16 with fail
      clear q6;obtain⟨vw,hvw⟩:∃vw,vw=(.slice wa kl.length wc:Value):=⟨_,rfl⟩;rw[←hvw]at V6;clear hvw;have V6:=V6.perm (l2:=(xb,.cells #[pt sb,pt rb,.pointer none,.pointer none,.pointer none,.slice la cs.length lc,vw,.slice none 0 0,.slice none 0 0] 77)::(lh++[(pb,.cells #[.map (some mb)] 195),(mb,om)])) po;have hS0:wr.drew.cell? ⟨xb,5,none⟩=some (.slice la cs.length lc) /\ wr.drew.cell? ⟨w.heap.size,4,none⟩=some (.slice ha hl.length hc):=⟨V6.drew.cell1 5,HC.out _ _ V6.drew 4 _ rfl⟩;have HV:=uh V6.drew;clear V6;refine wp_region_noPanic ?_;refine wp_region_listed (S:=fun u=>u.cell? ⟨xb,5,none⟩=some (.slice la cs.length lc) /\ u.cell? ⟨w.heap.size,4,none⟩=some (.slice ha hl.length hc)) 8 [false,false,false,false,false,false,false,false] rfl rfl (by kernel_rfl) ?_;generalize wr.drew=u0 at*;refine tkA 0 100 hS0 ?_;refine tkA 1 101 hS0 ?_;refine tkA 2 102 hS0 ?_;refine tkB 3 103 hS0 (fun w hSw=>hSw.1) ?_;refine tkA 4 104 hS0 ?_;refine tkB 5 105 hS0 (fun w hSw=>hSw.2) ?_;refine rdyA 6 (fun K hK=>?_)
      go_simp
      refine(words19 u0 cs la ha lc hc hl (HL.out _ _ HV.out) (HHw.out _ (HWu.out _ _ HV.out)) hcl hh6 Hcg.out Hhu.out).mono ?_;rintro e u1 ⟨wa2,wc2,lH,rfl,hrW,TW⟩;have hS1:=And.intro ((TW.below.cell (p:=⟨xb,5,none⟩) (World.block_lt_of_cell? _ _ hS0.1)).trans hS0.1) ((TW.below.cell (p:=⟨w.heap.size,4,none⟩) (World.block_lt_of_cell? _ _ hS0.2)).trans hS0.2);have V1:=HV.out.grow TW;have HrW:=uh hrW;clear hrW TW hS0 HV;refine hK.out _ _ hS1 fun _=>?_;clear hK K;simp only[st0,st1,st2];refine tkA 7 14 hS1 ?_;refine wpAnyH_done (by kernel_rfl) ?_ _;refine NoPanic.normal ?_;clear hS1;rw[←Hhs.out.1]at HrW;have HVa:=uh (V1.perm (l2:=(xb,.cells #[pt sb,pt rb,.pointer none,.pointer none,.pointer none,.slice la cs.length lc,vw,.slice none 0 0,.slice none 0 0] 77)::([]++(lh++(lH++[(pb,.cells #[.map (some mb)] 195),(mb,om)])))) po);clear V1;have HSx0:=uh (fun u Y (V:Turn [] w3 (lH++Y) u)=>HrW.out.src (R:=Y) V.has);have HrW2:=uh True.intro;clear HrW
      go_wp2_with fail
      have hhl:=Hkl.out.2.1
      go_loopw [15] (fun v15 wr=>∃(i rc:Nat) (ra:Option Addr) (lR lh':List Blk),i <= hl.length /\ v15=.int .i64 i /\ Row 47 1 ra (kept0 (hs.take i)).length rc (n64s (kept0 (hs.take i))) lR /\ HandsIs hb (hSl (kept0 (hs.take i))) lh' /\ Turn [] w3 ((xb,.cells #[pt sb,pt rb,.pointer none,.pointer none,.pointer none,.slice la cs.length lc,vw,.slice ra (kept0 (hs.take i)).length rc,.slice none 0 0] 77)::(lR++(lh'++(lH++[(pb,.cells #[.map (some mb)] 195),(mb,om)])))) wr) (fun v15 _=>hl.length-(intOf v15).toNat)
      case atStart=>exact⟨0,0,none,[],lh,Nat.zero_le _,by go_num,Row.nil _ _,HHs.out,HVa.out⟩
      case round=>
       clear HVa HHs;obtain⟨i,rc,ra,lR,lh',hi,rfl,hrR,hHs,V⟩:=hrel
       by_cases hlt:i<hl.length
       · have hlt':(i:Int)<(hl.length:Int):=by omega
         obtain⟨v,hv⟩:∃v,hs[i]?= some v:=⟨hs[i]'(by omega),List.getElem?_eq_getElem _⟩;have hv64:=Hhs.out.2 v (by rw[←Hhs.out.1];exact List.mem_of_getElem? hv);have hsW:=HSx0.out wr _ (V.perm (l2:=lH++((xb,.cells #[pt sb,pt rb,.pointer none,.pointer none,.pointer none,.slice la cs.length lc,vw,.slice ra (kept0 (hs.take i)).length rc,.slice none 0 0] 77)::(lR++(lh'++[(pb,.cells #[.map (some mb)] 195),(mb,om)])))) po);obtain⟨bw,offw,rfl,-⟩:=hsW.form (by rw[n64s_length];have:=(List.getElem?_eq_some_iff.1 hv).1;omega);have qv:=hsW.cell64 hv;have hkl2:=kept0_len hs i
         by_cases hv0:v=0
         · subst hv0
           have HKz:=uh (kept0_zero hv);have HX:=uh (And.intro hrR (And.intro hHs V));clear hv hsW hrR hHs V;have qv:wr.cell? ⟨bw,offw+i,none⟩=some (.int .u64 0):=qv
           go_wp2_with fail
           refine(hAdd_zero wr hb).mono ?_;rintro e w8 ⟨rfl,hw⟩;rw[hw];clear hw w8 qv
           go_wp2_with fail
           go_roundw
           case rel=>exact⟨i+1,rc,ra,lR,lh',by omega,by go_num,by rw[HKz.out];exact HX.out.1,by rw[HKz.out];exact HX.out.2.1,by rw[HKz.out];exact HX.out.2.2⟩
           case measure=>simp[intOf];omega
         · have HSx:=uh (fun u Y (V:Turn [] w3 (lH++Y) u)=>(HSx0.out u Y V).cell64 hv)
           have HKm:=uh (kept0_more hv hv0);have h0:∀x∈kept0 (hs.take i),x≠0:=fun x hx=>(kept0_ne x hx).1;obtain⟨rs,hrs⟩:∃rs,rs=kept0 (hs.take i):=⟨_,rfl⟩;rw[←hrs]at hrR hHs V HKm h0 hkl2;have h63:rs.length+1 <= maxLen:=by unfold maxLen;omega
           have hadd:=hAdd_at wr (b:=hb) (S:=hSl rs) (l:=lh') (R:=(xb,.cells #[pt sb,pt rb,.pointer none,.pointer none,.pointer none,.slice la cs.length lc,vw,.slice ra rs.length rc,.slice none 0 0] 77)::(lR++(lH++[(pb,.cells #[.map (some mb)] 195),(mb,om)]))) hHs (V.has.perm po) (v:Int) (by omega) (fun s hs=>by
            unfold hSl at hs;rcases List.mem_append.1 hs with hs|hs
            · obtain⟨a,-,rfl⟩:=List.mem_map.1 hs
              show(1:Nat)<_
              omega
            · rw[List.eq_of_mem_replicate hs]
              show(0:Nat)<_
              omega) rs.length zeroHSlot (hSl_hi (Nat.le_refl _) (by omega)) rfl (fun j t hj ht=>by
              obtain⟨a,ha⟩:∃a,rs[j]?= some a:=⟨rs[j],List.getElem?_eq_getElem hj⟩;rw[hSl_lo ha]at ht
              cases ht
              have:=h0 a (List.mem_of_getElem? ha)
              show(a:Int)≠0
              omega)
           have HAdd:=uh hadd;have HVp:=uh (V.perm (l2:=lh'++((xb,.cells #[pt sb,pt rb,.pointer none,.pointer none,.pointer none,.slice la cs.length lc,vw,.slice ra rs.length rc,.slice none 0 0] 77)::(lR++(lH++[(pb,.cells #[.map (some mb)] 195),(mb,om)])))) po);have HrX:=uh hrR;have Hrs:=uh hrs;clear hv hsW hrR hHs V hadd hrs h0
           go_wp2_with fail
           refine HAdd.out.mono ?_;rintro e w8 ⟨rfl,lh9,hHs,T8⟩;have hHs:HandsIs hb (hSl (rs++[v])) lh9:=by rw[←hSl_set (by omega)];exact hHs
           have HHs:=uh hHs;have HV8:=uh ((HVp.out.trans T8).perm (l2:=(xb,.cells #[pt sb,pt rb,.pointer none,.pointer none,.pointer none,.slice la cs.length lc,vw,.slice ra rs.length rc,.slice none 0 0] 77)::(lR++(lh9++(lH++[(pb,.cells #[.map (some mb)] 195),(mb,om)])))) po);clear HAdd T8 HVp hHs qv
           go_upto_region 22 with fail
           have hS0:=HSx.out _ _ ((HV8.out.drew).perm (l2:=lH++((xb,.cells #[pt sb,pt rb,.pointer none,.pointer none,.pointer none,.slice la cs.length lc,vw,.slice ra rs.length rc,.slice none 0 0] 77)::(lR++(lh9++[(pb,.cells #[.map (some mb)] 195),(mb,om)])))) po);have cX:=HV8.out.drew.cell1 7;have HA:=uh (HV8.out.drew.alloc (.cells #[.int .u64 (v:Nat)] 47));have hS1:=HSx.out _ _ (HA.out.perm (l2:=lH++((w8.drew.heap.size,.cells #[.int .u64 (v:Nat)] 47)::(xb,.cells #[pt sb,pt rb,.pointer none,.pointer none,.pointer none,.slice la cs.length lc,vw,.slice ra rs.length rc,.slice none 0 0] 77)::(lR++(lh9++[(pb,.cells #[.map (some mb)] 195),(mb,om)])))) po);have cA:=HA.out.has.cell (b:=xb) (c:=#[pt sb,pt rb,.pointer none,.pointer none,.pointer none,.slice la cs.length lc,vw,.slice ra rs.length rc,.slice none 0 0]) (e:=77) (f:=(0,0)) (by simp) 7;clear HV8;refine wp_region_noPanic ?_;refine wp_region_listed (S:=fun u=>u.cell? ⟨bw,offw+i,none⟩=some (.int .u64 (v:Nat))) 14 [false,false,false,false,false,false,false,false,false,false,false,false,false,false] rfl rfl (by kernel_rfl) ?_;generalize w8.drew=u0 at*;refine tkA 0 124 hS0 ?_;refine tkA 1 125 hS0 ?_;refine tkA 2 126 hS0 ?_;refine tkA 3 127 hS0 ?_;refine tkA 5 129 hS0 ?_;refine tkA 6 130 hS0 ?_
           refine tkA 7 131 hS0 ?_;refine tkB 8 132 hS0 (fun w hSw=>hSw) ?_;refine wpAnyH_ready (rs:=[4,9]) (by kernel_rfl) (by simp) (AllReadyH.cons rfl (fun K hK=>?_) (AllReadyH.cons rfl (fun K hK=>?_) AllReadyH.nil))
           · go_simp
             refine hK.out _ _ hS0 fun _=>?_;clear hK K;simp only[st0,st1,st2];refine rdyA 9 (fun K hK=>?_)
             go_simp
             refine hK.out _ _ hS1 fun _=>?_;clear hK K cX cA hS0 hS1;simp only[st0,st1,st2];refine rdyA 10 (fun K hK=>?_);refine step_append_row rfl _ _ rfl el_u64 rfl HrX.out (R:=(u0.heap.size,.cells #[.int .u64 (v:Nat)] 47)::(xb,.cells #[pt sb,pt rb,.pointer none,.pointer none,.pointer none,.slice la cs.length lc,vw,.slice ra rs.length rc,.slice none 0 0] 77)::(lh9++(lH++[(pb,.cells #[.map (some mb)] 195),(mb,om)]))) (HA.out.perm po).has rfl (news:=[.int .u64 (v:Nat)]) rfl (news_of (heap_alloc_new _ _)) (by simp[Value.oneCell']) h63 (by omega) ?_;intro a9 p9 l9 w9 hr9 V9 hno;have K5:=((HA.out.perm po).trans V9).perm (l2:=(xb,.cells #[pt sb,pt rb,.pointer none,.pointer none,.pointer none,.slice la cs.length lc,vw,.slice ra rs.length rc,.slice none 0 0] 77)::(l9++((lh9++(lH++[(pb,.cells #[.map (some mb)] 195),(mb,om)]))++[(u0.heap.size,.cells #[.int .u64 (v:Nat)] 47)]))) po;have Hr9:=uh hr9;have hq5:=K5.cell1 7;have hf5:=K5.free1 7;have hS2:=HSx.out _ _ (K5.perm (l2:=lH++((xb,.cells #[pt sb,pt rb,.pointer none,.pointer none,.pointer none,.slice la cs.length lc,vw,.slice ra rs.length rc,.slice none 0 0] 77)::(l9++((lh9++[(pb,.cells #[.map (some mb)] 195),(mb,om)])++[(u0.heap.size,.cells #[.int .u64 (v:Nat)] 47)])))) po)
             have K6:Turn [] w3 ((xb,.cells #[pt sb,pt rb,.pointer none,.pointer none,.pointer none,.slice la cs.length lc,vw,.slice a9 (rs.length+1) p9,.slice none 0 0] 77)::(l9++((lh9++(lH++[(pb,.cells #[.map (some mb)] 195),(mb,om)]))++[(u0.heap.size,.cells #[.int .u64 (v:Nat)] 47)]))) (w9.setCell ⟨xb,7,none⟩ (.slice a9 (rs.length+1) p9)):=K5.setCell 7 (.slice a9 (rs.length+1) p9);have hS3:=HSx.out _ _ (K6.perm (l2:=lH++((xb,.cells #[pt sb,pt rb,.pointer none,.pointer none,.pointer none,.slice la cs.length lc,vw,.slice a9 (rs.length+1) p9,.slice none 0 0] 77)::(l9++((lh9++[(pb,.cells #[.map (some mb)] 195),(mb,om)])++[(u0.heap.size,.cells #[.int .u64 (v:Nat)] 47)])))) po);have HK6:=uh K6;refine hK.out _ _ hS2 fun _=>?_;clear hK K V9 hno hr9 HA K5 K6;simp only[st0,st1,st2];refine tkA 11 135 hS2 ?_;refine tkA 12 136 hS2 ?_;refine rdyA 13 (fun K hK=>?_)
             go_simp
             refine hK.out _ _ hS3 fun _=>?_;clear hK K hq5 hf5 hS2 hS3;simp only[st0,st1,st2];refine wpAnyH_done (by kernel_rfl) ?_ _;refine NoPanic.normal ?_;generalize w9.setCell ⟨xb,7,none⟩ (.slice a9 (rs.length+1) p9)=w7 at*
             go_wp2_with fail
             go_roundw
             case rel=>exact⟨i+1,p9,a9,l9,lh9,by omega,by go_num,by rw[HKm.out,List.length_append,n64s_more];exact Hr9.out,by rw[HKm.out];exact HHs.out,by rw[HKm.out,List.length_append];exact(HK6.out.perm (l2:=((xb,.cells #[pt sb,pt rb,.pointer none,.pointer none,.pointer none,.slice la cs.length lc,vw,.slice a9 (rs.length+1) p9,.slice none 0 0] 77)::(l9++(lh9++(lH++[(pb,.cells #[.map (some mb)] 195),(mb,om)]))))++[(u0.heap.size,.cells #[.int .u64 (v:Nat)] 47)]) po).sub (List.sublist_append_left ..)⟩
             case measure=>simp[intOf];omega
           · go_simp
             refine hK.out _ _ hS1 fun _=>?_;clear hK K cX hS0;simp only[st0,st1,st2];refine rdyA 4 (fun K hK=>?_)
             go_simp
             refine hK.out _ _ hS1 fun _=>?_;clear hK K cA hS1;simp only[st0,st1,st2];refine rdyA 10 (fun K hK=>?_);refine step_append_row rfl _ _ rfl el_u64 rfl HrX.out (R:=(u0.heap.size,.cells #[.int .u64 (v:Nat)] 47)::(xb,.cells #[pt sb,pt rb,.pointer none,.pointer none,.pointer none,.slice la cs.length lc,vw,.slice ra rs.length rc,.slice none 0 0] 77)::(lh9++(lH++[(pb,.cells #[.map (some mb)] 195),(mb,om)]))) (HA.out.perm po).has rfl (news:=[.int .u64 (v:Nat)]) rfl (news_of (heap_alloc_new _ _)) (by simp[Value.oneCell']) h63 (by omega) ?_;intro a9 p9 l9 w9 hr9 V9 hno;have K5:=((HA.out.perm po).trans V9).perm (l2:=(xb,.cells #[pt sb,pt rb,.pointer none,.pointer none,.pointer none,.slice la cs.length lc,vw,.slice ra rs.length rc,.slice none 0 0] 77)::(l9++((lh9++(lH++[(pb,.cells #[.map (some mb)] 195),(mb,om)]))++[(u0.heap.size,.cells #[.int .u64 (v:Nat)] 47)]))) po;have Hr9:=uh hr9;have hq5:=K5.cell1 7;have hf5:=K5.free1 7;have hS2:=HSx.out _ _ (K5.perm (l2:=lH++((xb,.cells #[pt sb,pt rb,.pointer none,.pointer none,.pointer none,.slice la cs.length lc,vw,.slice ra rs.length rc,.slice none 0 0] 77)::(l9++((lh9++[(pb,.cells #[.map (some mb)] 195),(mb,om)])++[(u0.heap.size,.cells #[.int .u64 (v:Nat)] 47)])))) po)
             have K6:Turn [] w3 ((xb,.cells #[pt sb,pt rb,.pointer none,.pointer none,.pointer none,.slice la cs.length lc,vw,.slice a9 (rs.length+1) p9,.slice none 0 0] 77)::(l9++((lh9++(lH++[(pb,.cells #[.map (some mb)] 195),(mb,om)]))++[(u0.heap.size,.cells #[.int .u64 (v:Nat)] 47)]))) (w9.setCell ⟨xb,7,none⟩ (.slice a9 (rs.length+1) p9)):=K5.setCell 7 (.slice a9 (rs.length+1) p9);have hS3:=HSx.out _ _ (K6.perm (l2:=lH++((xb,.cells #[pt sb,pt rb,.pointer none,.pointer none,.pointer none,.slice la cs.length lc,vw,.slice a9 (rs.length+1) p9,.slice none 0 0] 77)::(l9++((lh9++[(pb,.cells #[.map (some mb)] 195),(mb,om)])++[(u0.heap.size,.cells #[.int .u64 (v:Nat)] 47)])))) po);have HK6:=uh K6;refine hK.out _ _ hS2 fun _=>?_;clear hK K V9 hno hr9 HA K5 K6;simp only[st0,st1,st2];refine tkA 11 135 hS2 ?_;refine tkA 12 136 hS2 ?_;refine rdyA 13 (fun K hK=>?_)
             go_simp
             refine hK.out _ _ hS3 fun _=>?_;clear hK K hq5 hf5 hS2 hS3;simp only[st0,st1,st2];refine wpAnyH_done (by kernel_rfl) ?_ _;refine NoPanic.normal ?_;generalize w9.setCell ⟨xb,7,none⟩ (.slice a9 (rs.length+1) p9)=w7 at*
             go_wp2_with fail
             go_roundw
             case rel=>exact⟨i+1,p9,a9,l9,lh9,by omega,by go_num,by rw[HKm.out,List.length_append,n64s_more];exact Hr9.out,by rw[HKm.out];exact HHs.out,by rw[HKm.out,List.length_append];exact(HK6.out.perm (l2:=((xb,.cells #[pt sb,pt rb,.pointer none,.pointer none,.pointer none,.slice la cs.length lc,vw,.slice a9 (rs.length+1) p9,.slice none 0 0] 77)::(l9++(lh9++(lH++[(pb,.cells #[.map (some mb)] 195),(mb,om)]))))++[(u0.heap.size,.cells #[.int .u64 (v:Nat)] 47)]) po).sub (List.sublist_append_left ..)⟩
             case measure=>simp[intOf];omega
       · obtain rfl:i=hl.length:=by omega
         have hnl:¬((hl.length:Nat):Int)<(hl.length:Int):=(by omega);rw[←hhl,List.take_length]at hrR hHs V;have hrl:(kept0 hs).length <= 60:=(by have:=kept0_len hs hs.length;rw[List.take_length]at this;omega);obtain⟨rs,hrs⟩:∃rs,rs=kept0 hs:=⟨_,rfl⟩;rw[←hrs]at hrR hHs V hrl;have Hrs:=uh (fun x (hx:x∈rs)=>(by rw[hrs]at hx;obtain⟨h1,h2⟩:=kept0_ne x hx;exact⟨h1,Hhs.out.2 x (by rw[←Hhs.out.1];exact h2)⟩:x≠0 /\ x<18446744073709551616));have HrR:=uh hrR;have HHs:=uh hHs;have V6:Turn [] w3 ((xb,.cells #[pt sb,pt rb,.pointer none,.pointer none,.pointer none,.slice la cs.length lc,vw,.slice ra rs.length rc,.slice none 0 0] 77)::(lR++(lh'++[(pb,.cells #[.map (some mb)] 195),(mb,om)]))) wr:=(V.perm (l2:=lH++((xb,.cells #[pt sb,pt rb,.pointer none,.pointer none,.pointer none,.slice la cs.length lc,vw,.slice ra rs.length rc,.slice none 0 0] 77)::(lR++(lh'++[(pb,.cells #[.map (some mb)] 195),(mb,om)])))) po).drop;clear V hrR hHs hrs HSx0 HrW2 Hhs hhl
         go_upto_region 23 with fail
         have hS0:wr.drew.cell? ⟨xb,5,none⟩=some (.slice la cs.length lc) /\ wr.drew.cell? ⟨w.heap.size,5,none⟩=some (.slice pa pl.length pc):=⟨V6.drew.cell1 5,HC.out _ _ V6.drew 5 _ rfl⟩;have HV:=uh V6.drew;clear V6;refine wp_region_noPanic ?_;refine wp_region_listed (S:=fun u=>u.cell? ⟨xb,5,none⟩=some (.slice la cs.length lc) /\ u.cell? ⟨w.heap.size,5,none⟩=some (.slice pa pl.length pc)) 8 [false,false,false,false,false,false,false,false] rfl rfl (by kernel_rfl) ?_;generalize wr.drew=u0 at*;refine tkA 0 137 hS0 ?_;refine tkA 1 138 hS0 ?_;refine tkA 2 139 hS0 ?_;refine tkB 3 140 hS0 (fun w hSw=>hSw.1) ?_;refine tkA 4 141 hS0 ?_;refine tkB 5 142 hS0 (fun w hSw=>hSw.2) ?_;refine rdyA 6 (fun K hK=>?_)
         go_simp
         refine(words19 u0 cs la pa lc pc pl (HL.out _ _ HV.out) (HNw.out _ (HWu.out _ _ HV.out)) hcl hp6 Hcg.out Hpu.out).mono ?_;rintro e u1 ⟨wa3,wc3,lN,rfl,hrW,TW⟩;have hS1:=And.intro ((TW.below.cell (p:=⟨xb,5,none⟩) (World.block_lt_of_cell? _ _ hS0.1)).trans hS0.1) ((TW.below.cell (p:=⟨w.heap.size,5,none⟩) (World.block_lt_of_cell? _ _ hS0.2)).trans hS0.2);have V1:=HV.out.grow TW;have HrW:=uh hrW;clear hrW TW hS0 HV;refine hK.out _ _ hS1 fun _=>?_;clear hK K;simp only[st0,st1,st2];refine tkA 7 18 hS1 ?_;refine wpAnyH_done (by kernel_rfl) ?_ _;refine NoPanic.normal ?_;clear hS1;rw[←Hps.out.1]at HrW;have HVa:=uh (V1.perm (l2:=(xb,.cells #[pt sb,pt rb,.pointer none,.pointer none,.pointer none,.slice la cs.length lc,vw,.slice ra rs.length rc,.slice none 0 0] 77)::([]++((mb,om)::(pb,.cells #[.map (some mb)] 195)::(lR++(lh'++lN))))) po);clear V1;have HSx0:=uh (fun u Y (V:Turn [] w3 (lN++Y) u)=>HrW.out.src (R:=Y) V.has);clear HrW
         go_wp2_with fail
         have hpl:=Hkl.out.2.2
         go_loopw [19] (fun v19 wr=>∃(i pc2:Nat) (pa2:Option Addr) (m:List (Int×Value)) (o:Obj) (lP:List Blk),i <= pl.length /\ v19=.int .i64 i /\ MapSt .u64 m o /\ PinsOk m (kept0 (ps.take i)) /\ Row 47 1 pa2 (kept0 (ps.take i)).length pc2 (n64s (kept0 (ps.take i))) lP /\ Turn [] w3 ((xb,.cells #[pt sb,pt rb,.pointer none,.pointer none,.pointer none,.slice la cs.length lc,vw,.slice ra rs.length rc,.slice pa2 (kept0 (ps.take i)).length pc2] 77)::(lP++((mb,o)::(pb,.cells #[.map (some mb)] 195)::(lR++(lh'++lN))))) wr) (fun v19 _=>pl.length-(intOf v19).toNat)
         case atStart=>exact⟨0,0,none,[],om,[],Nat.zero_le _,by go_num,HMS.out,PinsOk.nil,Row.nil _ _,HVa.out⟩
         case round=>
          clear HVa HMS;obtain⟨i,pc2,pa2,m,o,lP,hi,rfl,hms,hok,hrP,V⟩:=hrel;have hql:=kept0_len ps i
          by_cases hlt:i<pl.length
          · have hlt':(i:Int)<(pl.length:Int):=by omega
            obtain⟨v,hv⟩:∃v,ps[i]?= some v:=⟨ps[i]'(by omega),List.getElem?_eq_getElem _⟩;have hv64:=Hps.out.2 v (by rw[←Hps.out.1];exact List.mem_of_getElem? hv);have hsW:=HSx0.out wr _ (V.perm (l2:=lN++((xb,.cells #[pt sb,pt rb,.pointer none,.pointer none,.pointer none,.slice la cs.length lc,vw,.slice ra rs.length rc,.slice pa2 (kept0 (ps.take i)).length pc2] 77)::(lP++((mb,o)::(pb,.cells #[.map (some mb)] 195)::(lR++lh'))))) po);obtain⟨bw,offw,rfl,-⟩:=hsW.form (by rw[n64s_length];have:=(List.getElem?_eq_some_iff.1 hv).1;omega);have qv:=hsW.cell64 hv
            by_cases hv0:v=0
            · subst hv0
              have HKz:=uh (kept0_zero hv);have HX:=uh (And.intro hms (And.intro hok (And.intro hrP V)));clear hv hsW hrP hms hok V;have qv:wr.cell? ⟨bw,offw+i,none⟩=some (.int .u64 0):=qv
              go_wp2_with fail
              refine(ppin_zero wr pb).mono ?_;rintro e w8 ⟨rfl,hw⟩;rw[hw];clear hw w8 qv
              go_wp2_with fail
              go_roundw
              case rel=>exact⟨i+1,pc2,pa2,m,o,lP,by omega,by go_num,HX.out.1,by rw[HKz.out];exact HX.out.2.1,by rw[HKz.out];exact HX.out.2.2.1,by rw[HKz.out];exact HX.out.2.2.2⟩
              case measure=>simp[intOf];omega
            · have HSx:=uh (fun u Y (V:Turn [] w3 (lN++Y) u)=>(HSx0.out u Y V).cell64 hv)
              have HKm:=uh (kept0_more hv hv0);have hq6:(kept0 (ps.take i)).length <= 60:=(by omega);have hml:=hok.len;have HPin:=uh (ppin wr pb mb o m hms (hok.pv (by omega)) (by omega) (V.perm (l2:=(mb,o)::(pb,.cells #[.map (some mb)] 195)::((xb,.cells #[pt sb,pt rb,.pointer none,.pointer none,.pointer none,.slice la cs.length lc,vw,.slice ra rs.length rc,.slice pa2 (kept0 (ps.take i)).length pc2] 77)::(lP++(lR++(lh'++lN))))) po) v hv0);have HOk:=uh (fun c=>hok.put (k:=v) (c:=c) hv64);obtain⟨qs,hqs⟩:∃qs,qs=kept0 (ps.take i):=⟨_,rfl⟩;rw[←hqs]at hrP HKm hq6 hql HPin HOk;have h63:qs.length+1 <= maxLen:=(by unfold maxLen;omega);have HrX:=uh hrP;clear hv hsW hrP hms V hok hqs
              go_wp2_with fail
              refine HPin.out.mono ?_;rintro e w8 ⟨rfl,c,o9,h1,h2,h3,hm9,V8⟩;have HM9:=uh hm9;have HOk9:=uh (HOk.out c h1 h2 h3);have HV8:=uh (V8.perm (l2:=(xb,.cells #[pt sb,pt rb,.pointer none,.pointer none,.pointer none,.slice la cs.length lc,vw,.slice ra rs.length rc,.slice pa2 qs.length pc2] 77)::(lP++((mb,o9)::(pb,.cells #[.map (some mb)] 195)::(lR++(lh'++lN))))) po);clear HPin HOk V8 h1 h2 h3 hm9 qv
              go_upto_region 28 with fail
              have hS0:=HSx.out _ _ ((HV8.out.drew).perm (l2:=lN++((xb,.cells #[pt sb,pt rb,.pointer none,.pointer none,.pointer none,.slice la cs.length lc,vw,.slice ra rs.length rc,.slice pa2 qs.length pc2] 77)::(lP++((mb,o9)::(pb,.cells #[.map (some mb)] 195)::(lR++lh'))))) po);have cX:=HV8.out.drew.cell1 8;have HA:=uh (HV8.out.drew.alloc (.cells #[.int .u64 (v:Nat)] 47));have hS1:=HSx.out _ _ (HA.out.perm (l2:=lN++((w8.drew.heap.size,.cells #[.int .u64 (v:Nat)] 47)::(xb,.cells #[pt sb,pt rb,.pointer none,.pointer none,.pointer none,.slice la cs.length lc,vw,.slice ra rs.length rc,.slice pa2 qs.length pc2] 77)::(lP++((mb,o9)::(pb,.cells #[.map (some mb)] 195)::(lR++lh'))))) po);have cA:=HA.out.has.cell (b:=xb) (c:=#[pt sb,pt rb,.pointer none,.pointer none,.pointer none,.slice la cs.length lc,vw,.slice ra rs.length rc,.slice pa2 qs.length pc2]) (e:=77) (f:=(0,0)) (by simp) 8;clear HV8;refine wp_region_noPanic ?_;refine wp_region_listed (S:=fun u=>u.cell? ⟨bw,offw+i,none⟩=some (.int .u64 (v:Nat))) 14 [false,false,false,false,false,false,false,false,false,false,false,false,false,false] rfl rfl (by kernel_rfl) ?_;generalize w8.drew=u0 at*;refine tkA 0 157 hS0 ?_;refine tkA 1 158 hS0 ?_;refine tkA 2 159 hS0 ?_;refine tkA 3 160 hS0 ?_
              refine tkA 5 162 hS0 ?_;refine tkA 6 163 hS0 ?_;refine tkA 7 164 hS0 ?_;refine tkB 8 165 hS0 (fun w hSw=>hSw) ?_;refine wpAnyH_ready (rs:=[4,9]) (by kernel_rfl) (by simp) (AllReadyH.cons rfl (fun K hK=>?_) (AllReadyH.cons rfl (fun K hK=>?_) AllReadyH.nil))
              · go_simp
                refine hK.out _ _ hS0 fun _=>?_;clear hK K;simp only[st0,st1,st2];refine rdyA 9 (fun K hK=>?_)
                go_simp
                refine hK.out _ _ hS1 fun _=>?_;clear hK K cX cA hS0 hS1;simp only[st0,st1,st2];refine rdyA 10 (fun K hK=>?_);refine step_append_row rfl _ _ rfl el_u64 rfl HrX.out (R:=(u0.heap.size,.cells #[.int .u64 (v:Nat)] 47)::(xb,.cells #[pt sb,pt rb,.pointer none,.pointer none,.pointer none,.slice la cs.length lc,vw,.slice ra rs.length rc,.slice pa2 qs.length pc2] 77)::((mb,o9)::(pb,.cells #[.map (some mb)] 195)::(lR++(lh'++lN)))) (HA.out.perm po).has rfl (news:=[.int .u64 (v:Nat)]) rfl (news_of (heap_alloc_new _ _)) (by simp[Value.oneCell']) h63 (by omega) ?_;intro a9 p9 l9 w9 hr9 V9 hno;have K5:=((HA.out.perm po).trans V9).perm (l2:=(xb,.cells #[pt sb,pt rb,.pointer none,.pointer none,.pointer none,.slice la cs.length lc,vw,.slice ra rs.length rc,.slice pa2 qs.length pc2] 77)::(l9++(((mb,o9)::(pb,.cells #[.map (some mb)] 195)::(lR++(lh'++lN)))++[(u0.heap.size,.cells #[.int .u64 (v:Nat)] 47)]))) po;have Hr9:=uh hr9;have hq5:=K5.cell1 8;have hf5:=K5.free1 8
                have hS2:=HSx.out _ _ (K5.perm (l2:=lN++((xb,.cells #[pt sb,pt rb,.pointer none,.pointer none,.pointer none,.slice la cs.length lc,vw,.slice ra rs.length rc,.slice pa2 qs.length pc2] 77)::(l9++(((mb,o9)::(pb,.cells #[.map (some mb)] 195)::(lR++lh'))++[(u0.heap.size,.cells #[.int .u64 (v:Nat)] 47)])))) po);have K6:Turn [] w3 ((xb,.cells #[pt sb,pt rb,.pointer none,.pointer none,.pointer none,.slice la cs.length lc,vw,.slice ra rs.length rc,.slice a9 (qs.length+1) p9] 77)::(l9++(((mb,o9)::(pb,.cells #[.map (some mb)] 195)::(lR++(lh'++lN)))++[(u0.heap.size,.cells #[.int .u64 (v:Nat)] 47)]))) (w9.setCell ⟨xb,8,none⟩ (.slice a9 (qs.length+1) p9)):=K5.setCell 8 (.slice a9 (qs.length+1) p9);have hS3:=HSx.out _ _ (K6.perm (l2:=lN++((xb,.cells #[pt sb,pt rb,.pointer none,.pointer none,.pointer none,.slice la cs.length lc,vw,.slice ra rs.length rc,.slice a9 (qs.length+1) p9] 77)::(l9++(((mb,o9)::(pb,.cells #[.map (some mb)] 195)::(lR++lh'))++[(u0.heap.size,.cells #[.int .u64 (v:Nat)] 47)])))) po);have HK6:=uh K6;refine hK.out _ _ hS2 fun _=>?_;clear hK K V9 hno hr9 HA K5 K6;simp only[st0,st1,st2];refine tkA 11 168 hS2 ?_;refine tkA 12 169 hS2 ?_;refine rdyA 13 (fun K hK=>?_)
                go_simp
                refine hK.out _ _ hS3 fun _=>?_;clear hK K hq5 hf5 hS2 hS3;simp only[st0,st1,st2];refine wpAnyH_done (by kernel_rfl) ?_ _;refine NoPanic.normal ?_;generalize w9.setCell ⟨xb,8,none⟩ (.slice a9 (qs.length+1) p9)=w7 at*
                go_wp2_with fail
                go_roundw
                case rel=>exact⟨i+1,p9,a9,_,o9,l9,by omega,by go_num,HM9.out,by rw[HKm.out];exact HOk9.out,by rw[HKm.out,List.length_append,n64s_more];exact Hr9.out,by rw[HKm.out,List.length_append];exact(HK6.out.perm (l2:=((xb,.cells #[pt sb,pt rb,.pointer none,.pointer none,.pointer none,.slice la cs.length lc,vw,.slice ra rs.length rc,.slice a9 (qs.length+1) p9] 77)::(l9++((mb,o9)::(pb,.cells #[.map (some mb)] 195)::(lR++(lh'++lN)))))++[(u0.heap.size,.cells #[.int .u64 (v:Nat)] 47)]) po).sub (List.sublist_append_left ..)⟩
                case measure=>simp[intOf];omega
              · go_simp
                refine hK.out _ _ hS1 fun _=>?_;clear hK K cX hS0;simp only[st0,st1,st2];refine rdyA 4 (fun K hK=>?_)
                go_simp
                refine hK.out _ _ hS1 fun _=>?_;clear hK K cA hS1;simp only[st0,st1,st2];refine rdyA 10 (fun K hK=>?_);refine step_append_row rfl _ _ rfl el_u64 rfl HrX.out (R:=(u0.heap.size,.cells #[.int .u64 (v:Nat)] 47)::(xb,.cells #[pt sb,pt rb,.pointer none,.pointer none,.pointer none,.slice la cs.length lc,vw,.slice ra rs.length rc,.slice pa2 qs.length pc2] 77)::((mb,o9)::(pb,.cells #[.map (some mb)] 195)::(lR++(lh'++lN)))) (HA.out.perm po).has rfl (news:=[.int .u64 (v:Nat)]) rfl (news_of (heap_alloc_new _ _)) (by simp[Value.oneCell']) h63 (by omega) ?_;intro a9 p9 l9 w9 hr9 V9 hno;have K5:=((HA.out.perm po).trans V9).perm (l2:=(xb,.cells #[pt sb,pt rb,.pointer none,.pointer none,.pointer none,.slice la cs.length lc,vw,.slice ra rs.length rc,.slice pa2 qs.length pc2] 77)::(l9++(((mb,o9)::(pb,.cells #[.map (some mb)] 195)::(lR++(lh'++lN)))++[(u0.heap.size,.cells #[.int .u64 (v:Nat)] 47)]))) po;have Hr9:=uh hr9;have hq5:=K5.cell1 8;have hf5:=K5.free1 8
                have hS2:=HSx.out _ _ (K5.perm (l2:=lN++((xb,.cells #[pt sb,pt rb,.pointer none,.pointer none,.pointer none,.slice la cs.length lc,vw,.slice ra rs.length rc,.slice pa2 qs.length pc2] 77)::(l9++(((mb,o9)::(pb,.cells #[.map (some mb)] 195)::(lR++lh'))++[(u0.heap.size,.cells #[.int .u64 (v:Nat)] 47)])))) po);have K6:Turn [] w3 ((xb,.cells #[pt sb,pt rb,.pointer none,.pointer none,.pointer none,.slice la cs.length lc,vw,.slice ra rs.length rc,.slice a9 (qs.length+1) p9] 77)::(l9++(((mb,o9)::(pb,.cells #[.map (some mb)] 195)::(lR++(lh'++lN)))++[(u0.heap.size,.cells #[.int .u64 (v:Nat)] 47)]))) (w9.setCell ⟨xb,8,none⟩ (.slice a9 (qs.length+1) p9)):=K5.setCell 8 (.slice a9 (qs.length+1) p9);have hS3:=HSx.out _ _ (K6.perm (l2:=lN++((xb,.cells #[pt sb,pt rb,.pointer none,.pointer none,.pointer none,.slice la cs.length lc,vw,.slice ra rs.length rc,.slice a9 (qs.length+1) p9] 77)::(l9++(((mb,o9)::(pb,.cells #[.map (some mb)] 195)::(lR++lh'))++[(u0.heap.size,.cells #[.int .u64 (v:Nat)] 47)])))) po);have HK6:=uh K6;refine hK.out _ _ hS2 fun _=>?_;clear hK K V9 hno hr9 HA K5 K6;simp only[st0,st1,st2];refine tkA 11 168 hS2 ?_;refine tkA 12 169 hS2 ?_;refine rdyA 13 (fun K hK=>?_)
                go_simp
                refine hK.out _ _ hS3 fun _=>?_;clear hK K hq5 hf5 hS2 hS3;simp only[st0,st1,st2];refine wpAnyH_done (by kernel_rfl) ?_ _;refine NoPanic.normal ?_;generalize w9.setCell ⟨xb,8,none⟩ (.slice a9 (qs.length+1) p9)=w7 at*
                go_wp2_with fail
                go_roundw
                case rel=>exact⟨i+1,p9,a9,_,o9,l9,by omega,by go_num,HM9.out,by rw[HKm.out];exact HOk9.out,by rw[HKm.out,List.length_append,n64s_more];exact Hr9.out,by rw[HKm.out,List.length_append];exact(HK6.out.perm (l2:=((xb,.cells #[pt sb,pt rb,.pointer none,.pointer none,.pointer none,.slice la cs.length lc,vw,.slice ra rs.length rc,.slice a9 (qs.length+1) p9] 77)::(l9++((mb,o9)::(pb,.cells #[.map (some mb)] 195)::(lR++(lh'++lN)))))++[(u0.heap.size,.cells #[.int .u64 (v:Nat)] 47)]) po).sub (List.sublist_append_left ..)⟩
                case measure=>simp[intOf];omega
          · obtain rfl:i=pl.length:=by omega
            have hnl:¬((pl.length:Nat):Int)<(pl.length:Int):=(by omega);rw[←hpl,List.take_length]at hrP hok V hql;obtain⟨qs,hqs⟩:∃qs,qs=kept0 ps:=⟨_,rfl⟩;rw[←hqs]at hrP hok V hql;have Hqs:=uh (fun x (hx:x∈qs)=>(by rw[hqs]at hx;obtain⟨h1,h2⟩:=kept0_ne x hx;exact⟨h1,Hps.out.2 x (by rw[←Hps.out.1];exact h2)⟩:x≠0 /\ x<18446744073709551616));have HX:=uh (And.intro hms (And.intro hok hrP));have V6:Turn [] w3 ((xb,.cells #[pt sb,pt rb,.pointer none,.pointer none,.pointer none,.slice la cs.length lc,vw,.slice ra rs.length rc,.slice pa2 qs.length pc2] 77)::(lP++((mb,o)::(pb,.cells #[.map (some mb)] 195)::(lR++lh')))) wr:=(V.perm (l2:=lN++((xb,.cells #[pt sb,pt rb,.pointer none,.pointer none,.pointer none,.slice la cs.length lc,vw,.slice ra rs.length rc,.slice pa2 qs.length pc2] 77)::(lP++((mb,o)::(pb,.cells #[.map (some mb)] 195)::(lR++lh'))))) po).drop;clear V hrP hms hok hqs HSx0 Hps;have q2:=V6.cell1 2;have f2:=V6.free1 2;have HV6:=uh V6;clear V6
            go_upto_region 30 with fail
            have V7:=HV6.out.setCell 2 (pt stb);have q3:=V7.cell1 3;have f3:=V7.free1 3;have HV7:=uh V7;clear V7 HV6 q2 f2;generalize wr.setCell ⟨xb,2,none⟩ (pt stb)=y1 at*
            go_upto_region 31 with fail
            have V8:=HV7.out.setCell 3 (pt hb);have q4:=V8.cell1 4;have f4:=V8.free1 4;have HV8:=uh V8;clear V8 HV7 q3 f3;generalize y1.setCell ⟨xb,3,none⟩ (pt hb)=y2 at*
            go_upto_region 32 with fail
            have V9:Turn [] w3 ((xb,.cells #[pt sb,pt rb,pt stb,pt hb,pt pb,.slice la cs.length lc,vw,.slice ra rs.length rc,.slice pa2 qs.length pc2] 77)::(lP++((mb,o)::(pb,.cells #[.map (some mb)] 195)::(lR++lh')))) (y2.setCell ⟨xb,4,none⟩ (pt pb)):=HV8.out.setCell 4 (pt pb);clear HV8 q4 f4;generalize y2.setCell ⟨xb,4,none⟩ (pt pb)=y3 at*;have V10:=V9.drew;clear V9;refine wp_region_noPanic ?_;refine wp_region_listed (S:=fun u=>u.cell? ⟨xb,7,none⟩=some (.slice ra rs.length rc)) 10 [false,false,false,false,false,false,false,false,false,false] rfl rfl (by kernel_rfl) ?_;generalize y3.drew=u0 at*;have hS0:=V10.cell1 7;have hpt:=HHs.out.pointed (R:=((xb,.cells #[pt sb,pt rb,pt stb,pt hb,pt pb,.slice la cs.length lc,vw,.slice ra rs.length rc,.slice pa2 qs.length pc2] 77)::(lP++((mb,o)::(pb,.cells #[.map (some mb)] 195)::lR)))) (V10.has.perm po)
            have hrf:=tells_hrefs u0 _ (hSl rs) (by rw[hSl_len (by omega)];omega) (fun s hs=>(by
             unfold hSl at hs;rcases List.mem_append.1 hs with hs|hs
             · obtain⟨a,-,rfl⟩:=List.mem_map.1 hs
               exact Int.natCast_nonneg _
             · rw[List.eq_of_mem_replicate hs]
               exact Int.le_refl _)) hpt u0 (Below.refl _ _)
            rw[hSl_refs (by omega) (fun a ha=>(Hrs.out a ha).1)]at hrf;have Hrf:=uh hrf;have HsR:=uh (fun u Y (V:Turn [] u0 Y u)=>(HrR.out.src (R:=((xb,.cells #[pt sb,pt rb,pt stb,pt hb,pt pb,.slice la cs.length lc,vw,.slice ra rs.length rc,.slice pa2 qs.length pc2] 77)::(lP++((mb,o)::(pb,.cells #[.map (some mb)] 195)::lh')))) (V10.has.perm po)).below V.below);have HV:=uh V10;clear V10 hpt hrf;refine tkA 0 182 hS0 ?_;refine tkA 1 183 hS0 ?_;refine tkA 3 185 hS0 ?_;refine tkA 4 186 hS0 ?_;refine tkA 5 187 hS0 ?_;refine tkB 6 188 hS0 (fun w hSw=>hSw) ?_;refine rdyA 2 (fun K hK=>?_)
            go_simp
            refine Hrf.out.mono ?_;rintro e u1 ⟨xa,xc,lx,rfl,hrx,Tx⟩;have hS1:=(Tx.below.cell (p:=⟨xb,7,none⟩) (World.block_lt_of_cell? _ _ hS0)).trans hS0;have Hsm:=uh (same64 u1 rs rs xa xc ra rc (hrx.src (R:=[]) (by rw[List.append_nil];exact Tx.has)) (HsR.out u1 _ Tx) (by omega) (by omega));have HV1:=uh (HV.out.call Tx.below);clear hrx Tx Hrf HsR HV hS0;refine hK.out _ _ hS1 fun _=>?_;clear hK K;simp only[st0,st1,st2];refine rdyA 7 (fun K hK=>?_)
            go_simp
            refine Hsm.out.mono ?_;rintro e u2 ⟨rfl,hB2⟩;have hS2:=(hB2.cell (p:=⟨xb,7,none⟩) (World.block_lt_of_cell? _ _ hS1)).trans hS1;have hdd:decide (rs=rs)=true:=decide_eq_true rfl;rw[hdd];have HV2:=uh (HV1.out.call hB2);clear hB2 Hsm HV1 hS1 hdd;refine hK.out _ _ hS2 fun _=>?_;clear hK K;simp only[st0,st1,st2];refine tkA 8 2 hS2 ?_;refine tkA 9 3 hS2 ?_;refine wpAnyH_done (by kernel_rfl) ?_ _;refine NoPanic.normal ?_;clear hS2
            go_wp2_with fail
            refine bodyPost_ret (results_tmp2 rfl _ _ _) rfl ?_;obtain⟨hrL,ls,lr,hSp,hRf,-,T⟩:=Hat.out;refine .inr ⟨xb,sb,tb,rb,hb,pb,mb,w1,W,B,cs,rs,qs,m,rfl,HB0.out.trans (HB1.out.mono HB0.out.size),Hb.out,Hpl.out,by omega,Hrs.out,by omega,Hqs.out,HX.out.2.1,?_⟩;exact⟨pt stb,vw,la,ra,pa2,lc,rc,pc2,lh',lL,lR,lP,ls,lr,o,hSp,hRf,HHs.out,HX.out.1,hrL,HrR.out,HX.out.2.2,(T.grow HV2.out).perm po⟩
end
end Go.Proofs.YtbecgkejdacidaaGreatDoor
namespace Go.Proofs.YtbecgkejdacidaaGreatDoor
open Go Go.RowKit
structure WCells (w:World)(b g:Nat)(S:List Slot):Prop where
 c0:w.cell? ⟨b,0,none⟩=some (.slice (some ⟨g,0,none⟩) S.length S.length)
 at_:∀i s,S[i]?= some s -> w.cell? ⟨g,i*3,none⟩=some (.int .i64 s.st) /\ w.cell? ⟨g,i*3+1,none⟩=some (.int .u64 s.addr) /\ w.cell? ⟨g,i*3+2,none⟩=some (.int .u64 s.given)
 free:∀i,w.frozen? ⟨g,i,none⟩=false
 ne:g≠b
theorem wcells {w:World}{b g:Nat}{S:List Slot}{cur:Array Value}{R:List Blk}(hc:cur.toList=S.flatMap Slot.vals)
  (h:Has w ([(b,.cells #[.slice (some ⟨g,0,none⟩) S.length S.length] 179),(g,.cells cur 190)]++R)):WCells w b g S:=by
 have hg:(g,Obj.cells cur 190 (0,0))∈[(b,Obj.cells #[.slice (some ⟨g,0,none⟩) S.length S.length] 179 (0,0)),(g,Obj.cells cur 190 (0,0))]++R:=by simp
 have hat:∀i s j,S[i]?= some s -> j<3 -> w.cell? ⟨g,i*3+j,none⟩=s.vals[j]? :=by
  intro i s j hi hj;rw[h.cell hg,←Array.getElem?_toList,hc,flatMap_get Slot.vals_length S i j hj,hi]
  rfl
 have hb:(b,Obj.cells #[.slice (some ⟨g,0,none⟩) S.length S.length] 179 (0,0))∈[(b,Obj.cells #[.slice (some ⟨g,0,none⟩) S.length S.length] 179 (0,0)),(g,Obj.cells cur 190 (0,0))]++R:=by simp
 refine⟨h.cell hb 0,fun i s hi=>⟨hat i s 0 hi (by omega),hat i s 1 hi (by omega),hat i s 2 hi (by omega)⟩,fun i=>h.free hg i,?_⟩;have:=h.nd;intro e;subst e;simp at this
theorem set_toList {cur:Array Value}{S:List Slot}(hc:cur.toList=S.flatMap Slot.vals)(i j:Nat)(hj:j<3)(s s':Slot)(v:Value)(hi:S[i]?= some s)(hv:s'.vals=s.vals.set j v):
  (cur.setIfInBounds (i*3+j) v).toList=(S.set i s').flatMap Slot.vals:=by
 rw[Array.toList_setIfInBounds,hc,flatMap_set Slot.vals_length S i j hj s s' v hi hv]
section
variable {b:Nat} {S:List Slot} {l R:List Blk}
theorem weak_any (w:World)(hS:WeaksIs b S l)(hH:Has w (l++R))(i:Nat)(s:Slot)(hi:S[i]?= some s):
  Calls prog 99 #[pt b,.int .i64 i] w fun e w'=>e=.returned (.int .u64 (wh i s.given)) /\ w=w':=by
 obtain⟨hok,g,cur,rfl,hc⟩:=hS;have W:=wcells hc hH;have hlt:i<S.length:=(List.getElem?_eq_some_iff.1 hi).1;have hlt':(i:Int)<(S.length:Int):=by omega
 obtain⟨c0,at_,-,-⟩:=W;obtain⟨a0,a1,a2⟩:=at_ i s hi;have hsm:=hok.small s (List.mem_of_getElem? hi);have hl:=hok.len;have hor:=or_wh s.given i hsm (by omega);clear at_ hi
 go_enter func99,ntmps99
 go_wp2
 go_ret;exact⟨rfl,rfl⟩
end
end Go.Proofs.YtbecgkejdacidaaGreatDoor
namespace Go.Proofs.YtbecgkejdacidaaGreatDoor
open Go Go.RowKit
def zeroSlot:Slot:=⟨0,0,0⟩
section
variable {b:Nat} {S:List Slot} {l R:List Blk}
theorem el_wslot:Elem prog 177 190 3 24 (.agg #[.int .i64 0,.int .u64 0,.int .u64 0]):=Elem.of underlying177 (by kernel_rfl) rfl
theorem wNew_any (w:World)(m:Nat)(hm:m <= 4096)(hH:Has w R):
  Calls prog 28 #[.int .i64 m] w fun e w'=>∃b l',e=.returned (.tuple #[pt b,.int .i64 0]) /\ WeaksIs b (List.replicate m zeroSlot) l' /\ Turn R w (l'++R) w':=by
 obtain⟨i,hi,hz,hsz,hby⟩:=el_wslot.info;have hmk:=fun W:World=>run_make_rows (P:=prog) 177 190 i _ el_wslot.ht hi hz .i64 .i64 m (by rw[hby];omega) (by omega) W;rw[hsz]at hmk;have hcells:(madeCells (Value.agg #[.int .i64 0,.int .u64 0,.int .u64 0]).cells (m*3)).toList=(List.replicate m zeroSlot).flatMap Slot.vals:=made_rows Slot.vals_length (by omega) zeroSlot m;generalize madeCells (Value.agg #[.int .i64 0,.int .u64 0,.int .u64 0]).cells (m*3)=cur at*;have T:=((Turn.refl hH).alloc (.cells cur 190)).alloc (.cells #[.slice (some ⟨w.heap.size,0,none⟩) m m] 179);have Hcells:=uh hcells;clear hi hz hsz hby hcells
 go_enter func28,ntmps28
 go_wp2
 go_ret2;rw[World.size_alloc]at T;have hok:WkOk (List.replicate m zeroSlot):=⟨by simpa using hm,fun s hs=>by rw[List.eq_of_mem_replicate hs];exact(by decide),fun s hs=>by rw[List.eq_of_mem_replicate hs];exact(by decide)⟩;exact⟨w.heap.size+1,[(w.heap.size+1,.cells #[.slice (some ⟨w.heap.size,0,none⟩) m m] 179),(w.heap.size,.cells cur 190)],rfl,⟨hok,w.heap.size,cur,by simp,Hcells.out⟩,T⟩
end
end Go.Proofs.YtbecgkejdacidaaGreatDoor
namespace Go.Proofs.YtbecgkejdacidaaGreatDoor
open Go Go.RowKit
section
variable {b:Nat} {S:List Slot} {l R:List Blk}
theorem wFree_any (w:World)(hH:Has w R)(s:Slot):
  Calls prog 98 #[.agg #[.int .i64 s.st,.int .u64 s.addr,.int .u64 s.given]] w fun e w'=>e=.returned (.bool (decide (s.st=0))) /\ Turn R w R w':=by
 have T:=((Turn.refl hH).alloc (.cells #[.int .i64 s.st,.int .u64 s.addr,.int .u64 s.given] 190)).tail
 by_cases h:s.st=0
 · have hd:decide (s.st=0)=true:=by simpa using h
   rw[hd,h];rw[h]at T;clear h hd
   go_enter func98,ntmps98
   go_wp2
   go_ret;exact⟨rfl,T⟩
 · have hd:decide (s.st=0)=false:=by simpa using h
   have hb:((s.st:Int) == 0)=false:=(by rw[beq_eq_false_iff_ne];omega);rw[hd];clear h hd
   go_enter func98,ntmps98
   go_wp2
   go_ret;exact⟨rfl,T⟩
def IsFirst (S:List Slot)(r:Int):Prop:=
 (∃i s,r=(i:Nat) /\ S[i]?= some s /\ s.st=0 /\ ∀(j:Nat) (t:Slot),j<i -> S[j]?= some t -> t.st≠0)∨(r= -1 /\ ∀(j:Nat) (t:Slot),S[j]?= some t -> t.st≠0)
def FirstPost (S:List Slot)(L:List Blk)(w:World)(e:Ending)(w':World):Prop:=∃r,e=.returned (.int .i64 r) /\ IsFirst S r /\ Turn L w L w'
theorem wIndex_any (w:World){g:Nat}{cur:Array Value}(hl:S.length <= 4096)(hc:cur.toList=S.flatMap Slot.vals)
  (hH:Has w ([(b,.cells #[.slice (some ⟨g,0,none⟩) S.length S.length] 179),(g,.cells cur 190)]++R)):
  Calls prog 97 #[.slice (some ⟨g,0,none⟩) S.length S.length,.func (.func 98) #[] #[]] w (FirstPost S ([(b,.cells #[.slice (some ⟨g,0,none⟩) S.length S.length] 179),(g,.cells cur 190)]++R) w):=by
 generalize hL:[(b,Obj.cells #[.slice (some ⟨g,0,none⟩) S.length S.length] 179 (0,0)),(g,Obj.cells cur 190 (0,0))]++R=L at*;have HL:=uh hL;clear hL
 go_enter func97,ntmps97
 go_wp2_with fail
 go_loopw [8] (fun i wr=>∃k:Nat,k <= S.length /\ i=.int .i64 k /\ (∀(j:Nat) (t:Slot),j<k -> S[j]?= some t -> t.st≠0) /\ Turn L w L wr) (fun i _=>S.length-(intOf i).toNat)
 case atStart=>exact⟨0,Nat.zero_le _,rfl,fun j t hj=>absurd hj (Nat.not_lt_zero _),Turn.refl hH⟩
 case round=>
  obtain⟨k,hk,rfl,hb,T⟩:=hrel;have Hb:=uh hb;clear hb
  by_cases hlt:k<S.length
  · have hlt':(k:Int)<(S.length:Int):=by omega
    obtain⟨s,hs⟩:∃s,S[k]?= some s:=⟨S[k]'hlt,List.getElem?_eq_getElem _⟩;have W:=wcells (b:=b) (g:=g) (R:=R) hc (by rw[HL.out];exact T.has);obtain⟨c0,at_,fr,ne⟩:=W;obtain⟨a0,a1,a2⟩:=at_ k s hs;have Hs:=uh hs;clear at_ fr hs c0
    by_cases hst:s.st=0
    · have hd:decide (s.st=0)=true:=by simpa using hst
      have Hd:=uh hd;have Hst:=uh hst;clear hd hst
      go_wp2_with (go_at_call 98;refine(wFree_any _ T.has s).mono ?_;rintro e w1 ⟨rfl,T1⟩;rw[Hd.out])
      go_ret;exact⟨_,rfl,Or.inl ⟨k,s,rfl,Hs.out,Hst.out,Hb.out⟩,T.trans T1⟩
    · have hd:decide (s.st=0)=false:=by simpa using hst
      have Hd:=uh hd;have Hst:=uh hst;clear hd hst
      go_wp2_with (go_at_call 98;refine(wFree_any _ T.has s).mono ?_;rintro e w1 ⟨rfl,T1⟩;rw[Hd.out])
      go_roundw
      case rel=>
       refine⟨k+1,by omega,by go_num,fun j t hj ht=>?_,T.trans T1⟩
       by_cases hjk:j=k
       · subst hjk
         have:=Hs.out.symm.trans ht
         cases this
         exact Hst.out
       ·exact Hb.out j t (by omega) ht
      case measure=>simp[intOf];omega
  · have hall:∀(j:Nat) (t:Slot),S[j]?= some t -> t.st≠0:=fun j t ht=>Hb.out j t (by have:=(List.getElem?_eq_some_iff.1 ht).1;omega) ht
    have Hall:=uh hall;clear hall
    go_wp2
    go_ret;exact⟨_,rfl,Or.inr ⟨rfl,Hall.out⟩,T⟩
theorem set3_toList {cur:Array Value}(hc:cur.toList=S.flatMap Slot.vals)(i:Nat)(s:Slot)(hi:S[i]?= some s)(st:Nat)(a:Int)(g:Nat):
  (((cur.setIfInBounds (i*3) (.int .i64 st)).setIfInBounds (i*3+1) (.int .u64 a)).setIfInBounds (i*3+2) (.int .u64 g)).toList=(S.set i ⟨st,a,g⟩).flatMap Slot.vals:=by
 have hlt:i<S.length:=(List.getElem?_eq_some_iff.1 hi).1;have h1:=set_toList hc i 0 (by omega) s { s with st:=st } (.int .i64 st) hi rfl;have h2:=set_toList h1 i 1 (by omega) { s with st:=st } { s with st:=st,addr:=a } (.int .u64 a) (List.getElem?_set_self hlt) rfl;rw[List.set_set]at h2;have h3:=set_toList h2 i 2 (by omega) { s with st:=st,addr:=a } ⟨st,a,g⟩ (.int .u64 g) (List.getElem?_set_self hlt) rfl;rw[List.set_set]at h3;exact h3
def AddPost (b:Nat)(S:List Slot)(a:Int)(l R:List Blk)(w:World)(e:Ending)(w':World):Prop:=
 (∃i s l',S[i]?= some s /\ s.st=0 /\ (∀(j:Nat) (t:Slot),j<i -> S[j]?= some t -> t.st≠0) /\ e=.returned (.tuple #[.int .u64 (wh i (s.given+1)),.int .i64 0]) /\ WeaksIs b (S.set i ⟨1,a,s.given+1⟩) l' /\ Turn (l++R) w (l'++R) w')∨
 ((∀(j:Nat) (t:Slot),S[j]?= some t -> t.st≠0) /\ e=.returned (.tuple #[.int .u64 0,.int .i64 4]) /\ Turn (l++R) w (l++R) w')
theorem wAdd_any (w:World)(hS:WeaksIs b S l)(hH:Has w (l++R))(a:Int)(ha:a≠0)(hsm:∀s∈S,s.given<4294967294):
  Calls prog 32 #[pt b,.int .u64 a] w (AddPost b S a l R w):=by
 obtain⟨hok,g,cur,rfl,hc⟩:=hS;have hl:=hok.len;have hb0:(a == 0)=false:=by rw[beq_eq_false_iff_ne];exact ha
 have W:=wcells hc hH;obtain⟨c0,-,-,hne⟩:=W;have hidx:=wIndex_any w hl hc hH;generalize hL:[(b,Obj.cells #[.slice (some ⟨g,0,none⟩) S.length S.length] 179 (0,0)),(g,Obj.cells cur 190 (0,0))]++R=L at*;have HL:=uh hL;have Hidx:=uh hidx;clear hL hidx ha
 go_enter func32,ntmps32
 go_wp2_with fail
 refine Hidx.out.mono ?_;rintro e w1 ⟨r,rfl,hr,T1⟩;clear c0;have W:=wcells (b:=b) (g:=g) (R:=R) hc (by rw[HL.out];exact T1.has);obtain⟨c0,at_,fr,-⟩:=W;rcases hr with⟨i,s,rfl,hi,hst,hfirst⟩|⟨rfl,hall⟩
 · obtain⟨a0,a1,a2⟩:=at_ i s hi
   have f0:=fr (i*3);have f1:=fr (i*3+1);have f2:=fr (i*3+2);have hlt:i<S.length:=(List.getElem?_eq_some_iff.1 hi).1;have hlt':(i:Int)<(S.length:Int):=(by omega);have hg:=hsm s (List.mem_of_getElem? hi);have Hi:=uh hi;have Hst:=uh hst;have Hf:=uh hfirst;clear at_ fr hi hst hfirst
   go_wp2_with fail
   go_region
   all_goals go_wp2_with fail
   all_goals
    have hc3:=set3_toList hc i s Hi.out 1 a (s.given+1);have T2:=T1.perm (l2:=(g,.cells cur 190)::((b,.cells #[.slice (some ⟨g,0,none⟩) S.length S.length] 179)::R)) (by rw[←HL.out];exact perm_of fun c=>by simp;omega);have T3:=(((T2.setCell (i*3) (.int .i64 1)).setCell (i*3+1) (.int .u64 a)).setCell (i*3+2) (.int .u64 ((s.given:Int)+1))).drew;have T4:=T3.perm (l2:=[(b,.cells #[.slice (some ⟨g,0,none⟩) S.length S.length] 179),(g,.cells (((cur.setIfInBounds (i*3) (.int .i64 1)).setIfInBounds (i*3+1) (.int .u64 a)).setIfInBounds (i*3+2) (.int .u64 ((s.given:Int)+1))) 190)]++R) po;have hok':WkOk (S.set i ⟨1,a,s.given+1⟩):=hok.set i _ (by show s.given+1<4294967295;omega) (by show 1 <= 2;omega);have hS':WeaksIs b (S.set i ⟨1,a,s.given+1⟩) [(b,.cells #[.slice (some ⟨g,0,none⟩) S.length S.length] 179),(g,.cells (((cur.setIfInBounds (i*3) (.int .i64 1)).setIfInBounds (i*3+1) (.int .u64 a)).setIfInBounds (i*3+2) (.int .u64 ((s.given:Int)+1))) 190)]:=WeaksIs.mk' (n:=S.length) hok' (by simp) hc3;refine(weak_any _ hS' T4.has i ⟨1,a,s.given+1⟩ (List.getElem?_set_self hlt)).mono ?_
    rintro e w2 ⟨rfl,rfl⟩
    go_wp2
    go_ret2;refine Or.inl ⟨i,s,_,Hi.out,Hst.out,Hf.out,rfl,hS',?_⟩;rw[HL.out];exact T4
 · have Hall:=uh hall
   clear at_ fr hall
   go_wp2
   go_ret2;refine Or.inr ⟨Hall.out,rfl,?_⟩;rw[HL.out];exact T1
end
end Go.Proofs.YtbecgkejdacidaaGreatDoor
namespace Go.Proofs.YtbecgkejdacidaaGreatDoor
open Go Go.RowKit
def EachPost (I:Nat -> Nat -> World -> Prop)(N:Nat)(e:Ending)(w':World):Prop:=e=.returned (.tuple #[]) /\ ∃k,k <= N /\ I N k w'
section
variable {b:Nat} {S:List Slot} {l R:List Blk}
theorem each_gen (f:FuncId)(ef:∀args w,(callFunc f args).run prog w=.ok (.enter f args) w)(caps:Array Value)(b g N:Nat)(hN:N <= 4096)(I:Nat -> Nat -> World -> Prop)
  (hread:∀i k W,I i k W -> W.cell? ⟨b,0,none⟩=some (.slice (some ⟨g,0,none⟩) N N))
  (hst:∀i k W,i<N -> I i k W -> ∃st:Nat,W.cell? ⟨g,i*3,none⟩=some (.int .i64 st) /\ (st=0 -> I (i+1) k W) /\
    (st≠0 -> k <= i -> Calls prog f (#[.int .i64 k,.int .i64 i,.pointer (some ⟨g,i*3,none⟩)]++caps) W fun e W'=>e=.returned (.tuple #[]) /\ I (i+1) (k+1) W'))
  (w:World)(h0:I 0 0 w):
  Calls prog 164 #[pt b,.func (.func f) #[] caps] w (EachPost I N):=by
 have Hread:=uh hread;have Hst:=uh hst;have c0:=hread 0 0 w h0;clear hread hst
 go_enter func164,ntmps164
 go_wp2_with fail
 go_loopw [4,13] (fun kv iv wr=>∃k i:Nat,k <= i /\ i <= N /\ iv=.int .i64 i /\ kv=.int .i64 k /\ I i k wr) (fun _ iv _=>N-(intOf iv).toNat)
 case atStart=>exact⟨0,0,Nat.le_refl _,Nat.zero_le _,rfl,rfl,h0⟩
 case round=>
  clear c0 h0;obtain⟨k,i,hki,hiN,rfl,rfl,hI⟩:=hrel
  by_cases hlt:i<N
  · have hlt':(i:Int)<(N:Int):=by omega
    have c0:=Hread.out i k wr hI;obtain⟨st,hc,hz,hnz⟩:=Hst.out i k wr hlt hI;have Hz:=uh hz;have Hnz:=uh hnz;clear hz hnz hI
    by_cases hs:st=0
    · have Hs:=uh hs
      rw[hs]at hc;clear hs
      go_wp2
      go_roundw
      case rel=>exact⟨k,i+1,by omega,by omega,by go_num,rfl,Hz.out Hs.out⟩
      case measure=>simp[intOf];omega
    · have hb:((st:Int) == 0)=false:=by rw[beq_eq_false_iff_ne];omega
      have hb2:((st:Int) != 0)=true:=(by rw[bne_iff_ne];omega);have Hs:=uh hs;clear hs
      go_wp2_with (go_at_fn f;refine(Hnz.out Hs.out hki).mono ?_;rintro e w' ⟨rfl,hI'⟩)
      go_roundw
      case rel=>exact⟨k+1,i+1,by omega,by omega,by go_num,by go_num,hI'⟩
      case measure=>simp[intOf];omega
  · obtain rfl:i=N:=by omega
    go_wp2
    go_end0;exact⟨rfl,k,hki,hI⟩
def cnt (S:List Slot):Nat:=(S.filter fun s=>s.st != 0).length
theorem cnt_take_zero {k:Nat}{s:Slot}(h:S[k]?= some s)(hs:s.st=0):cnt (S.take (k+1))=cnt (S.take k):=by
 rw[cnt,List.take_add_one,h];simp[cnt,hs]
theorem cnt_take_more {k:Nat}{s:Slot}(h:S[k]?= some s)(hs:s.st≠0):cnt (S.take (k+1))=cnt (S.take k)+1:=by
 rw[cnt,List.take_add_one,h];simp[cnt,hs]
end
end Go.Proofs.YtbecgkejdacidaaGreatDoor
namespace Go.Proofs.YtbecgkejdacidaaGreatDoor
open Go Go.RowKit
def w64s (ws:List Int):List Value:=ws.map (Value.int .u64)
theorem w64s_snoc (ws:List Int)(v:Int):w64s (ws++[v])=w64s ws++[.int .u64 v]:=by simp[w64s]
theorem el_w64:Elem prog 61 47 1 8 (.int .u64 0):=Elem.of underlying61 (by kernel_rfl) rfl
def addrs (S:List Slot):List Int:=(S.filter fun s=>s.st != 0).map Slot.addr
theorem addrs_take_zero {S:List Slot}{k:Nat}{s:Slot}(h:S[k]?= some s)(hs:s.st=0):addrs (S.take (k+1))=addrs (S.take k):=by
 rw[addrs,List.take_add_one,h];simp[addrs,hs]
theorem addrs_take_more {S:List Slot}{k:Nat}{s:Slot}(h:S[k]?= some s)(hs:s.st≠0):addrs (S.take (k+1))=addrs (S.take k)++[s.addr]:=by
 rw[addrs,List.take_add_one,h];simp[addrs,hs]
section
variable {b:Nat} {S:List Slot} {l R:List Blk}
abbrev varBlk (B:Nat)(a:Option Addr)(n p:Nat):Blk:=(B,.cells #[.slice a n p] 61)
def CollectPost (B:Nat)(n:Nat)(xs:List Int)(v:Int)(L:List Blk)(w0:World)(e:Ending)(w':World):Prop:=
 e=.returned (.tuple #[]) /\ ∃a p lr,Row 47 1 a (n+1) p (w64s (xs++[v])) lr /\ Turn L w0 (varBlk B a (n+1) p::(lr++L)) w'
theorem wCollect_any (w0 w:World)(L:List Blk)(B:Nat)(a:Option Addr)(n p:Nat)(xs:List Int)(lr:List Blk)(v:Int)(x y:Int)(g i:Nat)(hr:Row 47 1 a n p (w64s xs) lr)(T:Turn L w0 (varBlk B a n p::(lr++L)) w)
  (hn:n <= 100000)(ha:w.cell? ⟨g,i*3+1,none⟩=some (.int .u64 v)):
  Calls prog 166 #[.int .i64 x,.int .i64 y,.pointer (some ⟨g,i*3,none⟩),pt B] w (CollectPost B n xs v L w0):=by
 have hm:varBlk B a n p∈varBlk B a n p::(lr++L):=List.mem_cons_self ..;have c0:=T.has.cell hm 0;have f0:=T.has.free hm 0;have hlt:=T.has.lt (b:=B) (by simp);have hne:=World.new_ne w ⟨B,0,none⟩ c0;have hne1:=World.new_ne w ⟨g,i*3+1,none⟩ ha;have T0:=((T.alloc (.cells #[.int .u64 v] 47)).drew).perm (l2:=lr++((w.heap.size,.cells #[.int .u64 v] 47)::varBlk B a n p::L)) po;have h63:n+1 <= maxLen:=by unfold maxLen;omega
 have hby:(n+1)*8 <= 140737488355328:=by omega
 clear hm
 go_enter func166,ntmps166
 go_wp2
 go_region_law ((refine step_append_row (by rfl) _ _ (by rfl) el_w64 (by rfl) hr T0.has (by rfl) (news:=[.int .u64 v]) (by rfl) (news_of (heap_alloc_new _ _)) (by simp[Value.oneCell']) h63 hby ?_;intro a' p' l' w1 hr1 T1 hno;have V1:=(T0.trans T1).perm (l2:=varBlk B a n p::((w.heap.size,.cells #[.int .u64 v] 47)::(l'++L))) po;have d0:=V1.has.cell (b:=B) (List.mem_cons_self ..) 0;have e0:=V1.has.free (b:=B) (List.mem_cons_self ..) 0))
 all_goals go_wp2
 all_goals
  go_end0;refine⟨rfl,a',p',l',by rw[w64s_snoc];exact hr1,?_⟩;exact(((V1.setCell 0 (.slice a' (n+1) p')).perm (l2:=(w.heap.size,.cells #[.int .u64 v] 47)::(varBlk B a' (n+1) p'::(l'++L))) (perm_of fun c=>by simp[varBlk];omega)).tail)
def RefsPost (S:List Slot)(L:List Blk)(w:World)(e:Ending)(w':World):Prop:=
 ∃a p lr,e=.returned (.slice a (cnt S) p) /\ Row 47 1 a (cnt S) p (w64s (addrs S)) lr /\ Turn L w (lr++L) w'
theorem wRefs_any (w:World)(hS:WeaksIs b S l)(hH:Has w (l++R)):
  Calls prog 87 #[pt b] w (RefsPost S (l++R) w):=by
 obtain⟨hok,g,cur,rfl,hc⟩:=hS;have hl:=hok.len;have T0:=(Turn.refl hH).alloc (.cells #[.slice none 0 0] 61);have ef:=enters_of func166 (by kernel_rfl) rfl;generalize hL:[(b,Obj.cells #[.slice (some ⟨g,0,none⟩) S.length S.length] 179 (0,0)),(g,Obj.cells cur 190 (0,0))]++R=L at*;have HL:=uh hL;clear hL
 have heach:∀W:World,Turn L w (varBlk w.heap.size none 0 0::L) W -> Calls prog 164 #[pt b,.func (.func 166) #[] #[pt w.heap.size]] W
   (EachPost (fun i k W=>k=cnt (S.take i) /\ ∃a p lr,Row 47 1 a k p (w64s (addrs (S.take i))) lr /\ Turn L w (varBlk w.heap.size a k p::(lr++L)) W) S.length):=by
  intro W T;refine each_gen _ ef #[pt w.heap.size] b g S.length hl _ ?_ ?_ W ⟨rfl,none,0,[],Row.nil _ _,T⟩
  · rintro i k W ⟨-,a,p,lr,-,T⟩
    exact(wcells (b:=b) (g:=g) (R:=R) hc (by rw[HL.out];exact T.tail.drop.has)).c0
  · rintro i k W hi ⟨hk,a,p,lr,hr,T⟩
    obtain⟨s,hs⟩:∃s,S[i]?= some s:=⟨S[i]'hi,List.getElem?_eq_getElem _⟩;have Wc:=wcells (b:=b) (g:=g) (R:=R) hc (by rw[HL.out];exact T.tail.drop.has);obtain⟨a0,a1,a2⟩:=Wc.at_ i s hs;refine⟨s.st,a0,fun h0=>⟨by rw[cnt_take_zero hs h0];exact hk,a,p,lr,by rw[addrs_take_zero hs h0];exact hr,T⟩,fun h0 hki=>?_⟩;refine(wCollect_any w W L w.heap.size a k p (addrs (S.take i)) lr s.addr k i g i hr T (by omega) a1).mono ?_;rintro e w' ⟨rfl,a',p',lr',hr',T'⟩;refine⟨rfl,by rw[cnt_take_more hs h0,hk],a',p',lr',by rw[addrs_take_more hs h0];exact hr',T'⟩
 have Heach:=uh heach;clear heach ef
 go_enter func87,ntmps87
 go_wp2_with fail
 refine(Heach.out _ T0).mono ?_;rintro e w1 ⟨rfl,k,hk,hkc,a,p,lr,hr,T1⟩;rw[List.take_of_length_le (Nat.le_refl _)]at hkc hr;have hc1:=T1.has.cell (b:=w.heap.size) (List.mem_cons_self ..) 0;have hf1:=T1.has.free (b:=w.heap.size) (List.mem_cons_self ..) 0;have T2:=(T1.setCell 0 (.slice a k p)).tail;have Hkc:=uh hkc;clear hkc T1
 go_wp2
 refine bodyPost_ret (v:=.slice a k p) ?_ rfl ?_
 ·simp[results,results87,go_sem,hc1]
 · refine⟨a,p,lr,by rw[Hkc.out],?_,T2⟩
   rw[←Hkc.out];exact hr
end
end Go.Proofs.YtbecgkejdacidaaGreatDoor
namespace Go.Proofs.YtbecgkejdacidaaGreatDoor
open Go Go.RowKit
section
variable {b:Nat} {S:List Slot} {l R:List Blk}
theorem wAdd_at (w:World)(hS:WeaksIs b S l)(hH:Has w (l++R))(a:Int)(ha:a≠0)(hsm:∀s∈S,s.given<4294967294)(i:Nat)(s:Slot)(hi:S[i]?= some s)(hst:s.st=0)(hf:∀(j:Nat) (t:Slot),j<i -> S[j]?= some t -> t.st≠0):
  Calls prog 32 #[pt b,.int .u64 a] w fun e w'=>e=.returned (.tuple #[.int .u64 (wh i (s.given+1)),.int .i64 0]) /\ ∃l',WeaksIs b (S.set i ⟨1,a,s.given+1⟩) l' /\ Turn (l++R) w (l'++R) w':=by
 refine(wAdd_any w hS hH a ha hsm).mono ?_;rintro e w' (⟨i',s',l',hi',hst',hf',rfl,hS',T⟩|⟨hall,-,-⟩)
 · have hii:i'=i:=by
     rcases Nat.lt_trichotomy i' i with h|h|h
     ·exact absurd hst' (hf i' s' h hi')
     ·exact h
     ·exact absurd hst (hf' i s h hi)
   subst hii;have hss:=hi.symm.trans hi'
   cases hss
   exact⟨rfl,l',hS',T⟩
 ·exact absurd hst (hall i s hi)
end
end Go.Proofs.YtbecgkejdacidaaGreatDoor
namespace Go.Proofs.YtbecgkejdacidaaGreatDoor
section
open Go Go.RowKit
theorem el_wrow:Elem prog 168 86 1 8 (.int .u64 0):=Elem.of underlying168 (by kernel_rfl) rfl
def whL (S:List Slot)(k:Nat):List Int:=(List.range k).filterMap fun i=>match S[i]? with|some s=>if s.st=0 then none else some (wh i s.given)|none=>none
theorem whL_zero {S:List Slot}{k:Nat}{s:Slot}(h:S[k]?= some s)(hs:s.st=0):whL S (k+1)=whL S k:=by
 unfold whL;rw[List.range_succ,List.filterMap_append];simp[h,hs]
theorem whL_more {S:List Slot}{k:Nat}{s:Slot}(h:S[k]?= some s)(hs:s.st≠0):whL S (k+1)=whL S k++[wh k s.given]:=by
 unfold whL;rw[List.range_succ,List.filterMap_append];simp[h,hs]
abbrev wlBlk (B:Nat)(a:Option Addr)(n p:Nat):Blk:=(B,.cells #[.slice a n p] 168)
theorem wCollL (w0 w:World)(L0 L:List Blk)(B B1:Nat)(a pb:Option Addr)(n p:Nat)(xs:List Int)(lr:List Blk)(v x i:Int)(sl:Value)(hr:Row 86 1 a n p (w64s xs) lr)(T:Turn L0 w0 (wlBlk B a n p::(lr++L)) w)
  (hn:n <= 100000)(hb:((B1,.cells #[.pointer pb] 68):Blk)∈L)(hF:Calls prog 99 #[.pointer pb,.int .i64 i] w.drew fun e w'=>e=.returned (.int .u64 v) /\ w.drew=w'):
  Calls prog 165 #[.int .i64 x,.int .i64 i,sl,pt B,pt B1] w fun e w'=>e=.returned (.tuple #[]) /\ ∃a p lr,Row 86 1 a (n+1) p (w64s (xs++[v])) lr /\ Turn L0 w0 (wlBlk B a (n+1) p::(lr++L)) w':=by
 have TD:=T.drew;have c0:=T.has.cell (b:=B) (c:=#[.slice a n p]) (e:=168) (f:=(0,0)) (by simp) 0;have c1:w.cell? ⟨B1,0,none⟩=some (.pointer pb):=T.has.cell (b:=B1) (c:=#[.pointer pb]) (e:=68) (f:=(0,0)) (by simp only[List.mem_cons,List.mem_append];exact .inr (.inr hb)) 0;have f0:=T.has.free (b:=B) (c:=#[.slice a n p]) (e:=168) (by simp) 0;have hne:=World.new_ne w ⟨B,0,none⟩ c0;have hne1:=World.new_ne w ⟨B1,0,none⟩ c1;have ca:(w.alloc (.cells #[.int .u64 v] 86)).cell? ⟨B,0,none⟩=some (.slice a n p):=(T.alloc (.cells #[.int .u64 v] 86)).has.cell (b:=B) (c:=#[.slice a n p]) (e:=168) (f:=(0,0)) (by simp) 0;have T0:=((T.alloc (.cells #[.int .u64 v] 86)).drew).perm (l2:=lr++((w.heap.size,.cells #[.int .u64 v] 86)::wlBlk B a n p::L)) po;have h63:n+1 <= maxLen:=by unfold maxLen;omega
 have hby:(n+1)*8 <= 140737488355328:=by omega
 have Hr:=uh hr;have HF:=uh hF;have HT0:=uh T0;clear hr T hF TD T0 hb
 go_enter func165,ntmps165
 go_wp2
 go_region_law (first
  | (go_simp;go_at_call 99;refine HF.out.mono ?_;rintro e w' ⟨rfl,rfl⟩)
  | (refine step_append_row (by rfl) _ _ (by rfl) el_wrow (by rfl) Hr.out HT0.out.has (by rfl) (news:=[.int .u64 v]) (by rfl) (news_of (heap_alloc_new _ _)) (by simp[Value.oneCell']) h63 hby ?_;intro a9 p9 l9 w1 hr1 T1 hno;have V1:=(HT0.out.trans T1).perm (l2:=wlBlk B a n p::(l9++((w.heap.size,.cells #[.int .u64 v] 86)::L))) po;have d0:=V1.has.cell (b:=B) (List.mem_cons_self ..) 0;have e0:=V1.has.free (b:=B) (List.mem_cons_self ..) 0))
 all_goals go_wp2
 all_goals
  go_end0;refine⟨rfl,a9,p9,l9,by rw[w64s_snoc];exact hr1,?_⟩;exact(V1.setCell 0 (.slice a9 (n+1) p9)).sub (by simp)
section
variable {b:Nat} {S:List Slot} {l R:List Blk}
def WListPost (S:List Slot)(L:List Blk)(w:World)(e:Ending)(w':World):Prop:=
 ∃a p lr,e=.returned (.slice a (cnt S) p) /\ Row 86 1 a (cnt S) p (w64s (whL S S.length)) lr /\ Turn L w (lr++L) w'
theorem wList_any (w:World)(hS:WeaksIs b S l)(hH:Has w (l++R)):
  Calls prog 86 #[pt b] w (WListPost S (l++R) w):=by
 have hS0:=hS;obtain⟨hok,g,cur,rfl,hc⟩:=hS;have hl:=hok.len;have T0:=((Turn.refl hH).alloc (.cells #[pt b] 68)).alloc (.cells #[.slice none 0 0] 168);rw[World.size_alloc]at T0;have q9:=T0.cell2 0;have ef:=enters_of func165 (by kernel_rfl) rfl;generalize hL:[(b,Obj.cells #[.slice (some ⟨g,0,none⟩) S.length S.length] 179 (0,0)),(g,Obj.cells cur 190 (0,0))]++R=L at*;have HL:=uh hL;clear hL
 have heach:∀W:World,Turn L w (wlBlk (w.heap.size+1) none 0 0::((w.heap.size,.cells #[pt b] 68)::L)) W -> Calls prog 164 #[pt b,.func (.func 165) #[] #[pt (w.heap.size+1),pt w.heap.size]] W
   (EachPost (fun i k W=>k=cnt (S.take i) /\ ∃a p lr,Row 86 1 a k p (w64s (whL S i)) lr /\ Turn L w (wlBlk (w.heap.size+1) a k p::(lr++((w.heap.size,.cells #[pt b] 68)::L))) W) S.length):=by
  intro W T;refine each_gen _ ef #[pt (w.heap.size+1),pt w.heap.size] b g S.length hl _ ?_ ?_ W ⟨rfl,none,0,[],Row.nil _ _,T⟩
  · rintro i k W ⟨-,a,p,lr,-,T⟩
    exact(wcells (b:=b) (g:=g) (R:=R) hc (by rw[HL.out];exact T.tail.drop.tail.has)).c0
  · rintro i k W hi ⟨hk,a,p,lr,hr,T⟩
    obtain⟨s,hs⟩:∃s,S[i]?= some s:=⟨S[i]'hi,List.getElem?_eq_getElem _⟩;have Wc:=wcells (b:=b) (g:=g) (R:=R) hc (by rw[HL.out];exact T.tail.drop.tail.has);obtain⟨a0,a1,a2⟩:=Wc.at_ i s hs;refine⟨s.st,a0,fun h0=>⟨by rw[cnt_take_zero hs h0];exact hk,a,p,lr,by rw[whL_zero hs h0];exact hr,T⟩,fun h0 hki=>?_⟩
    refine(wCollL w W L ((w.heap.size,.cells #[pt b] 68)::L) (w.heap.size+1) w.heap.size a (some ⟨b,0,none⟩) k p (whL S i) lr (wh i s.given) k i (.pointer (some ⟨g,i*3,none⟩)) hr T (by omega) (List.mem_cons_self ..)
     (weak_any W.drew hS0 (R:=R) (by rw[HL.out];exact T.drew.tail.drop.tail.has) i s hs)).mono ?_
    rintro e w' ⟨rfl,a',p',lr',hr',T'⟩;exact⟨rfl,by rw[cnt_take_more hs h0,hk],a',p',lr',by rw[whL_more hs h0];exact hr',T'⟩
 have Heach:=uh heach;have HT0:=uh T0;clear heach ef
 go_enter func86,ntmps86
 go_wp2_with fail
 refine(Heach.out _ HT0.out).mono ?_;rintro e w1 ⟨rfl,k,hk,hkc,a,p,lr,hr,T1⟩;rw[List.take_of_length_le (Nat.le_refl _)]at hkc;have hc1:=T1.has.cell (b:=w.heap.size+1) (List.mem_cons_self ..) 0;have hf1:=T1.has.free (b:=w.heap.size+1) (List.mem_cons_self ..) 0;have T2:=(T1.setCell 0 (.slice a k p)).tail.drop.tail;have T3:=((T1.setCell 0 (.slice a k p)).tail).sub (l2:=lr++L) (by simp);have Hkc:=uh hkc;clear hkc T1 T2
 go_wp2
 refine bodyPost_ret (v:=.slice a k p) ?_ rfl ?_
 ·simp[results,results86,go_sem,hc1]
 · refine⟨a,p,lr,by rw[Hkc.out],?_,T3⟩
   rw[←Hkc.out];exact hr
end
theorem Turn.free {L A:List Blk}{w w':World}(h:Turn L w (A++L) w')(hH:Has w L):Turn [] w A w':=by
 have hnd:=h.has.nd;rw[keys_append,List.nodup_append]at hnd;refine⟨h.os,h.tape,h.output,h.size,h.has.sub (List.sublist_append_left ..),fun b hb=>?_,fun b hb _=>h.keeps hH b hb⟩;rcases h.new b (by rw[keys_append];exact List.mem_append.2 (.inl hb))with h1|h1
 ·exact absurd rfl (hnd.2.2 b hb b h1)
 ·exact .inr h1
theorem Has.later {L:List Blk}{w w':World}(hH:Has w L)(hk:Below w.heap.size w w'):Has w' L:=
 ⟨hH.nd,fun b o hm=>(hk.block b (lt_of_block (hH.own b o hm))).trans (hH.own b o hm)⟩
def wdl (S:List Slot):List (Nat×Nat):=((whL S S.length).map Int.toNat).zip ((addrs S).map Int.toNat)
theorem w64_nat {xs:List Int}(h0:∀x∈xs,0 <= x):w64s xs=n64s (xs.map Int.toNat):=by
 unfold w64s n64s;rw[List.map_map];refine List.map_congr_left fun x hx=>?_
 show Value.int .u64 x=Value.int .u64 (x.toNat:Int)
 rw[Int.toNat_of_nonneg (h0 x hx)]
theorem whL_nat (S:List Slot)(k:Nat):∀x∈whL S k,0 <= x:=by
 intro x hx;unfold whL at hx;obtain⟨i,-,h⟩:=List.mem_filterMap.1 hx
 split at h
 · split at h
   ·cases h
   · cases h
     unfold wh;exact Int.natCast_nonneg _
 ·cases h
theorem whL_len (S:List Slot):∀k,k <= S.length -> (whL S k).length=cnt (S.take k)
 | 0,_=>by simp[whL,cnt]
 | k+1,hk=>by
  obtain⟨s,hs⟩:∃s,S[k]?= some s:=⟨S[k]'(by omega),List.getElem?_eq_getElem _⟩;have ih:=whL_len S k (by omega)
  by_cases h0:s.st=0
  ·rw[whL_zero hs h0,cnt_take_zero hs h0,ih]
  · rw[whL_more hs h0,cnt_take_more hs h0,List.length_append,ih]
    rfl
theorem wdl_fst (S:List Slot):(wdl S).map (·.1)=(whL S S.length).map Int.toNat:=by
 unfold wdl;refine List.map_fst_zip ?_;rw[List.length_map,List.length_map,whL_len S _ (Nat.le_refl _),List.take_length];unfold addrs cnt;rw[List.length_map];exact Nat.le_refl _
theorem wdl_snd (S:List Slot):(wdl S).map (·.2)=(addrs S).map Int.toNat:=by
 unfold wdl;refine List.map_snd_zip ?_;rw[List.length_map,List.length_map,whL_len S _ (Nat.le_refl _),List.take_length];unfold addrs cnt;rw[List.length_map];exact Nat.le_refl _
theorem tells_wrefs (w:World)(b:Nat)(S:List Slot)(l:List Blk)(hS:WeaksIs b S l)(hH:Has w l)(h0:∀s∈S,0 <= s.addr):Tells 87 47 (some ⟨b,0,none⟩) w ((wdl S).map (·.2)):=fun w' hk=>by
 have hH':Has w' (l++[]):=by rw[List.append_nil];exact hH.later hk
 refine(wRefs_any w' hS hH').mono ?_;rintro e w2 ⟨a,p,lr,rfl,hr,T⟩;have hl:((wdl S).map (·.2)).length=cnt S:=by rw[wdl_snd,List.length_map];unfold addrs cnt;rw[List.length_map]
 rw[w64_nat (fun x hx=>by obtain⟨s,hs,rfl⟩:=List.mem_map.1 hx;exact h0 s (List.mem_filter.1 hs).1),←wdl_snd]at hr;rw[hl];exact⟨a,p,lr,rfl,hr,T.free hH'⟩
theorem tells_wlist (w:World)(b:Nat)(S:List Slot)(l:List Blk)(hS:WeaksIs b S l)(hH:Has w l):Tells 86 86 (some ⟨b,0,none⟩) w ((wdl S).map (·.1)):=fun w' hk=>by
 have hH':Has w' (l++[]):=by rw[List.append_nil];exact hH.later hk
 refine(wList_any w' hS hH').mono ?_;rintro e w2 ⟨a,p,lr,rfl,hr,T⟩;have hl:((wdl S).map (·.1)).length=cnt S:=by rw[wdl_fst,List.length_map,whL_len S _ (Nat.le_refl _),List.take_length]
 rw[w64_nat (whL_nat S _),←wdl_fst]at hr;rw[hl];exact⟨a,p,lr,rfl,hr,T.free hH'⟩
theorem Chain.asc {L:List Ty}{W:List Nat}:∀{cs:List Ce} {g e:Nat},Chain L W g cs e -> (∀c∈cs,g <= c.1) /\ List.Pairwise (fun c d:Ce=>c.1+c.2.size <= d.1) cs
 | [],_,_,_=>⟨(fun _ h=>by cases h),List.Pairwise.nil⟩
 | c::cs,g,e,h=>by
  obtain⟨h1,h2,h3⟩:=h;obtain⟨k1,k2⟩:=Chain.asc h3;refine⟨fun d hd=>?_,List.pairwise_cons.2 ⟨fun d hd=>?_,k2⟩⟩
  · rcases List.mem_cons.1 hd with rfl|hd
    ·omega
    · have:=k1 d hd
      omega
  · have:=k1 d hd
    omega
theorem filter_one {α:Type}{q:α -> Bool}{p0:α}:∀{P:List α},P.Nodup -> p0∈P -> (∀p∈P,q p=true↔p=p0) -> P.filter q=[p0]
 | [],_,h,_=>by cases h
 | p::P,hn,hm,hq=>by
  obtain⟨h1,h2⟩:=List.nodup_cons.1 hn
  by_cases hp:p=p0
  · subst hp
    rw[List.filter_cons_of_pos ((hq p (List.mem_cons_self ..)).2 rfl)]
    congr 1
    refine List.filter_eq_nil_iff.2 fun x hx hqx=>?_;have:=(hq x (List.mem_cons_of_mem _ hx)).1 hqx;subst this;exact h1 hx
  · rw[List.filter_cons_of_neg (fun h=>hp ((hq p (List.mem_cons_self ..)).1 h))]
    refine filter_one h2 ?_ (fun x hx=>hq x (List.mem_cons_of_mem _ hx));rcases List.mem_cons.1 hm with h|h
    ·exact absurd h.symm hp
    ·exact h
def refsAt (L:List Ty)(os:List Ce):List (Nat×Nat):=os.flatMap fun c=>((tyAt L c.2.typ).refs c.2.len).map fun s=>(c.1,s)
theorem eds_map (L:List Ty)(W A:List Nat)(os:List Ce):eds L W A os=(refsAt L os).map fun p=>edg W A p.1 p.2:=by
 unfold eds refsAt;rw[List.map_flatMap]
 congr 1
 funext c
 unfold edsOf;rw[List.map_map]
 rfl
theorem refsAt_mem {L:List Ty}{os:List Ce}{p:Nat×Nat}:p∈refsAt L os↔∃c∈os,p.1=c.1 /\ p.2∈(tyAt L c.2.typ).refs c.2.len:=by
 unfold refsAt;rw[List.mem_flatMap]
 constructor
 · rintro⟨c,hc,h⟩
   obtain⟨s,hs,rfl⟩:=List.mem_map.1 h;exact⟨c,hc,rfl,hs⟩
 · rintro⟨c,hc,h1,h2⟩
   exact⟨c,hc,List.mem_map.2 ⟨p.2,h2,by rw[←h1]⟩⟩
theorem refs_nodup (t:Ty)(n:Nat):(t.refs n).Nodup:=List.nodup_range.filter _
theorem refsAt_nodup {L:List Ty}:∀{os:List Ce},os.Pairwise (fun c d=>c.1≠d.1) -> (refsAt L os).Nodup
 | [],_=>List.nodup_nil
 | c::os,h=>by
  obtain⟨h1,h2⟩:=List.pairwise_cons.1 h
  show(((tyAt L c.2.typ).refs c.2.len).map (fun s=>(c.1,s))++refsAt L os).Nodup
  refine List.nodup_append.2 ⟨?_,refsAt_nodup h2,fun a ha b hb=>?_⟩
  · rw[List.Nodup,List.pairwise_map]
    exact(refs_nodup _ _).imp fun hne he=>hne (Prod.mk.inj he).2
  · obtain⟨s,-,rfl⟩:=List.mem_map.1 ha
    obtain⟨d,hd,h3,-⟩:=refsAt_mem.1 hb;intro he;rw[←he]at h3;exact h1 d hd h3
theorem bads_one {L:List Ty}{W:List Nat}{cs:List Ce}(hC:Chain L W 0 cs (W.length/2))(h0:badsOf L W cs=[]){c:Ce}(hc:c∈objs cs){s v:Nat}(hs:s∈(tyAt L c.2.typ).refs c.2.len)(hv:v≠0)(ht:tgt (ats cs) v<0):
  badsOf L (W.set (2*c.1+1+s) v) cs=[(c.1,s,tgt (ats cs) v,v)]:=by
 have hin:∀p∈refsAt L (objs cs),∃d∈objs cs,p.1=d.1 /\ 1 <= d.2.size /\ 2*p.1+1+p.2<2*(d.1+d.2.size) /\ 2*p.1+1+p.2<W.length:=fun p hp=>by
  obtain⟨d,hd,h1,h2⟩:=refsAt_mem.1 hp;obtain⟨k1,k2⟩:=objs_mem hd;have hm:=hC.mem d k1;have h4:=(stands_slots hm.2.2 k2).1
  have h5:p.2<(tyAt L d.2.typ).slots d.2.len:=by
   unfold Ty.refs at h2;exact List.mem_range.1 (List.mem_filter.1 h2).1
  have h6:=hm.2.2.2.2;exact⟨d,hd,h1,hm.2.2.pos,by omega,by omega⟩
 have hasc:(objs cs).Pairwise (fun c d=>c.1+c.2.size <= d.1):=(hC.asc.2).sublist (List.filter_sublist ..)
 have hnd:(refsAt L (objs cs)).Nodup:=refsAt_nodup (hasc.imp_of_mem fun {c d} hcm hdm hlt he=>by
  obtain⟨k1,-⟩:=objs_mem hcm;have:=(hC.mem c k1).2.2.pos;omega)
 have hsep:∀c∈objs cs,∀d∈objs cs,c=d∨c.1+c.2.size <= d.1∨d.1+d.2.size <= c.1:=fun c hc d hd=>by
  obtain⟨i,hi,rfl⟩:=List.getElem_of_mem hc;obtain⟨j,hj,rfl⟩:=List.getElem_of_mem hd;rcases Nat.lt_trichotomy i j with h|h|h
  ·exact .inr (.inl (List.pairwise_iff_getElem.1 hasc i j hi hj h))
  · subst h
    exact .inl rfl
  ·exact .inr (.inr (List.pairwise_iff_getElem.1 hasc j i hj hi h))
 have hinj:∀p∈refsAt L (objs cs),∀r∈refsAt L (objs cs),2*p.1+1+p.2=2*r.1+1+r.2 -> p=r:=fun p hp r hr he=>by
  obtain⟨c,hc,h1,h2,h3,-⟩:=hin p hp;obtain⟨d,hd,k1,k2,k3,-⟩:=hin r hr;rcases hsep c hc d hd with rfl|h|h
  ·exact Prod.ext (by omega) (by omega)
  ·omega
  ·omega
 have hp0:(c.1,s)∈refsAt L (objs cs):=refsAt_mem.2 ⟨c,hc,rfl,hs⟩;obtain⟨-,-,-,-,-,hk⟩:=hin _ hp0;unfold badsOf at h0 ⊢;rw[eds_map]at h0 ⊢;rw[List.filter_map]at h0 ⊢;have h0':=List.map_eq_nil_iff.1 h0;rw[filter_one hnd hp0 (fun p hp=>?_)]
 · show [edg (W.set (2*c.1+1+s) v) (ats cs) c.1 s]=_
   unfold edg;rw[List.getD_eq_getElem?_getD,List.getElem?_set_self hk]
   rfl
 · have hb:=List.filter_eq_nil_iff.1 h0' p hp
   constructor
   · intro hq
     refine hinj p hp _ hp0 ?_;refine Decidable.byContradiction fun hne=>hb ?_
     have he:edg (W.set (2*c.1+1+s) v) (ats cs) p.1 p.2=edg W (ats cs) p.1 p.2:=by
      unfold edg;rw[List.getD_eq_getElem?_getD,List.getElem?_set_ne (fun h=>hne (by simp only;omega)),←List.getD_eq_getElem?_getD]
     show bad (edg W (ats cs) p.1 p.2)=true
     rw[←he];exact hq
   · rintro rfl
     show bad (edg (W.set (2*c.1+1+s) v) (ats cs) c.1 s)=true
     unfold edg bad;rw[List.getD_eq_getElem?_getD,List.getElem?_set_self hk];simp only[Option.getD_some,Bool.and_eq_true,bne_iff_ne,decide_eq_true_eq];exact⟨hv,ht⟩
end
section
open Go Go.RowKit Go.IntWalk
theorem acells (w:World)(sb a aw tb bb:Nat){W B:List Nat}(bo:Option Addr)(bcap:Nat)(tao:Option Addr)(tcap:Nat)(L:List Ty)(cs:List Ce)(hA:SbAt w sb a aw tb bb W B bo bcap tao tcap L)(hI:SdIn L W B cs):
  Calls prog 75 #[pt sb] w fun e w'=>∃ao cap l,e=.returned (.tuple #[.slice ao (badsOf L W cs).length cap,.int .i64 0]) /\ Row 60 5 ao (badsOf L W cs).length cap (brs ((badsOf L W cs).map refBr)) l /\ Turn [] w l w':=by
 have hbl:=bads_len hI;have Har:=uh (fun w' (hk:Below w.heap.size w w')=>sarena w' (a:=⟨a,0,none⟩) rfl (hA.below hk).sp.c0);have Hta:=uh (fun w' (hk:Below w.heap.size w w')=>stable w' (a:=⟨tb,0,none⟩) rfl (hA.below hk).sp.c1);have Hst:=uh (sstarts w sb bb (W.length/2) B bo bcap hA.c2 hA.bits (by rw[hI.bl];have:=hI.few;omega));have Hck:=uh (fun w' (hk:Below w.heap.size w w') b2 bo2 cap2 (hb:BitAt w' b2 B (W.length/2) bo2 cap2)=>wcheck w' a aw tb b2 tao tcap L ⟨(hA.below hk).sp.ar,(hA.below hk).sp.tab,(hA.below hk).sp.fields⟩ hI.few hI.u64 hI.ty hI.lt cs hI.chain B bo2 cap2 hb hI.bu hI.bl hI.bits);obtain⟨E,hE⟩:∃E,badsOf L W cs=E:=⟨_,rfl⟩;rw[hE]at Hck hbl ⊢;have hszF:=sz_fault;have hszB:=sz_breach;clear hA hI hE
 go_enter func75,ntmps75
 have hB0:=Below.refl w.heap.size w
 go_wp2_with (first
  | (go_at_call 44;refine(Har.out _ hB0).mono ?_;rintro e w' ⟨rfl,hw⟩;rw[hw];clear hw w')
  | (go_at_call 101;refine(Hta.out _ hB0).mono ?_;rintro e w' ⟨rfl,hw⟩;rw[hw];clear hw w')
  | fail)
 refine Hst.out.mono ?_;rintro e w1 ⟨b2,l2,rfl,hI2,T1⟩;obtain⟨bo2,cap2,hb2⟩:=hI2.at_ (R:=[]) (by rw[List.append_nil];exact T1.has);have Hc:=uh (Hck.out w1 T1.below b2 bo2 cap2 hb2);have HB1:=uh T1.below;clear hb2 hI2 T1 Hst Hck Har Hta hB0
 go_wp2_with fail
 refine Hc.out.mono ?_;rintro e w2 ⟨ao,cap,lf,rfl,hrow,T2⟩;have HT2:Hid (Turn [] w lf w2):=uh ((Turn.of_below (Has.nil w) HB1.out).grow T2 |> fun h=>by rwa [List.append_nil]at h);have Hrow:=uh hrow;clear T2 hrow HB1 Hc
 go_wp2_with fail
 go_loopw [2,20] (fun v2 v20 wr=>∃(i:Nat) (a2:Option Addr) (p2:Nat) (lr:List Blk),i <= E.length /\ v20=.int .i64 i /\ v2=.slice a2 i p2 /\ Row 60 5 a2 i p2 (brs ((E.take i).map refBr)) lr /\ Turn [] w (lr++lf) wr) (fun _ v20 _=>E.length-(intOf v20).toNat)
 case atStart=>exact⟨0,none,0,[],Nat.zero_le _,by go_num,rfl,Row.nil _ _,HT2.out⟩
 case round=>
  clear HT2;obtain⟨i,a2,p2,lr,hi,rfl,rfl,hr2,V⟩:=hrel
  by_cases hlt:i<E.length
  · have hlt':(i:Int)<(E.length:Int):=by omega
    obtain⟨x,hx⟩:∃x,E[i]?= some x:=⟨E[i],List.getElem?_eq_getElem hlt⟩;have hS:=Hrow.out.src (V.has.perm (l':=lf++lr) po);obtain⟨b,off,rfl,-⟩:=hS.form (by rw[show fts E=E.flatMap ftCells from rfl,fm_len (sz:=3) (fun _=>rfl)];omega);have hrg:wr.rangeAt b (off+i*3) [.int .i64 x.1,.int .i64 x.2.1,.int .i64 8]:=Src.fm (f:=ftCells) (fun _=>rfl) hS hx;have hsn:=take_map_next (f:=refBr) hx;have HSn:=uh hsn;have T3:=V.alloc (.cells #[.int .i64 0,.int .i64 0,.int .i64 0] 279);have hth:(wr.alloc (.cells #[.int .i64 0,.int .i64 0,.int .i64 0] 279)).there wr.heap.size 0 3:=T3.there1;have HT3:=uh (T3.laid [.int .i64 x.1,.int .i64 x.2.1,.int .i64 8] rfl);have hoF:(#[.int .i64 x.1,.int .i64 x.2.1,.int .i64 8]:Array Value).all (·.oneCell')=true:=all_one (cs:=[.int .i64 x.1,.int .i64 x.2.1,.int .i64 8]) (by simp[Value.oneCell']);have hoB1:(#[.int .u8 1,.int .i64 x.1,.int .i64 x.2.1,.int .u64 0,.int .i64 8]:Array Value).all (·.oneCell')=true:=all_one (cs:=[.int .u8 1,.int .i64 x.1,.int .i64 x.2.1,.int .u64 0,.int .i64 8]) (by simp[Value.oneCell']);have Hr2:=uh hr2;have h63:i+1 <= maxLen:=(by unfold maxLen;omega);have hby:(i+1)*40 <= 140737488355328:=(by omega);clear T3 V hx hr2 hS hsn
    go_wp2_with (first
     | (show lW 279;refine wpList_load_mid rfl 279 _ rfl b (off+i*3) rfl [.int .i64 x.1,.int .i64 x.2.1,.int .i64 8] _ hrg underlying279 rfl hszF ?_;clear hrg)
     | (show sW 279;refine wpList_store_mid rfl 279 _ _ rfl wr.heap.size 0 #[.int .i64 x.1,.int .i64 x.2.1,.int .i64 8] rfl rfl hth hszF hoF ?_;clear hth;generalize(wr.alloc (.cells #[.int .i64 0,.int .i64 0,.int .i64 0] 279)).setCells wr.heap.size 0 [.int .i64 x.1,.int .i64 x.2.1,.int .i64 8]=w3 at*;generalize wr.heap.size=nb at*;have q0:=HT3.out.cell1 0;have q1:=HT3.out.cell1 1;have q2:=HT3.out.cell1 2;have T5:=HT3.out.alloc (.cells #[.int .u8 0,.int .i64 0,.int .i64 0,.int .u64 0,.int .i64 0] 60);have hth5:(w3.alloc (.cells #[.int .u8 0,.int .i64 0,.int .i64 0,.int .u64 0,.int .i64 0] 60)).there w3.heap.size 0 5:=T5.there1;have HT5:=uh (T5.laid [.int .u8 1,.int .i64 x.1,.int .i64 x.2.1,.int .u64 0,.int .i64 8] rfl);clear T5)
     | (show sW 60;refine wpList_store_mid rfl 60 _ _ rfl w3.heap.size 0 #[.int .u8 1,.int .i64 x.1,.int .i64 x.2.1,.int .u64 0,.int .i64 8] rfl rfl hth5 hszB hoB1 ?_;clear hth5 q0 q1 q2;generalize(w3.alloc (.cells #[.int .u8 0,.int .i64 0,.int .i64 0,.int .u64 0,.int .i64 0] 60)).setCells w3.heap.size 0 [.int .u8 1,.int .i64 x.1,.int .i64 x.2.1,.int .u64 0,.int .i64 8]=w5 at*;generalize w3.heap.size=nd at*;have q2:=HT5.out.cell2 2;have f0:=HT5.out.free1 0;have r0:=HT5.out.cell1 0;have HT7:=uh (HT5.out.setCell 0 (.int .u8 2)))
     | (show lW 60;generalize w5.setCell ⟨nd,0,none⟩ (.int .u8 2)=w7 at*;have hrb:w7.rangeAt nd 0 [.int .u8 2,.int .i64 x.1,.int .i64 x.2.1,.int .u64 0,.int .i64 8]:=HT7.out.range1;refine wpList_load_mid rfl 60 _ rfl nd 0 rfl [.int .u8 2,.int .i64 x.1,.int .i64 x.2.1,.int .u64 0,.int .i64 8] _ hrb underlying60 rfl hszB ?_;clear hrb f0 r0 q2)
     | (at_builtin;have T6:=uh (HT7.out.alloc (.cells #[.int .u8 2,.int .i64 x.1,.int .i64 x.2.1,.int .u64 0,.int .i64 8] 60));refine wpList_append_row rfl _ _ rfl el_breach rfl Hr2.out (R:=(w7.heap.size,.cells #[.int .u8 2,.int .i64 x.1,.int .i64 x.2.1,.int .u64 0,.int .i64 8] 60)::(nd,.cells #[.int .u8 2,.int .i64 x.1,.int .i64 x.2.1,.int .u64 0,.int .i64 8] 60)::(nb,.cells #[.int .i64 x.1,.int .i64 x.2.1,.int .i64 8] 279)::lf) (T6.out.perm po).has rfl (news:=[.int .u8 2,.int .i64 x.1,.int .i64 x.2.1,.int .u64 0,.int .i64 8]) rfl (news_of (heap_alloc_new _ _)) (by simp[Value.oneCell']) h63 hby ?_;intro a9 p9 l9 w8 hr9 V9 hno;have HV9:=uh (((T6.out.perm po).trans V9).perm (l2:=[(w7.heap.size,.cells #[.int .u8 2,.int .i64 x.1,.int .i64 x.2.1,.int .u64 0,.int .i64 8] 60),(nd,.cells #[.int .u8 2,.int .i64 x.1,.int .i64 x.2.1,.int .u64 0,.int .i64 8] 60),(nb,.cells #[.int .i64 x.1,.int .i64 x.2.1,.int .i64 8] 279)]++(l9++lf)) po);have Hr9:=uh hr9;clear V9 hr9 hno)
     | fail)
    go_roundw
    case rel=>
     refine⟨i+1,a9,p9,l9,by omega,by go_num,rfl,?_,HV9.out.drop⟩;rw[HSn.out,brs_append];exact Hr9.out
    case measure=>simp[intOf];omega
  · obtain rfl:i=E.length:=by omega
    have hnl:¬((E.length:Nat):Int)<(E.length:Int):=(by omega);rw[List.take_length]at hr2;have Hr2:=uh hr2;have HV:=uh V;clear hr2 V
    go_wp2_with fail
    refine bodyPost_ret (results_tmp2 rfl _ _ _) rfl ?_;exact⟨a2,p2,rfl,lr,Hr2.out,HV.out.sub (List.sublist_append_left lr lf)⟩
theorem noTouch_at:∀{cs:List Ce},noTouch cs -> ∀{i:Nat} {c d:Ce},cs[i]?= some c -> cs[i+1]?= some d -> c.2.tag=1∨d.2.tag=1
 | [],_,_,_,_,h,_=>by cases h
 | [_],_,i,_,_,_,h=>by simp at h
 | a::b::cs,h,0,c,d,h1,h2=>by
  have e1:a=c:=by simpa using h1
  have e2:b=d:=by simpa using h2
  rw[←e1,←e2];exact h.1
 | a::b::cs,h,i+1,c,d,h1,h2=>noTouch_at h.2 (i:=i) (by simpa using h1) (by simpa using h2)
def tagBefore (cs:List Ce)(i:Nat):Nat:=match i with|0=>0|i+1=>match cs[i]? with|some c=>c.2.tag|none=>0
theorem tagBefore_next {cs:List Ce}{i:Nat}{c:Ce}(h:cs[i]?= some c):tagBefore cs (i+1)=c.2.tag:=by simp[tagBefore,h]
theorem tagBefore_no {cs:List Ce}(h:noTouch cs){i:Nat}{c:Ce}(hc:cs[i]?= some c):¬(c.2.tag=3 /\ tagBefore cs i=3):=by
 rintro⟨h1,h2⟩
 cases i with
 | zero=>simp[tagBefore]at h2
 | succ i=>
  unfold tagBefore at h2;simp only at h2
  split at h2
  · rename_i d hd
    rcases noTouch_at h hd hc with h3|h3<;>omega
  ·omega
theorem agaps (w:World)(sb a aw tb:Nat){W:List Nat}(tao:Option Addr)(tcap:Nat)(L:List Ty)(hA:SpAt w sb a aw tb W tao tcap L)(hf:W.length <= 65536)(hu:∀v∈W,v<18446744073709551616)(hTy:∀t∈L,TyIn t)(hL:L.length <= 1000)
  (cs:List Ce)(hC:Chain L W 0 cs (W.length/2))(hN:noTouch cs):
  Calls prog 77 #[pt sb] w fun e w'=>e=.returned (.slice none 0 0) /\ Below w.heap.size w w':=by
 have HC:=uh (scells_all w sb a aw tb tao tcap L hA hf hu hTy hL cs hC);have hlen:=hC.len;have hl:cs.length <= 32768:=by omega
 have Htg:=uh (fun i c (h:cs[i]?= some c)=>tagBefore_next h);have Hno:=uh (fun i c (h:cs[i]?= some c)=>tagBefore_no hN h);have hsz:=sz_cell;clear hA hC hu hTy hlen hN
 go_enter func77,ntmps77
 go_wp2_with fail
 refine HC.out.mono ?_;rintro e w2 ⟨a8,p8,l8,rfl,hrow,T2⟩;have HT2:=uh T2;have Hrow:=uh hrow;clear hrow T2 HC
 go_wp2_with fail
 go_loopw [2,3,9] (fun v2 v3 v9 wr=>∃(i:Nat) (l:List Blk),i <= cs.length /\ v9=.int .i64 i /\ v2=.slice none 0 0 /\ v3=.int .u8 (tagBefore cs i:Nat) /\ Turn [] w (l++l8) wr) (fun _ _ v9 _=>cs.length-(intOf v9).toNat)
 case atStart=>exact⟨0,[],Nat.zero_le _,by go_num,rfl,rfl,HT2.out⟩
 case round=>
  clear HT2;obtain⟨i,l,hi,rfl,rfl,rfl,V⟩:=hrel
  by_cases hlt:i<cs.length
  · have hlt':(i:Int)<(cs.length:Int):=by omega
    obtain⟨c,hc⟩:∃c,cs[i]?= some c:=⟨cs[i],List.getElem?_eq_getElem hlt⟩;have hS8:=Hrow.out.src (V.has.perm (l':=l8++l) po);obtain⟨b,off,rfl,-⟩:=hS8.form (by rw[ces_length];omega);have hrg:wr.rangeAt b (off+i*5) [.int .i64 c.1,.int .u8 c.2.tag,.int .i64 c.2.typ,.int .i64 c.2.len,.int .i64 c.2.size]:=hS8.ce hc;have hno:=Hno.out i c hc;have HTg:=uh (Htg.out i c hc);have T3:=V.alloc (.cells #[.int .i64 0,.int .u8 0,.int .i64 0,.int .i64 0,.int .i64 0] 81);have hth:(wr.alloc (.cells #[.int .i64 0,.int .u8 0,.int .i64 0,.int .i64 0,.int .i64 0] 81)).there wr.heap.size 0 5:=T3.there1;have HT3:=uh (T3.laid [.int .i64 c.1,.int .u8 c.2.tag,.int .i64 c.2.typ,.int .i64 c.2.len,.int .i64 c.2.size] rfl);have hoC:=ce_one c;clear T3 V hc hS8;generalize tagBefore cs i=tg at*
    by_cases h3:c.2.tag=3
    · have hw3:(((tg:Nat):Int) == 3)=false:=by
        have:tg≠3:=fun h=>hno ⟨h3,h⟩;simp;omega
      have h3z:(((c.2.tag:Nat):Int) == 3)=true:=(by simp[h3]);clear hno h3
      go_wp2_with (first
       | (show lW 81;refine wpList_load_mid rfl 81 _ rfl b (off+i*5) rfl [.int .i64 c.1,.int .u8 c.2.tag,.int .i64 c.2.typ,.int .i64 c.2.len,.int .i64 c.2.size] _ hrg underlying81 rfl hsz ?_;clear hrg)
       | (show sW 81;refine wpList_store_mid rfl 81 _ _ rfl wr.heap.size 0 #[.int .i64 c.1,.int .u8 c.2.tag,.int .i64 c.2.typ,.int .i64 c.2.len,.int .i64 c.2.size] rfl rfl hth hsz hoC ?_;clear hth;generalize(wr.alloc (.cells #[.int .i64 0,.int .u8 0,.int .i64 0,.int .i64 0,.int .i64 0] 81)).setCells wr.heap.size 0 [.int .i64 c.1,.int .u8 c.2.tag,.int .i64 c.2.typ,.int .i64 c.2.len,.int .i64 c.2.size]=w3 at*;generalize wr.heap.size=nb at*;have q1:=HT3.out.cell1 1)
       | fail)
      go_roundw
      case rel=>exact⟨i+1,_::l,by omega,by go_num,rfl,by rw[HTg.out],HT3.out⟩
      case measure=>simp[intOf];omega
    · have h3z:(((c.2.tag:Nat):Int) == 3)=false:=by simp;omega
      clear hno h3
      go_wp2_with (first
       | (show lW 81;refine wpList_load_mid rfl 81 _ rfl b (off+i*5) rfl [.int .i64 c.1,.int .u8 c.2.tag,.int .i64 c.2.typ,.int .i64 c.2.len,.int .i64 c.2.size] _ hrg underlying81 rfl hsz ?_;clear hrg)
       | (show sW 81;refine wpList_store_mid rfl 81 _ _ rfl wr.heap.size 0 #[.int .i64 c.1,.int .u8 c.2.tag,.int .i64 c.2.typ,.int .i64 c.2.len,.int .i64 c.2.size] rfl rfl hth hsz hoC ?_;clear hth;generalize(wr.alloc (.cells #[.int .i64 0,.int .u8 0,.int .i64 0,.int .i64 0,.int .i64 0] 81)).setCells wr.heap.size 0 [.int .i64 c.1,.int .u8 c.2.tag,.int .i64 c.2.typ,.int .i64 c.2.len,.int .i64 c.2.size]=w3 at*;generalize wr.heap.size=nb at*;have q1:=HT3.out.cell1 1)
       | fail)
      go_roundw
      case rel=>exact⟨i+1,_::l,by omega,by go_num,rfl,by rw[HTg.out],HT3.out⟩
      case measure=>simp[intOf];omega
  · obtain rfl:i=cs.length:=by omega
    have hnl:¬((cs.length:Nat):Int)<(cs.length:Int):=(by omega);have HV:=uh V;clear V
    go_wp2_with fail
    go_ret;exact⟨rfl,HV.out.below⟩
end
section
open Go Go.RowKit Go.Sort
theorem nan8 (x:Int)(w:World):Calls prog 282 #[.int .u8 x] w fun e w'=>e=.returned (.bool false) /\ w'=w:=by
 go_enter func282,ntmps282
 go_wp2
 go_ret;exact⟨by simp,rfl⟩
theorem less8 (x y:Int)(w:World):Calls prog 254 #[.int .u8 x,.int .u8 y] w fun e w'=>e=.returned (.bool (ltInt x y)) /\ w'=w:=by
 go_enter func254,ntmps254
 go_wp2_with (go_at_call 282;refine(nan8 _ _).mono ?_;rintro e w' ⟨rfl,rfl⟩)
 go_ret;exact⟨rfl,rfl⟩
theorem ins8 (g off cap a b:Nat)(c0:Array Value)(w0:World)(d:Array Int)(X:List Blk)(w:World)(hT:Ts .u8 5 g off c0 w0 d X w)(hab:a <= b)(hb:b <= d.size)(hsz:d.size<4611686018427387904):
  Calls prog 248 #[.slice (some ⟨g,off,none⟩) d.size cap,.int .i64 a,.int .i64 b] w fun e w'=>e=.returned (.tuple #[]) /\ Ts .u8 5 g off c0 w0 (insertionSort ltInt d a b) X w':=by
 have HT:=uh hT;clear hT
 go_enter func248,ntmps248
 go_wp2
 go_loopw [6] (fun vi wr=>∃(i:Nat) (dk:Array Int),vi=.int .i64 i /\ a<i /\ i <= b+1 /\ dk.size=d.size /\ Ts .u8 5 g off c0 w0 dk X wr /\ insOuter ltInt a b i dk=insOuter ltInt a b (a+1) d) (fun vi _=>b+1-(intOf vi).toNat)
 case atStart=>exact⟨a+1,d,by go_num,by omega,by omega,rfl,HT.out,rfl⟩
 case round=>
  clear HT;obtain⟨i,dk,rfl,hai,hib,hsk,hT,hO⟩:=hrel;have HT:=uh hT;have HO:=uh hO;clear hO hT
  go_wp2
  · have hlt:i<b:=by assumption
    go_loopw [7] (fun vj wr2=>∃(j:Nat) (dj:Array Int),vj=.int .i64 j /\ a <= j /\ j <= i /\ dj.size=d.size /\ Ts .u8 5 g off c0 w0 dj X wr2 /\ insInner ltInt a j dj=insInner ltInt a i dk) (fun vj _=>(intOf vj).toNat)
    case atStart=>exact⟨i,dk,rfl,by omega,Nat.le_refl _,hsk,HT.out,rfl⟩
    case round=>
     obtain⟨j,dj,rfl,haj,hji,hsj,hTj,hI⟩:=hrel;obtain⟨G,hG⟩:∃G:Nat -> Int,∀t,G t=dj[t]! :=⟨fun t=>dj[t]!,fun _=>rfl⟩;have hcw:∀t,t<d.size -> wr.cell? ⟨g,off+t,none⟩=some (.int .u8 (G t)):=fun t ht=>by rw[hG];exact hTj.cell t (by omega)
     have hfw:∀t,t<d.size -> wr.frozen? ⟨g,off+t,none⟩=false:=fun t _=>hTj.free t;have HTj:=uh hTj;have HG:=uh hG;have OUT:=uh (fun(hs:j <= a∨ltInt dj[j]! dj[j-1]! =false)=>(by rw[←HO.out,insOuter_go _ _ _ _ _ hlt,←hI,insInner_stop _ _ _ _ hs]:insOuter ltInt a b (i+1) dj=insOuter ltInt a b (a+1) d));have GO:=uh (fun(h1:a<j) (h2:ltInt dj[j]! dj[j-1]! =true)=>(by rw[←hI,insInner_go ltInt a j dj h1 h2]:insInner ltInt a (j-1) (Sort.swp dj j (j-1))=insInner ltInt a i dk));clear hTj hG hI HT
     go_wp2
     by_cases hja:a<j
     · go_quiet (first|(go_at_call 254;refine Calls.quiet_of_same (less8 _ _ _)))
       go_wp2
       · have hl:ltInt (G j) (G (j-1))=true:=by assumption
         go_region
         all_goals go_wp2
         go_roundw
         case rel=>exact⟨j-1,Sort.swp dj j (j-1),by congr 1;omega,by omega,by omega,by rw[size_swp];exact hsj,((HTj.out.drewN (nq+1)).swp j (j-1) (by omega) (by omega) (HG.out _) (HG.out _)),GO.out hja (by rw[←HG.out,←HG.out];exact hl)⟩
         case measure=>simp[intOf];omega
       · have hl:ltInt (G j) (G (j-1))=false:=by assumption
         go_roundw
         case rel=>exact⟨i+1,dj,by go_num,by omega,by omega,hsj,HTj.out.drewN _,OUT.out (Or.inr (by rw[←HG.out,←HG.out];exact hl))⟩
         case measure=>simp[intOf];omega
     · go_quiet (first|(go_at_call 254;refine Calls.quiet_of_same (less8 _ _ _)))
       go_wp2
       go_roundw
       case rel=>exact⟨i+1,dj,by go_num,by omega,by omega,hsj,HTj.out.drewN _,OUT.out (Or.inl (by omega))⟩
       case measure=>simp[intOf];omega
  · have hge:¬i<b:=by assumption
    go_end0;exact⟨rfl,by unfold insertionSort;rw[←HO.out,insOuter_stop _ _ _ _ _ hge];exact HT.out⟩
def AllX (d:Array Int)(x:Int):Prop:=∀j,j<d.size -> d[j]! =x
theorem lt_self (x:Int):ltInt x x=false:=by simp[ltInt]
theorem AllX.sorted {d:Array Int}{x:Int}(h:AllX d x){a b:Nat}(hb:b <= d.size):SortedIn ltInt a b d:=fun i j h1 h2 h3=>by
 rw[h i (by omega),h j (by omega)];exact lt_self x
theorem cord8 (x:Int)(g off cap sb a b:Nat)(c0:Array Value)(w0:World)(d:Array Int)(X:List Blk)(w:World)(hx:AllX d x)(hT:Ts .u8 5 g off c0 w0 d X w)(ha:a<d.size)(hb:b<d.size):
  Calls prog 301 #[.slice (some ⟨g,off,none⟩) d.size cap,.int .i64 a,.int .i64 b,pt sb] w fun e w'=>e=.returned (.tuple #[.int .i64 a,.int .i64 b]) /\ Ts .u8 5 g off c0 w0 d X w':=by
 have ca:=hT.cell a ha;have cb:=hT.cell b hb;rw[hx a ha]at ca;rw[hx b hb]at cb;have HT:=uh hT;have hlt:=lt_self x;clear hT hx
 go_enter func301,ntmps301
 go_wp2
 go_region_with (go_at_call 254;refine(less8 _ _ _).mono ?_;rintro e w' ⟨rfl,rfl⟩)
 all_goals (try go_wp2)
 all_goals (try go_ret2)
 all_goals exact⟨rfl,HT.out.drewN 1⟩
theorem cmed8 (x:Int)(g off cap sb a b c:Nat)(c0:Array Value)(w0:World)(d:Array Int)(X:List Blk)(w:World)(hx:AllX d x)(hT:Ts .u8 5 g off c0 w0 d X w)(ha:a<d.size)(hb:b<d.size)(hc:c<d.size):
  Calls prog 281 #[.slice (some ⟨g,off,none⟩) d.size cap,.int .i64 a,.int .i64 b,.int .i64 c,pt sb] w fun e w'=>e=.returned (.int .i64 b) /\ Ts .u8 5 g off c0 w0 d X w':=by
 have C:=uh (fun p q w (hp:p<d.size) (hq:q<d.size) (hT:Ts .u8 5 g off c0 w0 d X w)=>cord8 x g off cap sb p q c0 w0 d X w hx hT hp hq);have C1:=uh (C.out a b w ha hb hT);clear hT
 go_enter func281,ntmps281
 go_wp2_with fail
 refine C1.out.mono ?_;rintro _ w1 ⟨rfl,hT1⟩;have C2:=uh (C.out b c w1 hb hc hT1);clear hT1 C1
 go_wp2_with fail
 refine C2.out.mono ?_;rintro _ w2 ⟨rfl,hT2⟩;have C3:=uh (C.out a b w2 ha hb hT2);clear hT2 C2
 go_wp2_with fail
 refine C3.out.mono ?_;rintro _ w3 ⟨rfl,hT3⟩;have HT3:=uh hT3;clear hT3 C3
 go_wp2_with fail
 go_ret;exact⟨rfl,HT3.out⟩
theorem cadj8 (x:Int)(g off cap sb a:Nat)(c0:Array Value)(w0:World)(d:Array Int)(X:List Blk)(w:World)(hx:AllX d x)(hT:Ts .u8 5 g off c0 w0 d X w)(ha:1 <= a)(hb:a+1<d.size)(hsz:d.size<4611686018427387904):
  Calls prog 280 #[.slice (some ⟨g,off,none⟩) d.size cap,.int .i64 a,pt sb] w fun e w'=>e=.returned (.int .i64 a) /\ Ts .u8 5 g off c0 w0 d X w':=by
 have C1:=uh (cmed8 x g off cap sb (a-1) a (a+1) c0 w0 d X w hx hT (by omega) (by omega) hb);rw[show((a-1:Nat):Int)=(a:Int)-1 by omega,show((a+1:Nat):Int)=(a:Int)+1 by omega]at C1;clear hT
 go_enter func280,ntmps280
 go_wp2_with fail
 refine C1.out.mono ?_;rintro _ w1 ⟨rfl,hT1⟩;have HT1:=uh hT1;clear hT1 C1
 go_wp2_with fail
 go_ret;exact⟨rfl,HT1.out⟩
theorem cpiv8 (x:Int)(g off cap b:Nat)(c0:Array Value)(w0:World)(d:Array Int)(X:List Blk)(w:World)(hx:AllX d x)(hT:Ts .u8 5 g off c0 w0 d X w)(h8:8 <= b)(hb:b <= d.size)(hsz:d.size<4611686018427387904):
  Calls prog 251 #[.slice (some ⟨g,off,none⟩) d.size cap,.int .i64 0,.int .i64 b] w fun e w'=>∃p:Nat,e=.returned (.tuple #[.int .i64 p,.int .i64 1]) /\ p<b /\ Ts .u8 5 g off c0 w0 d X w':=by
 have HT0:Hid (Ts .u8 5 g off c0 w0 d ((w.heap.size,.cells #[.int .i64 ((0:Nat):Int)] 3 (0,0))::X) (w.alloc (.cells #[.int .i64 0] 3))):=hT.alloc _;have c0':(w.alloc (.cells #[.int .i64 0] 3)).cell? ⟨w.heap.size,0,none⟩=some (.int .i64 0):=HT0.out.xcell (List.mem_cons_self ..) 0;clear hT;obtain⟨I,hI⟩:∃I:Nat,I=b/4*1:=⟨_,rfl⟩;obtain⟨J,hJ⟩:∃J:Nat,J=b/4*2:=⟨_,rfl⟩;obtain⟨K,hK⟩:∃K:Nat,K=b/4*3:=⟨_,rfl⟩;have eI:((b:Int)/4)=(I:Int):=by omega
 have eJ:((I:Int)*2)=(J:Int):=by omega
 have eK:((I:Int)*3)=(K:Int):=by omega
 have CM:=uh (fun w (hT:Ts .u8 5 g off c0 w0 d ((w.heap.size,.cells #[.int .i64 ((0:Nat):Int)] 3 (0,0))::X) w)=>hT)
 by_cases h50:50 <= b
 · have hb1:1 <= I /\ I+1<b /\ 1 <= J /\ J+1<b /\ 1 <= K /\ K+1<b:=by omega
   obtain⟨b1,b2,b3,b4,b5,b6⟩:=hb1;clear hI hJ hK CM;have C1:=uh (cadj8 x g off cap w.heap.size I c0 w0 d _ _ hx HT0.out (by omega) (by omega) hsz);clear HT0
   go_enter func251,ntmps251
   go_wp2_with fail
   refine C1.out.mono ?_;rintro _ w1 ⟨rfl,hT1⟩;have C2:=uh (cadj8 x g off cap w.heap.size J c0 w0 d _ _ hx hT1 (by omega) (by omega) hsz);clear hT1 C1 c0'
   go_wp2_with fail
   refine C2.out.mono ?_;rintro _ w2 ⟨rfl,hT2⟩;have C3:=uh (cadj8 x g off cap w.heap.size K c0 w0 d _ _ hx hT2 (by omega) (by omega) hsz);clear hT2 C2
   go_wp2_with fail
   refine C3.out.mono ?_;rintro _ w3 ⟨rfl,hT3⟩;have C4:=uh (cmed8 x g off cap w.heap.size I J K c0 w0 d _ _ hx hT3 (by omega) (by omega) (by omega));clear hT3 C3
   go_wp2_with fail
   refine C4.out.mono ?_;rintro _ w4 ⟨rfl,hT4⟩;have cs:w4.cell? ⟨w.heap.size,0,none⟩=some (.int .i64 (0:Int)):=(by simpa using hT4.xcell (List.mem_cons_self ..) 0);have HT4:=uh (hT4.less (List.sublist_cons_self _ X));clear hT4 C4 eI eJ eK
   go_wp2_with fail
   go_ret2;exact⟨J,rfl,by omega,HT4.out⟩
 · have hb1:I<b /\ J<b /\ K<b:=by omega
   obtain⟨b1,b2,b3⟩:=hb1;clear hI hJ hK CM;have C4:=uh (cmed8 x g off cap w.heap.size I J K c0 w0 d _ _ hx HT0.out (by omega) (by omega) (by omega));clear HT0
   go_enter func251,ntmps251
   go_wp2_with fail
   refine C4.out.mono ?_;rintro _ w4 ⟨rfl,hT4⟩;have cs:w4.cell? ⟨w.heap.size,0,none⟩=some (.int .i64 (0:Int)):=(by simpa using hT4.xcell (List.mem_cons_self ..) 0);have HT4:=uh (hT4.less (List.sublist_cons_self _ X));clear hT4 C4 eI eJ eK c0'
   go_wp2_with fail
   go_ret2;exact⟨J,rfl,b2,HT4.out⟩
theorem cpar8 (x:Int)(g off cap b:Nat)(c0:Array Value)(w0:World)(d:Array Int)(X:List Blk)(w:World)(hx:AllX d x)(hT:Ts .u8 5 g off c0 w0 d X w)(h1:1 <= b)(hb:b <= d.size)(hsz:d.size<4611686018427387904):
  Calls prog 253 #[.slice (some ⟨g,off,none⟩) d.size cap,.int .i64 0,.int .i64 b] w fun e w'=>e=.returned (.bool true) /\ Ts .u8 5 g off c0 w0 d X w':=by
 have HT:=uh hT;have Hx:=uh hx;have hlt:=lt_self x;clear hT hx
 go_enter func253,ntmps253
 go_wp2
 go_loopw [7,8] (fun vi vs wr=>vi=.int .i64 1 /\ vs=.int .i64 0 /\ Ts .u8 5 g off c0 w0 d X wr) (fun _ vs _=>5-(intOf vs).toNat)
 case atStart=>exact⟨by go_num,rfl,HT.out⟩
 case round=>
  clear HT;obtain⟨rfl,rfl,hT⟩:=hrel;have HT:=uh hT;clear hT
  go_wp2
  go_loopw [7] (fun vi wr=>∃k:Nat,vi=.int .i64 k /\ 1 <= k /\ k <= b /\ Ts .u8 5 g off c0 w0 d X wr) (fun vi _=>b-(intOf vi).toNat)
  case atStart=>exact⟨1,by go_num,Nat.le_refl _,h1,HT.out⟩
  case round=>
   clear HT;obtain⟨k,rfl,h1k,hkb,hT2⟩:=hrel;have hcw:∀t,t<d.size -> wr.cell? ⟨g,off+t,none⟩=some (.int .u8 x):=fun t ht=>by rw[←Hx.out t ht];exact hT2.cell t ht
   have HT2:=uh hT2;clear hT2
   go_wp2
   by_cases hkb':k<b
   · go_quiet (first|(go_at_call 254;refine Calls.quiet_of_same (less8 _ _ _)))
     go_wp2
     go_roundw
     case rel=>exact⟨k+1,by go_num,by omega,by omega,HT2.out.drewN _⟩
     case measure=>simp[intOf];omega
   · obtain rfl:k=b:=by omega
     go_quiet (first|(go_at_call 254;refine Calls.quiet_of_same (less8 _ _ _)))
     go_wp2
     go_ret;exact⟨rfl,HT2.out.drewN _⟩
theorem cpdq8 (x:Int)(g off cap:Nat)(c0:Array Value)(w0:World)(d:Array Int)(X:List Blk)(limit:Nat)(w:World)(hx:AllX d x)(hT:Ts .u8 5 g off c0 w0 d X w)(hsz:d.size<4611686018427387904)(hl0:12<d.size -> limit≠0):
  Calls prog 219 #[.slice (some ⟨g,off,none⟩) d.size cap,.int .i64 0,.int .i64 d.size,.int .i64 limit] w fun e w'=>e=.returned (.tuple #[]) /\ ∃d',(PermIn 0 d.size d d' /\ SortedIn ltInt 0 d.size d') /\ Ts .u8 5 g off c0 w0 d' X w':=by
 have HT:=uh hT
 by_cases h12:d.size <= 12
 · have h12z:(d.size:Int) <= 12:=by omega
   have HC:=uh (fun w hT=>ins8 g off cap 0 d.size c0 w0 d X w hT (Nat.zero_le _) (Nat.le_refl _) hsz);have HI:=uh (insertionSort_holds swo d 0 d.size (Nat.zero_le _) (Nat.le_refl _));clear hT hx hl0
   go_enter func219,ntmps219
   go_wp2
   go_loopw [1,2,3,8,9] (fun v1 v2 v3 v8 v9 wr=>v1=.int .i64 0 /\ v2=.int .i64 d.size /\ v3=.int .i64 limit /\ v8=.bool true /\ v9=.bool true /\ Ts .u8 5 g off c0 w0 d X wr) (fun _ _ _ _ _ _=>0)
   case atStart=>exact⟨rfl,rfl,rfl,rfl,rfl,HT.out⟩
   case round=>
    clear HT;obtain⟨rfl,rfl,rfl,rfl,rfl,hT⟩:=hrel;have HC:=uh (HC.out wr hT);clear hT
    go_wp2_with fail
    refine HC.out.mono ?_;rintro e w1 ⟨rfl,hT1⟩;have HT1:=uh hT1;clear hT1 HC
    go_wp2_with fail
    (try simp only[Exit.inBlock,Exit.then]);refine bodyPost_ret (results_none rfl _ _ _) rfl ?_
    exact⟨rfl,_,⟨HI.out.1,HI.out.2⟩,HT1.out⟩
 · have h12z:¬((d.size:Int) <= 12):=by omega
   have hlz:¬(limit:Int)=0:=(by have:=hl0 (by omega);omega);have hS:=hx.sorted (a:=0) (Nat.le_refl d.size);have HS:=uh hS;have HV:=uh (fun w hT=>cpiv8 x g off cap d.size c0 w0 d X w hx hT (by omega) (Nat.le_refl _) hsz);have HP:=uh (fun w hT=>cpar8 x g off cap d.size c0 w0 d X w hx hT (by omega) (Nat.le_refl _) hsz);clear hT hx hl0 hS
   go_enter func219,ntmps219
   go_wp2
   go_loopw [1,2,3,8,9] (fun v1 v2 v3 v8 v9 wr=>v1=.int .i64 0 /\ v2=.int .i64 d.size /\ v3=.int .i64 limit /\ v8=.bool true /\ v9=.bool true /\ Ts .u8 5 g off c0 w0 d X wr) (fun _ _ _ _ _ _=>0)
   case atStart=>exact⟨rfl,rfl,rfl,rfl,rfl,HT.out⟩
   case round=>
    clear HT;obtain⟨rfl,rfl,rfl,rfl,rfl,hT⟩:=hrel;have HV:=uh (HV.out wr hT);clear hT
    go_wp2_with fail
    refine HV.out.mono ?_;rintro e w1 ⟨p,rfl,hp,hT1⟩;have HP:=uh (HP.out w1 hT1);clear hT1 HV
    go_wp2_with fail
    refine HP.out.mono ?_;rintro e w2 ⟨rfl,hT2⟩;have HT2:=uh hT2;clear hT2 HP
    go_wp2_with fail
    (try simp only[Exit.inBlock,Exit.then]);refine bodyPost_ret (results_none rfl _ _ _) rfl ?_
    exact⟨rfl,d,⟨permIn_refl _ _ _,HS.out⟩,HT2.out⟩
theorem csrt8 (x:Int)(g off cap:Nat)(c0:Array Value)(w0:World)(d:Array Int)(X:List Blk)(w:World)(hx:AllX d x)(hT:Ts .u8 5 g off c0 w0 d X w)(hsz:d.size<4611686018427387904):
  Calls prog 170 #[.slice (some ⟨g,off,none⟩) d.size cap] w fun e w'=>e=.returned (.tuple #[]) /\ ∃d',(PermIn 0 d.size d d' /\ SortedIn ltInt 0 d.size d') /\ Ts .u8 5 g off c0 w0 d' X w':=by
 have hk:bitsLen d.size <= 62:=(bitsLen_le_iff d.size 62).2 (by omega)
 have hk0:12<d.size -> bitsLen d.size≠0:=fun h h0=>by
  have:=(bitsLen_le_iff d.size 0).1 (by omega);omega
 have Hb:=uh (fun w=>blen d.size hsz w);have Hp:=uh (cpdq8 x g off cap c0 w0 d X (bitsLen d.size) w hx hT hsz hk0);clear hT hx hk0
 go_enter func170,ntmps170
 go_wp2_with (first
  | (go_at_call 220;refine(Hb.out _).mono ?_;rintro e w' ⟨rfl,hw⟩;rw[hw];clear hw w')
  | fail)
 refine Hp.out.mono ?_;rintro e w1 ⟨rfl,d',hP,hT1⟩;have HX:=uh (And.intro hP hT1);clear hP hT1 Hp Hb
 go_wp2_with fail
 go_end0;exact⟨rfl,d',HX.out.1,HX.out.2⟩
theorem insnil8 (w:World):Calls prog 248 #[.slice none 0 0,.int .i64 0,.int .i64 0] w fun e w'=>e=.returned (.tuple #[]) /\ w'=w:=by
 go_enter func248,ntmps248
 go_wp2
 go_loopw [6] (fun v6 wr=>v6=.int .i64 1 /\ wr=w) (fun _ _=>0)
 case atStart=>exact⟨rfl,rfl⟩
 case round=>
  obtain⟨rfl,rfl⟩:=hrel
  go_wp2
  go_end0;exact⟨rfl,rfl⟩
theorem pdqnil8 (k:Int)(w:World):Calls prog 219 #[.slice none 0 0,.int .i64 0,.int .i64 0,.int .i64 k] w fun e w'=>e=.returned (.tuple #[]) /\ w'=w:=by
 go_enter func219,ntmps219
 go_wp2
 go_loopw [1,2,3,8,9] (fun v1 v2 v3 v8 v9 wr=>v1=.int .i64 0 /\ v2=.int .i64 0 /\ v3=.int .i64 k /\ v8=.bool true /\ v9=.bool true /\ wr=w) (fun _ _ _ _ _ _=>0)
 case atStart=>exact⟨rfl,rfl,rfl,rfl,rfl,rfl⟩
 case round=>
  obtain⟨rfl,rfl,rfl,rfl,rfl,rfl⟩:=hrel
  go_wp2_with (first
   | (go_at_call 248;refine(insnil8 _).mono ?_;rintro e w' ⟨rfl,hw⟩;rw[hw];clear hw w')
   | fail)
  (try simp only[Exit.inBlock,Exit.then]);refine bodyPost_ret (results_none rfl _ _ _) rfl ?_
  exact⟨rfl,rfl⟩
theorem srtnil8 (w:World):Calls prog 170 #[.slice none 0 0] w fun e w'=>e=.returned (.tuple #[]) /\ w'=w:=by
 have Hb:=uh (fun w=>blen 0 (by omega) w)
 go_enter func170,ntmps170
 go_wp2_with (first
  | (go_at_call 220;refine(Hb.out _).mono ?_;rintro e w' ⟨rfl,hw⟩;rw[hw];clear hw w')
  | (go_at_call 219;refine(pdqnil8 _ _).mono ?_;rintro e w' ⟨rfl,hw⟩;rw[hw];clear hw w')
  | fail)
 go_end0;exact⟨rfl,rfl⟩
end
section
open Go Go.RowKit Go.IntWalk
theorem cpc8 (g cap n:Nat)(x:Nat)(cur:Array Value)(w:World)(hn:0<n)(hnc:n <= cap)(hcz:n <= cur.size)(hn6:n<4611686018427387904)(hc:∀j,j<n -> cur[j]?= some (.int .u8 x))(hH:Has w [(g,.cells cur 5 (0,0))]):
  Calls prog 171 #[.slice (some ⟨g,0,none⟩) n cap] w fun e w'=>∃m:Nat,e=.returned (.slice (some ⟨g,0,none⟩) m cap) /\ m=1 /\ ∃c:Array Value,c[0]?= some (.int .u8 x) /\ Turn [(g,.cells cur 5 (0,0))] w [(g,.cells c 5 (0,0))] w':=by
 have hcw:∀j,j<n -> w.cell? ⟨g,j,none⟩=some (.int .u8 x):=fun j hj=>(hH.cell (List.mem_cons_self ..) j).trans (hc j hj)
 by_cases h2:n<2
 · obtain rfl:n=1:=by omega
   have HX:=uh (And.intro (hc 0 (by omega)) (Turn.refl hH));clear hc hH hcw hcz
   go_enter func171,ntmps171
   go_wp2
   go_ret;exact⟨1,rfl,rfl,cur,HX.out.1,HX.out.2⟩
 · have h2z:¬(n:Int)<2:=by omega
   have c0:=hcw 0 (by omega);have c1:=hcw 1 (by omega);have hz:∀w,(zeroValue 5).run prog w=.ok (.int .u8 0) w:=fun _=>by kernel_rfl
   have T:=Turn.refl hH;have HF:=uh (fun(w':World) (V:Turn [(g,.cells cur 5 (0,0))] w [(g,.cells cur 5 (0,0))] w')=>(fun j hj=>(V.has.cell (List.mem_cons_self ..) (1+j)).trans (hc (1+j) (by omega)):∀j,j<n-1 -> w'.cell? ⟨g,1+j,none⟩=some (.int .u8 x)))
   have HC:=uh (fun(w':World) (V:Turn [(g,.cells cur 5 (0,0))] w [(g,.cells cur 5 (0,0))] w')=>(by
    obtain⟨vs,h1,h2⟩:=run_clear_agg (P:=prog) w' 95 5 0 _ underlying95 hz (by simp[Value.cells,Value.oneCell']) g 1 (n-1) (cap-1) (by omega) (V.has.there (b:=g) (c:=cur) (e:=5) (by simp) _ _ (by simp[Value.cells];omega));exact⟨vs,by simpa [Value.cells]using h1,fun ty=>h2⟩:∃vs:List Value,vs.length=n-1 /\ ∀ty,(Builtin.clear_ #[95] ty #[.slice (some ⟨g,1,none⟩) (n-1) (cap-1)]).run prog w'=.ok (.tuple #[]) (w'.setCells g 1 vs)))
   have Hx0:=uh (hc 0 (by omega));have HT:=uh T;have hci:¬cap=1:=(by omega);have hin:(1:Int) <= (n:Int):=(by omega);clear T hc hH hcw hz
   go_enter func171,ntmps171
   go_wp2
   go_loopw [3] (fun v3 wr=>v3=.int .i64 1 /\ wr=w) (fun _ _=>0)
   case atStart=>exact⟨rfl,rfl⟩
   case round=>
    obtain⟨rfl,rfl⟩:=hrel
    go_wp2
    go_quiet (fail)
    have HT1:=uh (HT.out.drewN nq);clear HT c0 c1;generalize wr.drewN nq=w1 at*
    go_wp2
    go_loopw [3,5] (fun v3 v5 wr2=>∃k:Nat,v3=.int .i64 1 /\ v5=.int .i64 k /\ 1 <= k /\ k <= n-1 /\ Turn [(g,.cells cur 5 (0,0))] wr [(g,.cells cur 5 (0,0))] wr2) (fun _ v5 _=>n-(intOf v5).toNat)
    case atStart=>exact⟨1,rfl,rfl,Nat.le_refl _,by omega,HT1.out⟩
    case round=>
     clear HT1;obtain⟨k,rfl,rfl,hk1,hkn,hT⟩:=hrel
     by_cases hlt:k<n-1
     · have hlt':(k:Int)<((n-1:Nat):Int):=by omega
       have hlt2:(k:Int)<(n:Int)-1:=(by omega);have hfm:=HF.out _ hT;have r1:=hfm k hlt;have r2:wr.cell? ⟨g,k,none⟩=some (.int .u8 x):=(by have h:=hfm (k-1) (by omega);rwa [show 1+(k-1)=k by omega]at h);have r3:=hfm (k-1) (by omega);have HT2:=uh hT;clear hT
       go_wp2
       go_quiet (fail)
       go_wp2
       go_roundw
       case rel=>exact⟨k+1,rfl,by go_num,by omega,by omega,HT2.out.drewN _⟩
       case measure=>simp[intOf];omega
     · obtain rfl:k=n-1:=by omega
       obtain⟨vs,hvl,hclr⟩:=HC.out _ hT;have HT2:=uh (Turn.setCells vs 1 cur _ hT);clear hT hvl
       go_wp2
       go_ret;exact⟨1,rfl,rfl,laidOver cur 1 vs,by rw[laidOver_out _ _ _ _ (.inl (by omega))];exact Hx0.out,HT2.out⟩
def sames (m x:Nat):List Nat:=List.replicate m x
theorem rise8 (w:World)(n cap x:Nat)(ao:Option Addr)(l:List Blk)(hr:Row 5 1 ao n cap (u8s (sames n x)) l)(hH:Has w l)(hn6:n<4611686018427387904):
  Calls prog 104 #[.slice ao n cap] w fun e w'=>∃(m:Nat) (l':List Blk),m <= 1 /\ e=.returned (.slice ao m cap) /\ Src w' ao m cap 1 (u8s (sames m x)) /\ Turn l w l' w':=by
 by_cases hn:n=0
 · subst hn
   obtain⟨hx,hc,hm,h|⟨g,cur,rfl,rfl,hcs,htk⟩⟩:=hr
   · obtain⟨rfl,rfl,rfl⟩:=h
     have Hc:∀w,Calls prog 171 #[.slice none 0 0] w fun e w'=>e=.returned (.slice none 0 0) /\ w'=w:=fun w=>by
      go_enter func171,ntmps171
      go_wp2
      go_ret;exact⟨rfl,rfl⟩
     have HC:=uh Hc;clear Hc
     go_enter func104,ntmps104
     go_wp2_with (first
      | (go_at_call 170;refine(srtnil8 _).mono ?_;rintro e w' ⟨rfl,hw⟩;rw[hw];clear hw w')
      | (go_at_call 171;refine(HC.out _).mono ?_;rintro e w' ⟨rfl,hw⟩;rw[hw];clear hw w')
      | fail)
     go_ret;exact⟨0,[],by omega,rfl,⟨rfl,fun _=>⟨rfl,rfl⟩,fun ad h=>(by cases h)⟩,Turn.refl hH⟩
   · have hcur:cap*1 <= cur.size:=hcs
     have Hs:=uh (csrt8 0 g 0 cap cur w #[] [] w (fun j hj=>by simp at hj) (Ts.refl (d:=#[]) hH (fun j hj=>by simp at hj)) (by simp));simp only[List.size_toArray,List.length_nil]at Hs
     have Hc:∀w,Calls prog 171 #[.slice (some ⟨g,0,none⟩) 0 cap] w fun e w'=>e=.returned (.slice (some ⟨g,0,none⟩) 0 cap) /\ w'=w:=fun w=>by
      go_enter func171,ntmps171
      go_wp2
      go_ret;exact⟨rfl,rfl⟩
     have HC:=uh Hc;clear Hc
     go_enter func104,ntmps104
     go_wp2_with fail
     refine Hs.out.mono ?_;rintro e w1 ⟨rfl,d',hP,c,h1,h2,hT⟩;have HT:=uh hT;clear hP h1 h2 hT Hs
     go_wp2_with (first
      | (go_at_call 171;refine(HC.out _).mono ?_;rintro e w' ⟨rfl,hw⟩;rw[hw];clear hw w')
      | fail)
     go_ret;exact⟨0,_,by omega,rfl,⟨rfl,fun h=>(by cases h),fun ad _ j u hj=>by simp[u8s,sames]at hj⟩,HT.out⟩
 · obtain⟨g,cur,rfl,rfl,hcs,htk⟩:=hr.some_of (by omega)
   have hnc:=hr.2.1
   have hcur:∀j,j<n -> cur[j]?= some (.int .u8 x):=fun j hj=>by
    rw[take_get htk j (by omega)];exact u8s_at (by unfold sames;rw[List.getElem?_replicate,if_pos hj])
   obtain⟨d,hd⟩:∃d:Array Int,d=Array.replicate n (x:Int):=⟨_,rfl⟩;have hds:d.size=n:=(by rw[hd];simp);have hdx:∀j,j<n -> d[j]! =(x:Int):=fun j hj=>by rw[hd,getElem!_pos _ _ (by simpa using hj)];simp
   have hs:=csrt8 (x:Int) g 0 cap cur w d [] w (fun j hj=>hdx j (by omega)) (Ts.refl hH (fun j hj=>by rw[Nat.zero_add,hcur j (by omega),hdx j (by omega)])) (by omega);rw[hds]at hs;have Hs:=uh hs;have Hall:=uh (fun(d':Array Int) (hP:Sort.PermIn 0 n d d') (j:Nat) (hj:j<n)=>Sort.permIn_all d d' 0 n (fun y=>y=(x:Int)) (by omega) hP (fun i _ hi=>hdx i hi) j (Nat.zero_le _) hj);have HD:=uh hds;clear hs hcur hdx hd hH hds htk hr
   go_enter func104,ntmps104
   go_wp2_with fail
   refine Hs.out.mono ?_;rintro e w1 ⟨rfl,d',⟨hP,-⟩,c,h1,h2,hT⟩
   have hc2:∀j,j<n -> c[j]?= some (.int .u8 x):=fun j hj=>by
    have h3:=h2 j (by rw[hP.1,HD.out];exact hj);rw[Nat.zero_add,Hall.out d' hP j hj]at h3;exact h3
   have Hc:=uh (cpc8 g cap n x c w1 (by omega) hnc (by rw[h1];omega) hn6 hc2 hT.has);have HT:=uh hT;clear h1 h2 hT hc2 hP Hs Hall
   go_wp2_with fail
   refine Hc.out.mono ?_;rintro e w2 ⟨m,rfl,rfl,c2,h0,hT2⟩;have HX:=uh (And.intro h0 (HT.out.trans hT2));clear h0 hT2 HT Hc
   go_wp2_with fail
   go_ret;refine⟨1,_,Nat.le_refl _,rfl,⟨rfl,fun h=>(by cases h),fun ad ha j u hj=>?_⟩,HX.out.2⟩
   cases ha
   have hj0:j=0:=by
    have:=(List.getElem?_eq_some_iff.1 hj).1;simp[u8s,sames]at this;omega
   subst hj0;have hu:u=.int .u8 x:=(by simpa [u8s,sames]using hj.symm);rw[hu,add_lit];exact(HX.out.2.cell1 0).trans HX.out.1
theorem sames_snoc (i x:Nat):u8s (sames (i+1) x)=u8s (sames i x)++[.int .u8 x]:=by
 unfold u8s sames;rw[List.replicate_succ',List.map_append]
 rfl
theorem akinds (w:World)(l:List Br)(x:Nat)(hx:∀b∈l,b.1=x)(ao:Option Addr)(cap:Nat)(hS:Src w ao l.length cap 5 (brs l))(hl:l.length <= 2147483648):
  Calls prog 37 #[.slice ao l.length cap] w fun e w'=>∃(m:Nat) (a2:Option Addr) (p2:Nat) (l':List Blk),m <= 1 /\ e=.returned (.slice a2 m p2) /\ Src w' a2 m p2 1 (u8s (sames m x)) /\ Turn [] w l' w':=by
 have hszB:=sz_breach;have HS:=uh hS;have Hx:=uh (fun(i:Nat) (b:Br) (h:l[i]?= some b)=>hx b (List.mem_of_getElem? h));have hT0:=uh (Turn.refl (Has.nil w));clear hS hx
 go_enter func37,ntmps37
 go_wp2_with fail
 go_loopw [2,7] (fun v2 v7 wr=>∃(i:Nat) (a2:Option Addr) (p2:Nat) (lr lj:List Blk),i <= l.length /\ v7=.int .i64 i /\ v2=.slice a2 i p2 /\ Row 5 1 a2 i p2 (u8s (sames i x)) lr /\ Turn [] w (lr++lj) wr) (fun _ v7 _=>l.length-(intOf v7).toNat)
 case atStart=>exact⟨0,none,0,[],[],Nat.zero_le _,by go_num,rfl,Row.nil _ _,hT0.out⟩
 case round=>
  clear hT0;obtain⟨i,a2,p2,lr,lj,hi,rfl,rfl,hr2,V⟩:=hrel
  by_cases hlt:i<l.length
  · have hlt':(i:Int)<(l.length:Int):=by omega
    obtain⟨b0,hb⟩:∃b,l[i]?= some b:=⟨l[i],List.getElem?_eq_getElem hlt⟩;have hk:=Hx.out i b0 hb;obtain⟨k,bat,bsl,bwho,bwhy⟩:=b0;simp only at hk;subst hk;have hS:=HS.out.below V.below;obtain⟨b,off,rfl,-⟩:=hS.form (by rw[brs_length];omega);have hrg:wr.rangeAt b (off+i*5) [.int .u8 k,.int .i64 bat,.int .i64 bsl,.int .u64 bwho,.int .i64 bwhy]:=Src.fm (f:=brCells) (fun _=>rfl) hS hb;have T3:=V.alloc (.cells #[.int .u8 0,.int .i64 0,.int .i64 0,.int .u64 0,.int .i64 0] 60);have hth:(wr.alloc (.cells #[.int .u8 0,.int .i64 0,.int .i64 0,.int .u64 0,.int .i64 0] 60)).there wr.heap.size 0 5:=T3.there1;have HT3:=uh (T3.laid [.int .u8 k,.int .i64 bat,.int .i64 bsl,.int .u64 bwho,.int .i64 bwhy] rfl);have hoB:(#[.int .u8 k,.int .i64 bat,.int .i64 bsl,.int .u64 bwho,.int .i64 bwhy]:Array Value).all (·.oneCell')=true:=all_one (cs:=[.int .u8 k,.int .i64 bat,.int .i64 bsl,.int .u64 bwho,.int .i64 bwhy]) (by simp[Value.oneCell']);have Hr2:=uh hr2;have h63:i+1 <= maxLen:=(by unfold maxLen;omega);have hby:(i+1)*1 <= 140737488355328:=(by omega);clear T3 V hb hr2 hS
    go_wp2_with (first
     | (show lW 60;refine wpList_load_mid rfl 60 _ rfl b (off+i*5) rfl [.int .u8 k,.int .i64 bat,.int .i64 bsl,.int .u64 bwho,.int .i64 bwhy] _ hrg underlying60 rfl hszB ?_;clear hrg)
     | (show sW 60;refine wpList_store_mid rfl 60 _ _ rfl wr.heap.size 0 #[.int .u8 k,.int .i64 bat,.int .i64 bsl,.int .u64 bwho,.int .i64 bwhy] rfl rfl hth hszB hoB ?_;clear hth;generalize(wr.alloc (.cells #[.int .u8 0,.int .i64 0,.int .i64 0,.int .u64 0,.int .i64 0] 60)).setCells wr.heap.size 0 [.int .u8 k,.int .i64 bat,.int .i64 bsl,.int .u64 bwho,.int .i64 bwhy]=w3 at*;generalize wr.heap.size=nb at*;have q0:=HT3.out.cell1 0)
     | (at_builtin;have T6:=uh (HT3.out.alloc (.cells #[.int .u8 k] 5));refine wpList_append_row rfl _ _ rfl el_u8 rfl Hr2.out (R:=(w3.heap.size,.cells #[.int .u8 k] 5)::(nb,.cells #[.int .u8 k,.int .i64 bat,.int .i64 bsl,.int .u64 bwho,.int .i64 bwhy] 60)::lj) (T6.out.perm po).has rfl (news:=[.int .u8 k]) rfl (news_of (heap_alloc_new _ _)) (by simp[Value.oneCell']) h63 hby ?_;intro a9 p9 l9 w8 hr9 V9 hno;have HV9:=uh ((T6.out.perm po).trans V9);have Hr9:=uh hr9;clear V9 hr9 hno)
     | fail)
    go_roundw
    case rel=>exact⟨i+1,a9,p9,l9,_,by omega,by go_num,rfl,by rw[sames_snoc];exact Hr9.out,HV9.out⟩
    case measure=>simp[intOf];omega
  · obtain rfl:i=l.length:=by omega
    have hnl:¬((l.length:Nat):Int)<(l.length:Int):=(by omega);have Hr:=uh (rise8 wr l.length p2 x a2 lr hr2 V.has.left (by omega));have HV:=uh V;clear hr2 V
    go_wp2_with fail
    refine Hr.out.mono ?_;rintro e w2 ⟨m,l',hm,rfl,hs,hT⟩;have HX:=uh (And.intro hs (HV.out.trans (hT.more HV.out.has)));clear hs hT HV Hr
    go_wp2_with fail
    go_ret;exact⟨m,a2,p2,_,hm,rfl,HX.out.1,HX.out.2⟩
theorem cblack (w:World)(bs bh:Nat)(hbh:w.cell? ⟨bh,0,none⟩=some (.pointer none)):
  Calls prog 88 #[pt bh,pt bs] w fun e w'=>e=.returned (.slice none 0 0) /\ Below w.heap.size w w':=by
 go_enter func88,ntmps88
 go_wp2_with fail
 go_quiet (fail)
 go_wp2_with fail
 go_ret;exact⟨rfl,below_drewN (Below.refl _ _) _⟩
theorem cblack2 (w:World)(bs bh:Nat)(hbh:w.cell? ⟨bh,0,none⟩=some (.pointer none)):
  Calls prog 88 #[pt bh,pt bs] w fun e w'=>∃ao cap l,e=.returned (.slice ao ([]:List Br).length cap) /\ Row 60 5 ao ([]:List Br).length cap (brs []) l /\ Turn [] w l w':=by
 refine(cblack w bs bh hbh).mono ?_;rintro e w' ⟨rfl,hB⟩;exact⟨none,0,[],rfl,Row.nil _ _,Turn.of_below (Has.nil w) hB⟩
def wrongs (L:List Ty)(W:List Nat)(cs:List Ce)(hh hp hw:List (Nat×Nat)):List Br:=(badsOf L W cs).map refBr++(lost 3 cs hh++(lost 4 cs hp++lostW cs hw))
theorem lost_len (k:Nat)(cs:List Ce)(l:List (Nat×Nat)):(lost k cs l).length <= l.length:=by have h:=lost_le k cs l l.length;rwa [List.take_length]at h
theorem lostW_len (cs:List Ce)(l:List (Nat×Nat)):(lostW cs l).length <= l.length:=by have h:=lostW_le cs l l.length;rwa [List.take_length]at h
def parts (E A B C:List Br):Nat -> List Br
 | 0=>E
 | 1=>E++A
 | 2=>E++(A++B)
 | _=>E++(A++(B++C))
theorem parts_0 (E A B C:List Br):parts E A B C 1=parts E A B C 0++A:=rfl
theorem parts_1 (E A B C:List Br):parts E A B C 2=parts E A B C 1++B:=by simp[parts]
theorem parts_2 (E A B C:List Br):parts E A B C 3=parts E A B C 2++C:=by simp[parts]
theorem parts_3 (E A B C:List Br):parts E A B C 4=parts E A B C 3++[]:=by simp[parts]
theorem parts_len (E A B C:List Br)(i:Nat):(parts E A B C i).length <= E.length+(A.length+(B.length+C.length)):=by
 match i with
 | 0|1|2|i+3=>simp[parts]<;>omega
theorem sames_no (m:Nat):decide (1∈sames m 2)=false:=by
 unfold sames;rw[decide_eq_false_iff_not,List.mem_replicate];omega
theorem aof (w:World)(sb a aw tb bb:Nat){W B:List Nat}(bo:Option Addr)(bcap:Nat)(tao:Option Addr)(tcap:Nat)(L:List Ty)(cs:List Ce)(hA:SbAt w sb a aw tb bb W B bo bcap tao tcap L)(hI:SdIn L W B cs)(hN:noTouch cs)
  (ph pw pp:Option Addr)(hh hw hp:List (Nat×Nat))(hxh:∀x∈hh,x.2<18446744073709551616)(hxw:∀x∈hw,x.2<18446744073709551616)(hxp:∀x∈hp,x.2<18446744073709551616)(hlh:hh.length <= 65536)(hlw:hw.length <= 65536)(hlp:hp.length <= 65536)(h12:∀x∈hp,x.1=x.2)
  (hT1:Tells 81 47 ph w (hh.map (·.2)))(hT2:Tells 82 83 ph w (hh.map (·.1)))(hT3:Tells 84 47 pp w (hp.map (·.2)))
  (hT4:Tells 87 47 pw w (hw.map (·.2)))(hT5:Tells 86 86 pw w (hw.map (·.1))):
  Calls prog 25 #[pt sb,.pointer ph,.pointer pw,.pointer pp,.pointer none] w fun e w'=>∃ao cap l,e=.returned (.tuple #[.slice ao (wrongs L W cs hh hp hw).length cap,.int .i64 0]) /\ Row 60 5 ao (wrongs L W cs hh hp hw).length cap (brs (wrongs L W cs hh hp hw)) l /\ Turn [] w l w':=by
 have Hce:=uh (fun w' (hk:Below w.heap.size w w')=>acells w' sb a aw tb bb bo bcap tao tcap L cs (hA.below hk) hI);have Hga:=uh (fun w' (hk:Below w.heap.size w w')=>agaps w' sb a aw tb tao tcap L (hA.below hk).sp hI.few hI.u64 hI.ty hI.lt cs hI.chain hN);have Hki:=uh (fun w' ao cap (hS:Src w' ao ((badsOf L W cs).map refBr).length cap 5 (brs ((badsOf L W cs).map refBr)))=>akinds w' ((badsOf L W cs).map refBr) 2 (fun b hb=>by obtain⟨x,-,rfl⟩:=List.mem_map.1 hb;rfl) ao cap hS (by rw[List.length_map];exact bads_len hI));have Hch:=uh (fun w' (hk:Below w.heap.size w w') bs bl bh hbs hbl hbh=>chands w' sb a aw tb bb bo bcap tao tcap L cs (hA.below hk) hI bs bl bh ph hh hbs hbl hbh hxh hlh (hT1.below hk) (hT2.below hk));have Hcp:=uh (fun w' (hk:Below w.heap.size w w') bs bl bh hbs hbl hbh=>cpins w' sb a aw tb bb bo bcap tao tcap L cs (hA.below hk) hI bs bl bh pp hp hbs hbl hbh hxp hlp (hT3.below hk) h12);have Hcw:=uh (fun w' (hk:Below w.heap.size w w') bs bl bh hbs hbl hbh=>cweaks w' sb a aw tb bb bo bcap tao tcap L cs (hA.below hk) hI bs bl bh pw hw hbs hbl hbh hxw hlw (hT4.below hk) (hT5.below hk));have hbl:=bads_len hI;have hl1:=lost_len 3 cs hh;have hl2:=lost_len 4 cs hp;have hl3:=lostW_len cs hw;have hml:((badsOf L W cs).map refBr).length=(badsOf L W cs).length:=List.length_map ..;unfold wrongs;rw[←hml]at hbl Hce;obtain⟨E,hE⟩:∃E,(badsOf L W cs).map refBr=E:=⟨_,rfl⟩;obtain⟨A1,hA1⟩:∃A,lost 3 cs hh=A:=⟨_,rfl⟩;obtain⟨A2,hA2⟩:∃A,lost 4 cs hp=A:=⟨_,rfl⟩
 obtain⟨A3,hA3⟩:∃A,lostW cs hw=A:=⟨_,rfl⟩;rw[hE]at Hce Hki hbl ⊢;rw[hA1]at Hch hl1 ⊢;rw[hA2]at Hcp hl2 ⊢;rw[hA3]at Hcw hl3 ⊢;clear hml hE hA1 hA2 hA3 hA hI hN hxh hxw hxp h12 hT1 hT2 hT3 hT4 hT5;have T0:=(((((Turn.refl (Has.nil w)).alloc (bS sb)).alloc (.cells #[.pointer ph] 73)).alloc (.cells #[.pointer pw] 68)).alloc (.cells #[.pointer pp] 74)).alloc (.cells #[.pointer none] 103);simp only[World.size_alloc]at T0
 go_enter func25,ntmps25
 have q5:=T0.has.cell (b:=w.heap.size) (c:=#[pt sb]) (e:=26) (f:=(0,0)) (by simp) 0;have HT0:=uh T0;have Hce2:=uh (Hce.out _ T0.below);clear T0
 go_wp2_with fail
 generalize((((w.alloc (bS sb)).alloc (.cells #[.pointer ph] 73)).alloc (.cells #[.pointer pw] 68)).alloc (.cells #[.pointer pp] 74)).alloc (.cells #[.pointer none] 103)=W0 at*;obtain⟨n0,hn0⟩:∃n0,w.heap.size=n0:=⟨_,rfl⟩;rw[hn0]at HT0 q5 ⊢;refine Hce2.out.mono ?_;rintro e w1 ⟨ao,cap,lc,rfl,hrow,T1⟩;have HT1:=uh (HT0.out.grow T1);have Hrow:=uh hrow;have Hk:=uh (Hki.out w1 ao cap (hrow.src (R:=[]) (by rw[List.append_nil];exact T1.has)));have HB1:=uh (T1.below.cell (p:=⟨n0,0,none⟩) (World.block_lt_of_cell? W0 _ q5) |>.trans q5);clear hrow T1 HT0 Hce2 Hce Hki q5
 go_wp2_with fail
 refine Hk.out.mono ?_;rintro e w2 ⟨m,a2,p2,lk,hm,rfl,hs2,T2⟩;have Hct:=uh (contains8 w2 (sames m 2) a2 p2 (by have h:=hs2;unfold sames;rw[List.length_replicate];exact h) (by unfold sames;rw[List.length_replicate];omega) 1);rw[sames_no,show(sames m 2).length=m from by unfold sames;exact List.length_replicate ..]at Hct;have q5:=(T2.below.cell (p:=⟨n0,0,none⟩) (World.block_lt_of_cell? w1 _ HB1.out)).trans HB1.out;have HT2:=uh (HT1.out.grow T2);have Hg:=uh (Hga.out w2 HT2.out.below);clear hs2 T2 HT1 Hk Hga HB1
 go_wp2_with (first
  | (go_at_call 76;refine Hct.out.mono ?_;rintro e w' ⟨rfl,hw⟩;rw[hw];clear hw w')
  | fail)
 refine Hg.out.mono ?_;rintro e w3 ⟨rfl,hB3⟩;have HT3:=uh (HT2.out.call hB3);clear hB3 HT2 Hg Hct q5
 go_wp2_with (first
  | (at_builtin;refine wpList_append_src rfl _ _ rfl el_breach rfl rfl Hrow.out (R:=lk++[(n0+1+1+1+1,.cells #[.pointer none] 103),(n0+1+1+1,.cells #[.pointer pp] 74),(n0+1+1,.cells #[.pointer pw] 68),(n0+1,.cells #[.pointer ph] 73),(n0,bS sb)]) (HT3.out.perm po).has (news:=[]) ⟨rfl,fun _=>⟨rfl,rfl⟩,fun ad h=>by cases h⟩ (fun u hu=>by cases hu) (by unfold maxLen;omega) (by omega) ?_;intro a9 p9 l9 w4 hr9 V9;have HV9:=uh ((HT3.out.perm po).trans V9);have Hr9:=uh hr9;clear V9 hr9 HT3)
  | fail)
 -- four
 have T5:Turn [] w ((w4.heap.size+1,.cells #[.func (.func 80) #[] #[pt (n0+1),pt w4.heap.size],.func (.func 83) #[] #[pt (n0+1+1+1),pt w4.heap.size],.func (.func 85) #[] #[pt (n0+1+1),pt w4.heap.size],.func (.func 88) #[] #[pt (n0+1+1+1+1),pt n0]] 167)::(w4.heap.size,.cells #[.func (.func 78) #[] #[pt n0]] 163)::(l9++(lk++[(n0+1+1+1+1,.cells #[.pointer none] 103),(n0+1+1+1,.cells #[.pointer pp] 74),(n0+1+1,.cells #[.pointer pw] 68),(n0+1,.cells #[.pointer ph] 73),(n0,bS sb)]))) ((w4.alloc (.cells #[.func (.func 78) #[] #[pt n0]] 163)).alloc (.cells #[.func (.func 80) #[] #[pt (n0+1),pt w4.heap.size],.func (.func 83) #[] #[pt (n0+1+1+1),pt w4.heap.size],.func (.func 85) #[] #[pt (n0+1+1),pt w4.heap.size],.func (.func 88) #[] #[pt (n0+1+1+1+1),pt n0]] 167)):=by
  have h:=(HV9.out.alloc (.cells #[.func (.func 78) #[] #[pt n0]] 163)).alloc (.cells #[.func (.func 80) #[] #[pt (n0+1),pt w4.heap.size],.func (.func 83) #[] #[pt (n0+1+1+1),pt w4.heap.size],.func (.func 85) #[] #[pt (n0+1+1),pt w4.heap.size],.func (.func 88) #[] #[pt (n0+1+1+1+1),pt n0]] 167);simp only[World.size_alloc]at h;exact h
 generalize(w4.alloc (.cells #[.func (.func 78) #[] #[pt n0]] 163)).alloc (.cells #[.func (.func 80) #[] #[pt (n0+1),pt w4.heap.size],.func (.func 83) #[] #[pt (n0+1+1+1),pt w4.heap.size],.func (.func 85) #[] #[pt (n0+1+1),pt w4.heap.size],.func (.func 88) #[] #[pt (n0+1+1+1+1),pt n0]] 167)=W5 at*;generalize w4.heap.size=bl at*;have Hr0:=Hr9.out;rw[List.append_nil]at Hr0;have HR0:=uh Hr0
 obtain⟨RS,hRS⟩:∃RS:List Blk,RS=((bl+1,.cells #[.func (.func 80) #[] #[pt (n0+1),pt bl],.func (.func 83) #[] #[pt (n0+1+1+1),pt bl],.func (.func 85) #[] #[pt (n0+1+1),pt bl],.func (.func 88) #[] #[pt (n0+1+1+1+1),pt n0]] 167)::(bl,.cells #[.func (.func 78) #[] #[pt n0]] 163)::[(n0+1+1+1+1,.cells #[.pointer none] 103),(n0+1+1+1,.cells #[.pointer pp] 74),(n0+1+1,.cells #[.pointer pw] 68),(n0+1,.cells #[.pointer ph] 73),(n0,bS sb)]):=⟨_,rfl⟩;have HRS:=uh hRS;have HT5:=uh (T5.perm (l2:=l9++(lk++RS)) (perm_of fun c=>by rw[hRS];simp<;>omega));clear hRS;clear Hr0 T5 HV9 Hr9
 go_loopw [12,50] (fun v12 v50 wr=>∃(i:Nat) (a2:Option Addr) (p2:Nat) (lr lj:List Blk),i <= 4 /\ v50=.int .i64 i /\ v12=.slice a2 (parts E A1 A2 A3 i).length p2 /\ Row 60 5 a2 (parts E A1 A2 A3 i).length p2 (brs (parts E A1 A2 A3 i)) lr /\ Turn [] w (lr++(lj++RS)) wr) (fun _ v50 _=>4-(intOf v50).toNat)
 case atStart=>exact⟨0,a9,p9,l9,lk,by omega,by go_num,rfl,HR0.out,HT5.out⟩
 case round=>
  clear HT5 HR0;obtain⟨i,a2,p2,lr,lj,hi,rfl,rfl,hr2,V⟩:=hrel;have Hr2:=uh hr2;have hq0:wr.cell? ⟨n0,0,none⟩=some (pt sb):=V.has.cell (b:=n0) (c:=#[pt sb]) (e:=26) (f:=(0,0)) (by rw[HRS.out];simp) 0;have hqb:wr.cell? ⟨bl,0,none⟩=some (.func (.func 78) #[] #[pt n0]):=V.has.cell (b:=bl) (c:=#[.func (.func 78) #[] #[pt n0]]) (e:=163) (f:=(0,0)) (by rw[HRS.out];simp) 0;have hqh:wr.cell? ⟨n0+1,0,none⟩=some (.pointer ph):=V.has.cell (b:=n0+1) (c:=#[.pointer ph]) (e:=73) (f:=(0,0)) (by rw[HRS.out];simp) 0;have hqw:wr.cell? ⟨n0+1+1,0,none⟩=some (.pointer pw):=V.has.cell (b:=n0+1+1) (c:=#[.pointer pw]) (e:=68) (f:=(0,0)) (by rw[HRS.out];simp) 0;have hqp:wr.cell? ⟨n0+1+1+1,0,none⟩=some (.pointer pp):=V.has.cell (b:=n0+1+1+1) (c:=#[.pointer pp]) (e:=74) (f:=(0,0)) (by rw[HRS.out];simp) 0;have hqk:wr.cell? ⟨n0+1+1+1+1,0,none⟩=some (.pointer none):=V.has.cell (b:=n0+1+1+1+1) (c:=#[.pointer none]) (e:=103) (f:=(0,0)) (by rw[HRS.out];simp) 0;have Hh:=uh (Hch.out wr V.below n0 bl (n0+1) hq0 hqb hqh);have Hp:=uh (Hcp.out wr V.below n0 bl (n0+1+1+1) hq0 hqb hqp);have Hw:=uh (Hcw.out wr V.below n0 bl (n0+1+1) hq0 hqb hqw);have Hb:=uh (cblack2 wr n0 (n0+1+1+1+1) hqk);have hpl:=parts_len E A1 A2 A3 i;clear hr2 hq0 hqb hqh hqw hqp hqk;obtain rfl|rfl|rfl|rfl|rfl:i=0∨i=1∨i=2∨i=3∨i=4:=by omega
  · have q:wr.cell? ⟨bl+1,0,none⟩=some (.func (.func 80) #[] #[pt (n0+1),pt bl]):=V.has.cell (b:=bl+1) (c:=#[.func (.func 80) #[] #[pt (n0+1),pt bl],.func (.func 83) #[] #[pt (n0+1+1+1),pt bl],.func (.func 85) #[] #[pt (n0+1+1),pt bl],.func (.func 88) #[] #[pt (n0+1+1+1+1),pt n0]]) (e:=167) (f:=(0,0)) (by rw[HRS.out];simp) 0
    have HP:=uh (parts_0 E A1 A2 A3);have HV:=uh V;generalize parts E A1 A2 A3 0=P at*;clear V
    go_wp2_with fail
    refine Hh.out.mono ?_;rintro e w5 ⟨a5,p5,l5,rfl,hr5,T5⟩;have HV5:=uh (HV.out.grow T5);have h63:P.length+A1.length <= maxLen:=by unfold maxLen;omega
    have hby:(P.length+A1.length)*40 <= 140737488355328:=(by omega);have HS5:=uh (hr5.src HV5.out.has);clear hr5 T5 HV q Hh Hp Hw Hb
    go_wp2_with (first
     | (at_builtin;refine wpList_append_src rfl _ _ rfl el_breach rfl rfl Hr2.out (R:=l5++(lj++RS)) (HV5.out.perm po).has HS5.out (brs_one _) h63 hby ?_;intro a9 p9 l9 w8 hr9 V9;have HV9:=uh ((HV5.out.perm po).trans V9);have Hr9:=uh hr9;clear V9 hr9)
     | fail)
    go_roundw
    case rel=>
     refine⟨1,a9,p9,l9,l5++lj,by omega,by go_num,by rw[HP.out,List.length_append]<;>rfl,?_,?_⟩
     · rw[HP.out,List.length_append,brs_append]
       exact Hr9.out
     · rw[List.append_assoc]
       exact HV9.out
    case measure=>simp[intOf]
  · have q:wr.cell? ⟨bl+1,1,none⟩=some (.func (.func 83) #[] #[pt (n0+1+1+1),pt bl]):=V.has.cell (b:=bl+1) (c:=#[.func (.func 80) #[] #[pt (n0+1),pt bl],.func (.func 83) #[] #[pt (n0+1+1+1),pt bl],.func (.func 85) #[] #[pt (n0+1+1),pt bl],.func (.func 88) #[] #[pt (n0+1+1+1+1),pt n0]]) (e:=167) (f:=(0,0)) (by rw[HRS.out];simp) 1
    have HP:=uh (parts_1 E A1 A2 A3);have HV:=uh V;generalize parts E A1 A2 A3 1=P at*;clear V
    go_wp2_with fail
    refine Hp.out.mono ?_;rintro e w5 ⟨a5,p5,l5,rfl,hr5,T5⟩;have HV5:=uh (HV.out.grow T5);have h63:P.length+A2.length <= maxLen:=by unfold maxLen;omega
    have hby:(P.length+A2.length)*40 <= 140737488355328:=(by omega);have HS5:=uh (hr5.src HV5.out.has);clear hr5 T5 HV q Hh Hp Hw Hb
    go_wp2_with (first
     | (at_builtin;refine wpList_append_src rfl _ _ rfl el_breach rfl rfl Hr2.out (R:=l5++(lj++RS)) (HV5.out.perm po).has HS5.out (brs_one _) h63 hby ?_;intro a9 p9 l9 w8 hr9 V9;have HV9:=uh ((HV5.out.perm po).trans V9);have Hr9:=uh hr9;clear V9 hr9)
     | fail)
    go_roundw
    case rel=>
     refine⟨2,a9,p9,l9,l5++lj,by omega,by go_num,by rw[HP.out,List.length_append]<;>rfl,?_,?_⟩
     · rw[HP.out,List.length_append,brs_append]
       exact Hr9.out
     · rw[List.append_assoc]
       exact HV9.out
    case measure=>simp[intOf]
  · have q:wr.cell? ⟨bl+1,2,none⟩=some (.func (.func 85) #[] #[pt (n0+1+1),pt bl]):=V.has.cell (b:=bl+1) (c:=#[.func (.func 80) #[] #[pt (n0+1),pt bl],.func (.func 83) #[] #[pt (n0+1+1+1),pt bl],.func (.func 85) #[] #[pt (n0+1+1),pt bl],.func (.func 88) #[] #[pt (n0+1+1+1+1),pt n0]]) (e:=167) (f:=(0,0)) (by rw[HRS.out];simp) 2
    have HP:=uh (parts_2 E A1 A2 A3);have HV:=uh V;generalize parts E A1 A2 A3 2=P at*;clear V
    go_wp2_with fail
    refine Hw.out.mono ?_;rintro e w5 ⟨a5,p5,l5,rfl,hr5,T5⟩;have HV5:=uh (HV.out.grow T5);have h63:P.length+A3.length <= maxLen:=by unfold maxLen;omega
    have hby:(P.length+A3.length)*40 <= 140737488355328:=(by omega);have HS5:=uh (hr5.src HV5.out.has);clear hr5 T5 HV q Hh Hp Hw Hb
    go_wp2_with (first
     | (at_builtin;refine wpList_append_src rfl _ _ rfl el_breach rfl rfl Hr2.out (R:=l5++(lj++RS)) (HV5.out.perm po).has HS5.out (brs_one _) h63 hby ?_;intro a9 p9 l9 w8 hr9 V9;have HV9:=uh ((HV5.out.perm po).trans V9);have Hr9:=uh hr9;clear V9 hr9)
     | fail)
    go_roundw
    case rel=>
     refine⟨3,a9,p9,l9,l5++lj,by omega,by go_num,by rw[HP.out,List.length_append]<;>rfl,?_,?_⟩
     · rw[HP.out,List.length_append,brs_append]
       exact Hr9.out
     · rw[List.append_assoc]
       exact HV9.out
    case measure=>simp[intOf]
  · have q:wr.cell? ⟨bl+1,3,none⟩=some (.func (.func 88) #[] #[pt (n0+1+1+1+1),pt n0]):=V.has.cell (b:=bl+1) (c:=#[.func (.func 80) #[] #[pt (n0+1),pt bl],.func (.func 83) #[] #[pt (n0+1+1+1),pt bl],.func (.func 85) #[] #[pt (n0+1+1),pt bl],.func (.func 88) #[] #[pt (n0+1+1+1+1),pt n0]]) (e:=167) (f:=(0,0)) (by rw[HRS.out];simp) 3
    have HP:=uh (parts_3 E A1 A2 A3);have HV:=uh V;generalize parts E A1 A2 A3 3=P at*;clear V
    go_wp2_with fail
    refine Hb.out.mono ?_;rintro e w5 ⟨a5,p5,l5,rfl,hr5,T5⟩;have HV5:=uh (HV.out.grow T5);have h63:P.length+([]:List Br).length <= maxLen:=by unfold maxLen;simp only[List.length_nil];omega
    have hby:(P.length+([]:List Br).length)*40 <= 140737488355328:=(by simp only[List.length_nil];omega);have HS5:=uh (hr5.src HV5.out.has);clear hr5 T5 HV q Hh Hp Hw Hb
    go_wp2_with (first
     | (at_builtin;refine wpList_append_src rfl _ _ rfl el_breach rfl rfl Hr2.out (R:=l5++(lj++RS)) (HV5.out.perm po).has HS5.out (brs_one _) h63 hby ?_;intro a9 p9 l9 w8 hr9 V9;have HV9:=uh ((HV5.out.perm po).trans V9);have Hr9:=uh hr9;clear V9 hr9)
     | fail)
    go_roundw
    case rel=>
     refine⟨4,a9,p9,l9,l5++lj,by omega,by go_num,by rw[HP.out,List.length_append]<;>rfl,?_,?_⟩
     · rw[HP.out,List.length_append,brs_append]
       exact Hr9.out
     · rw[List.append_assoc]
       exact HV9.out
    case measure=>simp[intOf]
  · have HV:=uh V
    have HP:=uh (show parts E A1 A2 A3 4=E++(A1++(A2++A3))from rfl);clear V Hh Hp Hw Hb;rw[HP.out]at Hr2 ⊢
    go_wp2_with fail
    refine bodyPost_ret (results_tmp2 rfl _ _ _) rfl ?_;exact⟨a2,p2,lr,rfl,Hr2.out,HV.out.sub (List.sublist_append_left ..)⟩
end
section
open Go Go.RowKit
theorem lives_no_tgt {cs:List Ce}{v:Nat}(h:lives cs v=false):tgt (ats cs) v= -1:=by
 unfold tgt;rw[if_neg];rintro⟨h1,-,h3,h4⟩;obtain⟨c,hc,he⟩:=List.mem_map.1 h4;have:lives cs v=true:=lives_iff.2 ⟨c,hc,by omega⟩;rw[h]at this
 cases this
theorem wrongs_parts {L:List Ty}{W:List Nat}{cs:List Ce}{hh hp hw:List (Nat×Nat)}(h:wrongs L W cs hh hp hw=[]):badsOf L W cs=[] /\ lost 3 cs hh=[] /\ lost 4 cs hp=[] /\ lostW cs hw=[]:=by
 unfold wrongs at h;obtain⟨h1,h2⟩:=List.append_eq_nil_iff.1 h;obtain⟨h3,h4⟩:=List.append_eq_nil_iff.1 h2;obtain⟨h5,h6⟩:=List.append_eq_nil_iff.1 h4;exact⟨List.map_eq_nil_iff.1 h1,h3,h5,h6⟩
theorem hdl_more {rs:List Nat}{a:Nat}(hl:rs.length<64)(h0:∀v∈rs,v≠0)(ha:a≠0):hdl (hSl (rs++[a]))=hdl (hSl rs)++[(4294967296+rs.length,a)]:=by
 rw[hSl_hdl (by rw[List.length_append,List.length_singleton];omega) (fun v hv=>by rcases List.mem_append.1 hv with hv|hv;exact h0 v hv;rw[List.mem_singleton.1 hv];exact ha),hSl_hdl (by omega) h0];rw[List.zipIdx_append,List.map_append];simp
theorem wrongs_hand {L:List Ty}{W:List Nat}{cs:List Ce}{hp hw:List (Nat×Nat)}{rs:List Nat}{a:Nat}(hl:rs.length<64)(h0:∀v∈rs,v≠0)(ha:a≠0)(h:wrongs L W cs (hdl (hSl rs)) hp hw=[])(hv:lives cs a=false):
  wrongs L W cs (hdl (hSl (rs++[a]))) hp hw=[(3,0,0,4294967296+rs.length,0)]:=by
 obtain⟨h1,h2,h3,h4⟩:=wrongs_parts h;unfold wrongs;rw[hdl_more hl h0 ha,lost_snoc,h1,h2,h3,h4];simp[hv]
theorem wdl_none (m:Nat):wdl (List.replicate m zeroSlot)=[]:=by
 unfold wdl
 have:addrs (List.replicate m zeroSlot)=[]:=by
  unfold addrs;rw[List.map_eq_nil_iff,List.filter_eq_nil_iff];intro s hs;rw[List.eq_of_mem_replicate hs]
  decide
 rw[this];exact List.zip_nil_right
theorem wdl_one (a:Nat):wdl ((List.replicate 4 zeroSlot).set 0 ⟨1,(a:Int),1⟩)=[(4294967296,a)]:=by
 have h1:whL ((List.replicate 4 zeroSlot).set 0 ⟨1,(a:Int),1⟩) 4=[4294967296]:=by
  simp[whL,List.range_succ,zeroSlot,wh,List.replicate_succ]
 have h2:addrs ((List.replicate 4 zeroSlot).set 0 ⟨1,(a:Int),1⟩)=[(a:Int)]:=rfl;unfold wdl;rw[show((List.replicate 4 zeroSlot).set 0 (⟨1,(a:Int),1⟩:Slot)).length=4 by simp,h1,h2];simp
theorem wrongs_weak {L:List Ty}{W:List Nat}{cs:List Ce}{hh hp:List (Nat×Nat)}{a:Nat}(ha:a≠0)(h:wrongs L W cs hh hp []=[])(hv:lives cs a=false):wrongs L W cs hh hp [(4294967296,a)]=[(5,0,0,4294967296,0)]:=by
 obtain⟨h1,h2,h3,h4⟩:=wrongs_parts h;unfold wrongs;rw[h1,h2,h3];unfold lostW lost;simp[hv,ha]
def dup (l:List Nat):List (Nat×Nat):=l.map fun v=>(v,v)
theorem wrongs_pin {L:List Ty}{W:List Nat}{cs:List Ce}{hh hw:List (Nat×Nat)}{m':List (Int×Value)}{ys zs:List Nat}{a:Nat}(hz:PinList m' zs)(hm:∀x,x∈zs↔x∈ys∨x=a)(h:wrongs L W cs hh (dup ys) hw=[])(hv:lives cs a=false):
  wrongs L W cs hh (dup zs) hw=[(4,0,0,a,0)]:=by
 obtain⟨h1,h2,h3,h4⟩:=wrongs_parts h
 have hf:(dup zs).filter (fun x=> !lives cs x.2)=[(a,a)]:=by
  refine filter_one (p0:=(a,a)) ?_ ?_ fun p hp=>?_
  · unfold dup
    rw[List.Nodup,List.pairwise_map];exact hz.1.imp fun hne he=>hne (Prod.mk.inj he).1
  ·exact List.mem_map.2 ⟨a,(hm a).2 (.inr rfl),rfl⟩
  · obtain⟨x,hx,rfl⟩:=List.mem_map.1 hp
    constructor
    · intro hq
      rcases(hm x).1 hx with hx|rfl
      · have h5:=List.map_eq_nil_iff.1 h3
        have h6:=List.filter_eq_nil_iff.1 h5 (x,x) (List.mem_map.2 ⟨x,hx,rfl⟩);exact absurd hq h6
      ·rfl
    · intro he
      cases he
      simp[hv]
 unfold wrongs;rw[h1,h2,h4];unfold lost;rw[hf]
 rfl
theorem wrongs_ref {L:List Ty}{W:List Nat}{cs:List Ce}{hh hp hw:List (Nat×Nat)}(hC:Chain L W 0 cs (W.length/2))(h:wrongs L W cs hh hp hw=[]){c:Ce}(hc:c∈objs cs){s a:Nat}(hs:s∈(tyAt L c.2.typ).refs c.2.len)(ha:a≠0)(hv:lives cs a=false):
  wrongs L (W.set (2*c.1+1+s) a) cs hh hp hw=[(2,c.1,s,0,8)]:=by
 obtain⟨h1,h2,h3,h4⟩:=wrongs_parts h;have h5:=lives_no_tgt hv;unfold wrongs;rw[bads_one hC h1 hc hs ha (by rw[h5];decide),h2,h3,h4]
 rfl
theorem ref_in {L:List Ty}{W:List Nat}{cs:List Ce}(hC:Chain L W 0 cs (W.length/2)){c:Ce}(hc:c∈cs)(ho:c.2.tag=1){s:Nat}(hs:s∈(tyAt L c.2.typ).refs c.2.len):
  s<(tyAt L c.2.typ).slots c.2.len /\ 2*c.1<2*c.1+1+s /\ 2*c.1+1+s<2*(c.1+c.2.size) /\ 2*c.1+1+s<W.length:=by
 have hm:=hC.mem c hc;have h4:=(stands_slots hm.2.2 ho).1
 have h5:s<(tyAt L c.2.typ).slots c.2.len:=by
  unfold Ty.refs at hs;exact List.mem_range.1 (List.mem_filter.1 hs).1
 have h6:=hm.2.2.2.2;exact⟨h5,by omega,by omega,by omega⟩
end
section
open Go Go.RowKit Go.Shelf Go.IntWalk
attribute [local go_sem] Oper.semAt_some
theorem neach (w:World)(f:Value):Calls prog 164 #[.pointer none,f] w fun e w'=>e=.returned (.tuple #[]) /\ w'=w:=by
 go_enter func164,ntmps164
 go_wp2
 (try simp only[Exit.inBlock,Exit.then]);refine bodyPost_ret (results_none rfl _ _ _) rfl ?_
 exact⟨rfl,rfl⟩
theorem nwRefs (w:World):Calls prog 87 #[.pointer none] w fun e w'=>e=.returned (.slice none 0 0) /\ Below w.heap.size w w':=by
 have T0:=(Turn.refl (Has.nil w)).alloc (.cells #[.slice none 0 0] 61);have q0:=T0.cell1 0;have f0:=T0.free1 0;have HT:=uh T0;clear T0
 go_enter func87,ntmps87
 go_wp2_with (first
  | (go_at_call 164;refine(neach _ _).mono ?_;rintro e w' ⟨rfl,hw⟩;rw[hw];clear hw w')
  | fail)
 have q1:=HT.out.cell1 0;refine bodyPost_ret (v:=.slice none 0 0) ?_ rfl ?_
 ·simp[results,results87,go_sem]
 ·exact⟨rfl,HT.out.below⟩
theorem nwList (w:World):Calls prog 86 #[.pointer none] w fun e w'=>e=.returned (.slice none 0 0) /\ Below w.heap.size w w':=by
 have T0:=((Turn.refl (Has.nil w)).alloc (.cells #[.pointer none] 68)).alloc (.cells #[.slice none 0 0] 168);rw[World.size_alloc]at T0;have q0:=T0.cell1 0;have f0:=T0.free1 0;have q9:=T0.cell2 0;have HT:=uh T0;clear T0
 go_enter func86,ntmps86
 go_wp2_with (first
  | (go_at_call 164;refine(neach _ _).mono ?_;rintro e w' ⟨rfl,hw⟩;rw[hw];clear hw w')
  | fail)
 have q1:=HT.out.cell1 0;refine bodyPost_ret (v:=.slice none 0 0) ?_ rfl ?_
 ·simp[results,results86,go_sem]
 ·exact⟨rfl,HT.out.below⟩
theorem npall (n:Nat)(Bs:Nat)(w:World)(hBs:w.heap[Bs]?= some (.cells #[.pointer none] 74)):
  SeqG Fence.wide n prog 214 #[pt Bs] (fun x:Nat=>#[.int .u64 x]) (fun _ _=>True) (fun _ _=>False) (fun xs=>xs=[]) (fun _=>True) w:=fun l J W0 hW hJ hG hY h0=>by
 have hB0:W0.heap[Bs]?= some (.cells #[.pointer none] 74):=(hW.block Bs (lt_of_block hBs)).trans hBs;have q:W0.cell? ⟨Bs,0,none⟩=some (.pointer none):=(Has.one hB0).cell (List.mem_cons_self ..) 0;have hFl:Fence.wide.fn 214:= trivial;have H0:=uh h0;clear hY hG hJ h0 hB0;refine callsIn_of_wp func214 rfl hFl ?_ rfl;simp only[ntmps214,List.size_toArray,List.length_cons,List.length_nil,Nat.reduceAdd,Nat.reduceSub,Array.replicate_succ,Array.replicate_zero,List.push_toArray,List.append_toArray,List.nil_append,List.cons_append]
 gi_wp2_with fail
 (try simp only[Exit.inBlock,Exit.then]);refine bodyPost_ret (results_none rfl _ _ _) rfl ?_
 exact⟨⟨_,rfl⟩,[],rfl,H0.out⟩
theorem npapp (w:World)(Bs:Nat)(hBs:w.heap[Bs]?= some (.cells #[.pointer none] 74)):
  Calls prog 213 #[.slice none 0 0,.func (.func 214) #[] #[pt Bs]] w fun e w'=>e=.returned (.slice none 0 0) /\ Below w.heap.size w w':=by
 refine(callsIn_wide (n:=4)).1 ?_;have h3:Fence.wide.fn 213:= trivial;have h6:Fence.wide.fn 214:= trivial;have hro:Fence.wide.round=none:=rfl;have T0:=(Turn.refl (Has.nil w)).alloc (.cells #[.slice none 0 0] 61);refine callsIn_of_wp_marks func213 rfl h3 ?_ hro;simp only[ntmps213,List.size_toArray,List.length_cons,List.length_nil,Nat.reduceAdd,Nat.reduceSub,Array.replicate_succ,Array.replicate_zero,List.push_toArray,List.append_toArray,List.nil_append,List.cons_append]
 gi_wp2_with fail
 generalize hW:w.alloc (.cells #[.slice none 0 0] 61)=W0 at*;have hBs0:W0.heap[Bs]?= some (.cells #[.pointer none] 74):=(T0.below.block Bs (lt_of_block hBs)).trans hBs
 refine wpIn_rangeFunc_g (α:=Nat) (β:=Nat) (FA:=fun _ _=>{ tmps:=#[],defers:=[] }) hro (by omega) (gf:=214) (lb:=#[pt Bs]) rfl h6 (enters_of func214 (by kernel_rfl) rfl) (npall _ Bs W0 hBs0)
  (fun _ _=>trivial) (fun _ _ _ _ _ _ _ _=>trivial) (Below.refl _ _) (fun _=>rfl) (fun _ W'=>Turn [] w [(w.heap.size,.cells #[.slice none 0 0] 61)] W') (fun _ _ _ _=>False) (fun s A D row hT hg hr=>hT.grownC T0.size (fun y hy=>.inl (by rw[List.mem_singleton.1 hy];rfl)) hg hr) (fun _ _ _ _ _ _ h=>h.elim) T0 (fun _ _ _=>trivial) (fun _ _ _ _ h=>h.elim) (fun _ _ _ _ _ h=>h.elim) ?_
 rintro D xs W2 hD-hT hK;have q0:=hT.cell1 0;have T10:=hT.grownC (B:=W0.heap.size) T0.size (fun y hy=>.inl (by rw[List.mem_singleton.1 hy];rfl)) (grownBy_putObj' _ D (.deferred none)) (fun r e=>by cases e;exact⟨hD,_,hK,rfl⟩);have HT10:=uh T10;have HK:=uh hK;clear hT hK T10
 gi_wp2_with fail
 refine⟨by simp,.inl ⟨_,_,rfl,run_takeDeferred HK.out,?_⟩⟩;refine⟨.slice none 0 0,?_,rfl,HT10.out.below⟩;simp[results,results213,go_sem]
theorem npList (w:World):Calls prog 84 #[.pointer none] w fun e w'=>e=.returned (.slice none 0 0) /\ Below w.heap.size w w':=by
 have Hall:∀w,Calls prog 163 #[.pointer none] w fun e w'=>e=.returned (.func (.func 214) #[] #[pt w.heap.size]) /\ w'=w.alloc (.cells #[.pointer none] 74):=fun w=>by
  go_enter func163,ntmps163
  go_wp2
  go_ret;exact⟨rfl,rfl⟩
 have HA:=uh (Hall w);have T0:=(Turn.refl (Has.nil w)).alloc (.cells #[.pointer none] 74);have Happ:=uh (npapp (w.alloc (.cells #[.pointer none] 74)) w.heap.size (T0.has.own _ _ (List.mem_cons_self ..)));have HT:=uh T0
 have Hcol:Calls prog 162 #[.func (.func 214) #[] #[pt w.heap.size]] (w.alloc (.cells #[.pointer none] 74)) fun e w'=>e=.returned (.slice none 0 0) /\ Below (w.alloc (.cells #[.pointer none] 74)).heap.size (w.alloc (.cells #[.pointer none] 74)) w':=by
  go_enter func162,ntmps162
  go_wp2_with fail
  refine Happ.out.mono ?_;rintro e w2 ⟨rfl,hB⟩;have HB:=uh hB;clear hB
  go_wp2_with fail
  go_ret;exact⟨rfl,HB.out⟩
 have HC:=uh Hcol;clear Hall Hcol T0 Happ
 go_enter func84,ntmps84
 go_wp2_with fail
 refine HA.out.mono ?_;rintro e w1 ⟨rfl,hw⟩;rw[hw];clear hw w1 HA
 go_wp2_with fail
 refine HC.out.mono ?_;rintro e w2 ⟨rfl,hB⟩;have HB:=uh (HT.out.below.trans (hB.mono HT.out.size));clear hB HC
 go_wp2_with fail
 go_ret;exact⟨rfl,HB.out⟩
end
section
open Go Go.RowKit Go.IntWalk
theorem tells_none {f:Nat}{e:TypeId}(w:World)(h:∀w,Calls prog f #[.pointer none] w fun en w'=>en=.returned (.slice none 0 0) /\ Below w.heap.size w w'):Tells f e none w []:=fun w' _=>by
 refine(h w').mono ?_;rintro en w2 ⟨rfl,hB⟩;exact⟨none,0,[],rfl,Row.nil _ _,Turn.of_below (Has.nil w') hB⟩
theorem sbat_pl {w1:World}(w:World){sb tb rb lcap:Nat}{lao:Option Addr}{L:List Ty}{W B Wr:List Nat}{X:List Blk}{cs:List Ce}(hb:PlBase w1 tb L lao lcap)(hP:PlAt w1 w sb tb rb lao lcap L W B Wr X)(h:Pl L W B cs):
  ∃a aw bb bo bcap tao tcap,SbAt w sb a aw tb bb W B bo bcap tao tcap L /\ SdIn L W B cs:=by
 obtain⟨tao,tcap,hTab⟩:=hb.tab;have hsm:=h.good.small;have hfew:=h.good.few;obtain⟨ls,lr,⟨a,aw,bb,cw,lb,hbit,rfl⟩,hR,hX,T⟩:=hP;have hA:=spAt_of T hTab hb.fields (by omega);obtain⟨bo,bcap,hBit⟩:=hbit.at_ (R:=arBlks a aw W cw++(spBlk sb a tb bb::(lr++X))) (T.has.perm po)
 exact⟨a,aw,bb,bo,bcap,tao,tcap,⟨hA,T.has.cell (b:=sb) (c:=#[pt a,pt tb,pt bb]) (e:=146) (f:=(0,0)) (by simp[spBlk]) 2,hBit⟩,
  ⟨by omega,h.good.u64,hb.ty,by omega,h.good.chain,h.bu,h.bl,h.bits⟩⟩
end
section
open Go Go.RowKit Go.Shelf
theorem bcheck_fresh (b:Nat)(w:World)(h0:w.cell? ⟨b,0,none⟩=some (.pointer none))(hsh:w.shape? b=some (242,2))(hfz:w.frozen? ⟨b,0,none⟩=false):
  Calls prog 190 #[pt b] w fun e w'=>e=.returned (.tuple #[]) /\ w'=w.setCell ⟨b,0,none⟩ (pt b):=by
 obtain⟨j,hj,hjs⟩:=Option.map_eq_some_iff.1 (show(prog.info? 242).map (·.size)=some 2 by kernel_rfl)
 go_enter func190,ntmps190
 go_wp2
 rw[Lib.run_to_unsafe w ⟨b,0,none⟩ underlying240 underlying362 hj (by rw[hjs];decide) hsh (Nat.zero_lt_succ 1)];simp only[Result.andThen];rw[Oper.upon_value]
 go_wp2
 rw[run_callFunc_extern func234 (by kernel_rfl) (by kernel_rfl) (by kernel_rfl) (e:=Extern.AbiNoEscape.same) (by kernel_rfl)];rw[Lib.run_noEscape];simp only[Result.andThen];rw[Oper.upon_value]
 go_wp2
 rw[Lib.run_from_unsafe w ⟨b,0,none⟩ underlying362 underlying240 hj hsh (by kernel_rfl)];simp only[Result.andThen];rw[Oper.upon_value]
 go_wp2
 go_end0;exact⟨rfl,rfl⟩
theorem bgrow_fresh (B b n:Nat)(w:World)(hB:B <= b)(hbk:w.heap[b]?= some (.cells #[pt b,.slice none 0 0] 242 (0,0)))(hBw:B <= w.heap.size)(hn:n <= 281474976710656):
  Calls prog 221 #[pt b,.int .i64 n] w fun e w'=>e=.returned (.tuple #[]) /\ (Lib.BuilderAt 242 5 B b (pt b) [] w' /\ Below B w w'):=by
 obtain⟨cs,hrun,hle,hmax⟩:=Lib.run_makeNoZero (P:=prog) w.drew #[3] 95 5 underlying95 n hn
 have hw:IntKind.i64.wrap (IntKind.i64.wrap 0+(n:Int))=n:=by
  rw[IntKind.wrap_i64,IntKind.wrap_i64];omega
 have hcall:(callFunc 259 #[.int .i64 (IntKind.i64.wrap (IntKind.i64.wrap 0+(n:Int)))]).run prog w.drew=.ok (.value (.slice (some ⟨w.drew.heap.size,0,none⟩) n cs.size)) (w.drew.drew.drew.alloc (.cells cs 5)):=by
  rw[hw,run_callFunc_extern func259 (by kernel_rfl) (by kernel_rfl) (by kernel_rfl) (e:=Extern.BytealgMakeNoZero.makeNoZero #[3] #[95]) (by kernel_rfl),hrun]
  rfl
 have hlt:b<w.heap.size:=by
  rcases Nat.lt_or_ge b w.heap.size with h'|h'
  ·exact h'
  ·simp[Array.getElem?_eq_none h']at hbk
 have c1:w.drew.cell? ⟨b,1,none⟩=some (.slice none 0 0):=by
  have:w.drew.heap[b]?= _:=hbk;rw[Lib.cell_of_heap this];rfl
 have c2:(w.alloc (.cells cs 5)).cell? ⟨b,1,none⟩=some (.slice none 0 0):=by
  have:(w.alloc (.cells cs 5)).heap[b]?= _:=(Lib.alloc_old w _ b hlt).trans hbk;rw[Lib.cell_of_heap this];rfl
 have f2:(w.alloc (.cells cs 5)).frozen? ⟨b,1,none⟩=false:=Lib.frozen_of_heap ((Lib.alloc_old w _ b hlt).trans hbk) 1;have hsb:∀W:World,(sizeOf 5).run prog W=.ok 1 W:=fun _=>by kernel_rfl
 have hcopy:∀W:World,(Builtin.copy_ #[95,95] 3 #[.slice (some ⟨w.heap.size,0,none⟩) 0 cs.size,.slice none 0 0]).run prog W=.ok (goInt 0) W:=
  fun W=>run_copy_none W 95 95 3 5 _ _ 0 cs.size 0 0 underlying95 (by kernel_rfl) rfl
 clear hw hsb hlt;have hfin:=uh (Lib.grown_fresh (T:=242) (e:=5) (cs:=cs) hB hbk hBw (hmax (by unfold maxLen;omega)) (by decide))
 go_enter func221,ntmps221
 go_wp2
 go_region
 all_goals (go_wp2;go_end0;exact⟨rfl,hfin.out⟩)
theorem bGrow_fresh (B b n:Nat)(w:World)(hB:B <= b)(hbk:w.heap[b]?= some (.cells #[.pointer none,.slice none 0 0] 242 (0,0)))(hBw:B <= w.heap.size)(hn:n <= 281474976710656):
  Calls prog 172 #[pt b,.int .i64 n] w fun e w'=>e=.returned (.tuple #[]) /\ (Lib.BuilderAt 242 5 B b (pt b) [] w' /\ Below B w w'):=by
 have hbk1:(w.setCell ⟨b,0,none⟩ (pt b)).heap[b]?= some (.cells #[pt b,.slice none 0 0] 242 (0,0)):=by
  simp[World.setCell,Array.getElem?_modify,hbk]
 have c1:(w.setCell ⟨b,0,none⟩ (pt b)).cell? ⟨b,1,none⟩=some (.slice none 0 0):=by rw[Lib.cell_of_heap hbk1];rfl
 have hb1:Below B w (w.setCell ⟨b,0,none⟩ (pt b)):=(Below.refl B w).setCell (p:=⟨b,0,none⟩) hB _
 go_enter func172,ntmps172
 have hU:Lib.BuilderAt 242 5 B b (pt b) [] (w.setCell ⟨b,0,none⟩ (pt b)):=⟨hB,.slice none 0 0,hbk1,World.ownsRow_nil _ _ _ _,by simp[Value.ownBlock]⟩;have c1':(w.setCell ⟨b,0,none⟩ (pt b)).drew.cell? ⟨b,1,none⟩=some (.slice none 0 0):=c1
 go_wp2_with (go_at_call 190;refine(bcheck_fresh b w (by rw[Lib.cell_of_heap hbk];rfl) (by simp[World.shape?,hbk]) (Lib.frozen_of_heap hbk 0)).mono ?_;rintro e w' ⟨rfl,rfl⟩)
 go_region
 all_goals go_wp2_with (go_at_call 221;refine(bgrow_fresh B b n (w.setCell ⟨b,0,none⟩ (pt b)).drew hB hbk1 (by simpa [World.setCell,World.drew,-World.drew_eq]using hBw) hn).mono ?_;rintro e w' ⟨rfl,h1,h2⟩)
 all_goals first
  | (go_end0;exact⟨rfl,h1,hb1.drew.trans h2⟩)
  | (go_end0;exact⟨rfl,hU.drew,hb1.drew⟩)
theorem sjoin (bk o c:Nat)(xs:List ByteArray)(sep:ByteArray)(w:World)(hcells:∀(j:Nat) x,xs[j]?= some x -> w.cell? ⟨bk,o+j,none⟩=some (.string x))(hbk:bk<w.heap.size)(h2:2 <= xs.length)(hN:xs.length <= 140737488355328)(hcap:xs.length <= c)
  (hlen:(Lib.join (xs.map (·.data.toList)) sep.data.toList).length <= 140737488355328):
  Calls prog 105 #[.slice (some ⟨bk,o,none⟩) xs.length c,.string sep] w fun e w'=>e=.returned (.string ⟨(Lib.join (xs.map (·.data.toList)) sep.data.toList).toArray⟩) /\ Below w.heap.size w w':=by
 have HC:=uh hcells;clear hcells
 obtain⟨x0,r,hxs⟩:∃x0 r,xs=x0::r:=by
  cases xs with
  | nil=>simp at h2
  | cons a t=>exact⟨a,t,rfl⟩
 have hjl:sep.size*(xs.length-1)+Lib.lens (xs.map (·.data.toList)) <= 140737488355328:=by
  have:=Lib.join_length x0.data.toList (r.map (·.data.toList)) sep.data.toList;rw[hxs]at hlen ⊢;simp only[List.map_cons]at hlen ⊢;rw[this,List.length_map]at hlen;rw[Lib.size_eq,List.length_cons,Nat.add_sub_cancel];exact hlen
 have hmul:sep.size*(xs.length-1) <= 140737488355328:=by omega
 generalize hM:sep.size*(xs.length-1)=M at hjl hmul;have hcast:((xs.length:Int)-1)=((xs.length-1:Nat):Int):=by omega
 have hlt:sep.size<9223372036854775807/(xs.length-1):=by
  have:sep.size+1 <= 9223372036854775807/(xs.length-1):=by
   rw[Nat.le_div_iff_mul_le (by omega),Nat.add_mul,hM];omega
  omega
 have hdv:¬(9223372036854775807/((xs.length:Int)-1) <= (sep.size:Int)):=by
  have e:(9223372036854775807:Int)/((xs.length-1:Nat):Int)=((9223372036854775807/(xs.length-1):Nat):Int):=IntWalk.up_div (x:=9223372036854775807) rfl rfl;rw[hcast,e];generalize 9223372036854775807/(xs.length-1)=q at hlt;omega
 have hprod:wrap64 ((sep.size:Int)*((xs.length:Int)-1))=(M:Int):=by
  have e:(sep.size:Int)*((xs.length-1:Nat):Int)=((sep.size*(xs.length-1):Nat):Int):=IntWalk.up_mul rfl rfl;rw[hcast,e,hM];exact IntWalk.wrap64_in _ ⟨by omega,by omega⟩
 have hM0:sep.size=0 -> M=0:=fun h=>by rw[←hM,h,Nat.zero_mul]
 clear hlt hcast;have hne0:((xs.length:Int) == 0)=false:=beq_eq_false_iff_ne.2 (by omega);have hne1:((xs.length:Int) == 1)=false:=beq_eq_false_iff_ne.2 (by omega);have Hxs:=uh hxs;have Hlen:=uh hlen;clear hxs hlen
 go_enter func105,ntmps105
 go_wp2_with fail
 all_goals (
  go_loop [5,41] (fun n i=>∃k:Nat,k <= xs.length /\ i=.int .i64 k /\ n=.int .i64 ((M+Lib.lens ((xs.map (·.data.toList)).take k):Nat):Int)) (fun _ i=>xs.length-(intOf i).toNat)
  case atStart=>exact⟨0,Nat.zero_le _,rfl,by first|(simp[Lib.lens];done)|(have:=hM0 (by omega);simp[Lib.lens,this])⟩
  case round=>
   obtain⟨k,hk,rfl,rfl⟩:=hrel
   by_cases hkn:k<xs.length
   · obtain⟨x,hx⟩:∃x,xs[k]?= some x:=⟨xs[k],List.getElem?_eq_getElem hkn⟩
     have hc:=HC.out k x hx;have hstep:=Lib.lens_take_succ (xs.map (·.data.toList)) k x.data.toList (by simp[hx]);have hbound:Lib.lens ((xs.map (·.data.toList)).take (k+1)) <= Lib.lens (xs.map (·.data.toList)):=Lib.lens_take_le _ _;rw[←Lib.size_eq]at hstep;generalize hA1:Lib.lens ((xs.map (·.data.toList)).take (k+1))=A1 at hstep hbound;generalize Lib.lens ((xs.map (·.data.toList)).take k)=A0 at hstep;have HA1:=uh hA1;clear hA1
     go_wp2
     exact⟨⟨k+1,by omega,by go_num,by rw[HA1.out];refine congrArg _ ?_;omega⟩,by simp[intOf];omega⟩
   · have hke:k=xs.length:=by omega
     subst hke;have hall:(xs.map (·.data.toList)).take xs.length=xs.map (·.data.toList):=List.take_of_length_le (by simp);rw[hall];generalize hT:Lib.lens (xs.map (·.data.toList))=T at hjl;have HT:=uh hT;clear hT hall
     go_wp2_with fail
     have hMT:((M:Int)+(T:Int))=((M+T:Nat):Int):=(by omega);rw[hMT];refine(bGrow_fresh w.heap.size w.heap.size (M+T) _ (Nat.le_refl _) (heap_alloc_new w _) (by simp) (by omega)).mono ?_;rintro e w1 ⟨rfl,h1,hb1⟩;have hb1':Below w.heap.size w w1:=((Below.refl w.heap.size w).alloc (Nat.le_refl _) _).trans hb1;have hx0:xs[0]?= some x0:=by rw[Hxs.out];rfl
     have hc0:w1.cell? ⟨bk,o,none⟩=some (.string x0):=by
      rw[hb1'.cell (p:=⟨bk,o,none⟩) hbk];exact HC.out 0 x0 hx0
     have H1:=uh (Or.inr h1:Lib.IsBuilder 242 5 w.heap.size w.heap.size [] w1);have Hb1:=uh hb1';have hBw1:w.heap.size <= w1.heap.size:=hb1'.size;clear h1 hb1 hb1' hMT
     have hwhole:Lib.join (xs.map (·.data.toList)) sep.data.toList=x0.data.toList++Lib.joinTail sep.data.toList (r.map (·.data.toList)):=by
      rw[Hxs.out,List.map_cons,Lib.join_cons]
     have hCle:∀k,(x0.data.toList++Lib.joinTail sep.data.toList ((r.map (·.data.toList)).take k)).length <= 140737488355328:=fun k=>by
      have h1:=Hlen.out;rw[hwhole,List.length_append]at h1;have h2:=Lib.joinTail_take_le sep.data.toList (r.map (·.data.toList)) k;rw[List.length_append];omega
     have HCle:=uh hCle;have Hwhole:=uh hwhole;clear hCle hwhole
     go_wp2_with fail
     refine(bwrite w.heap.size w.heap.size [] x0 w1 H1.out (by have:=HCle.out 0;simp[Lib.joinTail]at this ⊢;omega) hBw1).mono ?_;rintro e w2 ⟨rfl,h2',hb2⟩
     have hstart:([]:List Value)++Lib.strCells x0=Lib.byteCells (x0.data.toList++Lib.joinTail sep.data.toList ((r.map (·.data.toList)).take 0)):=by
      simp[Lib.joinTail,Lib.strCells_eq]
     rw[hstart]at h2';have H2:=uh (Or.inr h2':Lib.IsBuilder 242 5 w.heap.size w.heap.size _ w2);have Hb2:=uh (Hb1.out.trans hb2);clear h2' hb2 hstart;have hrl:r.length=xs.length-1:=by rw[Hxs.out];simp
     go_wp2_with fail
     go_loopw [65] (fun i wr=>∃k:Nat,k <= r.length /\ i=.int .i64 k /\ Hid (Lib.IsBuilder 242 5 w.heap.size w.heap.size (Lib.byteCells (x0.data.toList++Lib.joinTail sep.data.toList ((r.map (·.data.toList)).take k))) wr) /\ Hid (Below w.heap.size w wr)) (fun i _=>r.length-(intOf i).toNat)
     case atStart=>exact⟨0,Nat.zero_le _,rfl,H2,Hb2⟩
     case round=>
      obtain⟨k,hk',rfl,HB,HW⟩:=hrel
      by_cases hkr:k<r.length
      · obtain⟨y,hy⟩:∃y,r[k]?= some y:=⟨r[k],List.getElem?_eq_getElem hkr⟩
        have hxy:xs[k+1]?= some y:=by rw[Hxs.out];simpa using hy
        have hcy:wr.cell? ⟨bk,o+1+k,none⟩=some (.string y):=by
         rw[HW.out.cell (p:=⟨bk,o+1+k,none⟩) hbk,show o+1+k=o+(k+1)by omega];exact HC.out (k+1) y hxy
        have hBw:w.heap.size <= wr.heap.size:=HW.out.size
        have hnext:Lib.byteCells (x0.data.toList++Lib.joinTail sep.data.toList ((r.map (·.data.toList)).take k))++Lib.strCells sep++Lib.strCells y=Lib.byteCells (x0.data.toList++Lib.joinTail sep.data.toList ((r.map (·.data.toList)).take (k+1))):=by
         rw[Lib.joinTail_take_succ sep.data.toList (r.map (·.data.toList)) k y.data.toList (by simp[hy]),Lib.strCells_eq,Lib.strCells_eq,←Lib.byteCells_append,←Lib.byteCells_append,List.append_assoc,List.append_assoc,List.append_assoc]
        have hl1:=HCle.out (k+1);rw[Lib.joinTail_take_succ sep.data.toList (r.map (·.data.toList)) k y.data.toList (by simp[hy])]at hl1;simp only[List.length_append,←Lib.size_eq]at hl1
        have hl0:(Lib.byteCells (x0.data.toList++Lib.joinTail sep.data.toList ((r.map (·.data.toList)).take k))).length=x0.size+(Lib.joinTail sep.data.toList ((r.map (·.data.toList)).take k)).length:=by
         rw[Lib.byteCells_length,List.length_append,←Lib.size_eq]
        generalize(Lib.joinTail sep.data.toList ((r.map (·.data.toList)).take k)).length=J at hl0 hl1;have Hn:=uh hnext;clear hnext hy hxy
        go_wp2_with fail
        refine(bwrite w.heap.size w.heap.size _ sep wr HB.out (by rw[hl0];omega) hBw).mono ?_;rintro e w3 ⟨rfl,h3,hb3⟩;have hBw3:w.heap.size <= w3.heap.size:=Nat.le_trans hBw hb3.size
        have hcy3:w3.cell? ⟨bk,o+1+k,none⟩=some (.string y):=by
         rw[hb3.cell (p:=⟨bk,o+1+k,none⟩) hbk];exact hcy
        have H3:=uh h3;have Hb3:=uh hb3;clear h3 hb3
        go_wp2_with fail
        refine(bwrite w.heap.size w.heap.size _ y w3 (Or.inr H3.out) (by rw[List.length_append,hl0,Lib.strCells_length];omega) hBw3).mono ?_;rintro e w4 ⟨rfl,h4,hb4⟩;rw[Hn.out]at h4;have H4:=uh (Or.inr h4:Lib.IsBuilder 242 5 w.heap.size w.heap.size _ w4);have Hb4:=uh ((HW.out.trans Hb3.out).trans hb4);clear h4 hb4
        go_wp2
        exact⟨⟨k+1,by omega,by go_num,H4,Hb4⟩,by simp[intOf];omega⟩
      · have hke:k=r.length:=by omega
        subst hke;have hfull:(r.map (·.data.toList)).take r.length=r.map (·.data.toList):=List.take_of_length_le (by simp);have hB':=HB.out;rw[hfull,←Hwhole.out]at hB';have hBw:w.heap.size <= wr.heap.size:=HW.out.size
        go_wp2_with fail
        refine(Tryz.Builder_String_any w.heap.size w.heap.size _ wr hB' hBw).mono ?_;rintro e w5 ⟨rfl,hb5⟩;have Hb5:=uh (HW.out.trans hb5);clear hb5 hB'
        go_wp2
        go_ret;exact⟨rfl,Hb5.out⟩)
end
section
open Go Go.RowKit Go.Shelf Go.Sort Go.Lib
theorem fuint0 (u:Nat)(hu64:u<18446744073709551616)(w:World)(htab:TabW w):
  Calls prog 174 #[.int .u64 u,.int .i64 10] w fun e w'=>e=.returned (.string ⟨(Lib.decDigits u).toArray⟩) /\ ∃k os,w'=grow (w.drewN k) os:=by
 by_cases hs:u<100
 · have hz:(u:Int)<100:=by omega
   have hcv:IntKind.i64.wrap (u:Int)=(u:Int):=by rw[IntKind.wrap_i64];omega
   go_enter func174,ntmps174
   go_wp2_with (go_at_call 223;refine(Any.internal_strconv_small { Tryz.laysM171 with } u hs _).mono ?_;rintro e w' ⟨rfl,rfl⟩)
   go_ret;exact⟨rfl,0,#[],by simp[World.drewN_zero]⟩
 · have hz:¬(u:Int)<100:=by omega
   have hu1:1 <= u:=(by omega);have hnd20:Lib.nDigits u <= 20:=(by have:=Lib.numDigits_eq u hu1 hu64;split at this<;>omega);have hb3:Lib.nDigits u <= 24:=(by omega);have hal:prog.arrayLen 352= 24:=by simp[Program.arrayLen,underlying352]
   have hsl2:∀W,(Instr.sliceAt 352 (pt w.heap.size) none (some (.int .i64 (Lib.nDigits u:Int))) none).run prog W=.ok (.slice (some ⟨w.heap.size,0,none⟩) (Lib.nDigits u) 24) W:=fun W=>by
    rw[run_sliceAt_array_h W 352 ⟨w.heap.size,0,none⟩ (by simp[Program.arrayLen,Program.elem,underlying352]) .i64 (Lib.nDigits u:Int) (by omega) (by rw[hal];omega)]
    go_simp
   have hH0:Holds (fun(b:UInt8)=>Value.int .u8 (b.toNat:Int)) (w.alloc (.cells Lib.zeros24 352)) w.heap.size 0 (Array.replicate (Lib.nDigits u) 0):=fun j hj=>by
    rw[Array.size_replicate]at hj
    constructor
    · rw[Nat.zero_add,World.cell?_alloc_new,Lib.zeros24_at j (by omega)]
      simp[hj]
    ·exact World.frozen?_alloc_new _ _ _ _
   have hfmt:=Any.internal_strconv_formatBase10 { Tryz.laysM171 with } w.heap.size 0 24 u (Array.replicate (Lib.nDigits u) 0) (w.alloc (.cells Lib.zeros24 352)) hH0 (by rw[Array.size_replicate];exact Lib.lt_pow_nDigits u) hu64 (by rw[Array.size_replicate];omega);rw[Array.size_replicate]at hfmt;have HH0:=uh hH0;clear hH0 hal
   go_enter func174,ntmps174
   go_wp2_with (first
    | (go_at_call 224;refine(Any.internal_strconv_numDigits { Tryz.laysM171 with } u hu1 hu64 _ (Lib.tabIs_alloc htab _)).mono ?_;rintro e w' ⟨rfl,rfl⟩))
   refine hfmt.mono ?_;rintro e w' ⟨rfl,k,v',dk,rfl,hF⟩
   have hcv:(convert 95 9 (.slice (some ⟨w.heap.size,0,none⟩) (Lib.nDigits u) 24)).run prog ((putRow (fun(b:UInt8)=>Value.int .u8 (b.toNat:Int)) (w.alloc (.cells Lib.zeros24 352)) w.heap.size 0 dk).drewN k)=.ok (.string ⟨(Lib.decDigits u).toArray⟩) ((putRow (fun(b:UInt8)=>Value.int .u8 (b.toNat:Int)) (w.alloc (.cells Lib.zeros24 352)) w.heap.size 0 dk).drewN k):=by
    have h:=run_convert_bytes_back (P:=prog) ((putRow (fun(b:UInt8)=>Value.int .u8 (b.toNat:Int)) (w.alloc (.cells Lib.zeros24 352)) w.heap.size 0 dk).drewN k) 95 9 5 ⟨w.heap.size,0,none⟩ 24 (Lib.decDigits u) underlying95 underlying5 underlying9 (fun j hj=>by
     rw[Lib.row_is_numeral hF j hj,Lib.add_plain,World.cell?_drewN];exact cell?_putRow (fun(b:UInt8)=>Value.int .u8 (b.toNat:Int)) _ w.heap.size 0 _ dk HH0.out (by rw[hF.size,Array.size_replicate]) j (by rw[hF.size];rw[Lib.decDigits_length]at hj;exact hj))
    rw[Lib.decDigits_length]at h;exact h
   go_wp2
   go_ret;obtain⟨os,eo⟩:=Lib.fin_at w (.cells Lib.zeros24 352) dk k 0;exact⟨rfl,k,os,eo⟩
theorem fuint (u:Nat)(hu64:u<18446744073709551616)(w:World)(htab:TabW w):
  Calls prog 107 #[.int .u64 u,.int .i64 10] w fun e w'=>e=.returned (.string ⟨(Lib.decDigits u).toArray⟩) /\ Below w.heap.size w w':=by
 have H:=uh (fuint0 u hu64 w htab);clear htab
 go_enter func107,ntmps107
 go_wp2_with fail
 refine H.out.mono ?_;rintro e w' ⟨rfl,k,os,hw⟩;have hB:Below w.heap.size w w':=by rw[hw];exact Lib.below_grow _ _ (Nat.le_refl _) _ _
 have HB:=uh hB;clear hw hB H
 go_wp2_with fail
 go_ret;exact⟨rfl,HB.out⟩
end
section
open Go Go.RowKit Go.Shelf Go.IntWalk
def kNames:List (List UInt8):=[[63],[99,101,108,108],[114,101,102],[104,97,110,100],[112,105,110],[119,101,97,107],[98,108,97,99,107],[103,97,112]]
def kName (k:Nat):List UInt8:=kNames.getD k [63]
def brLine (k:Nat)(at_ sl:Int)(who:Nat)(why:Int):List UInt8:=Lib.join [kName k,Lib.itoa at_,Lib.itoa sl,Lib.decDigits who,Lib.itoa why] [32]
theorem decDigits_len (u:Nat)(hu:u<18446744073709551616):(Lib.decDigits u).length <= 20:=by
 rw[Lib.decDigits_length]
 by_cases h:u=0
 ·subst h;decide +kernel
 · have:=Lib.numDigits_eq u (by omega) hu
   split at this<;>omega
theorem itoa_len (n:Int)(h0: -9223372036854775808 <= n)(h1:n <= 9223372036854775807):(Lib.itoa n).length <= 21:=by
 by_cases hn:n<0
 · obtain⟨u,rfl⟩:∃u:Nat,n= -(u:Int):=⟨n.natAbs,by omega⟩
   rw[Lib.itoa_neg u (by omega),List.length_cons];have:=decDigits_len u (by omega);omega
 · obtain⟨u,rfl⟩:∃u:Nat,n=u:=⟨n.toNat,by omega⟩
   rw[Lib.itoa_nonneg];have:=decDigits_len u (by omega);omega
theorem kName_len (k:Nat):(kName k).length <= 5:=by
 unfold kName kNames
 match k with
 | 0|1|2|3|4|5|6|7=>decide
 | k+8=>simp
theorem brLine_len (k:Nat)(at_ sl:Int)(who:Nat)(why:Int)(h0: -9223372036854775808 <= at_)(h1:at_ <= 9223372036854775807)(h2: -9223372036854775808 <= sl)(h3:sl <= 9223372036854775807)(h4:who<18446744073709551616)(h5: -9223372036854775808 <= why)(h6:why <= 9223372036854775807):(brLine k at_ sl who why).length <= 1000:=by
 unfold brLine;rw[Lib.join_length];have e1:=kName_len k;have e2:=itoa_len at_ h0 h1;have e3:=itoa_len sl h2 h3;have e4:=decDigits_len who h4;have e5:=itoa_len why h5 h6;simp only[Lib.lens,List.map_cons,List.map_nil,List.sum_cons,List.sum_nil,List.length_cons,List.length_nil];omega
theorem aline (w:World)(ht:TabW w)(k:Nat)(hk:k<256)(at_ sl:Int)(who:Nat)(why:Int)(h0: -9223372036854775808 <= at_)(h1:at_ <= 9223372036854775807)(h2: -9223372036854775808 <= sl)(h3:sl <= 9223372036854775807)(h4:who<18446744073709551616)(h5: -9223372036854775808 <= why)(h6:why <= 9223372036854775807):
  Calls prog 39 #[.agg #[.int .u8 k,.int .i64 at_,.int .i64 sl,.int .u64 who,.int .i64 why]] w fun e w'=>e=.returned (.string ⟨(brLine k at_ sl who why).toArray⟩) /\ Below w.heap.size w w':=by
 have HtB:=uh (Lib.tabBelow_of_tabIs ht);have Hlen:=uh (brLine_len k at_ sl who why h0 h1 h2 h3 h4 h5 h6)
 have T1:Turn [] w ((w.heap.size+1,.cells #[.string ⟨#[63]⟩,.string ⟨#[99,101,108,108]⟩,.string ⟨#[114,101,102]⟩,.string ⟨#[104,97,110,100]⟩,.string ⟨#[112,105,110]⟩,.string ⟨#[119,101,97,107]⟩,.string ⟨#[98,108,97,99,107]⟩,.string ⟨#[103,97,112]⟩] 202)::(w.heap.size,.cells #[.int .u8 k,.int .i64 at_,.int .i64 sl,.int .u64 who,.int .i64 why] 60)::[]) ((w.alloc (.cells #[.int .u8 k,.int .i64 at_,.int .i64 sl,.int .u64 who,.int .i64 why] 60)).alloc (.cells #[.string ⟨#[63]⟩,.string ⟨#[99,101,108,108]⟩,.string ⟨#[114,101,102]⟩,.string ⟨#[104,97,110,100]⟩,.string ⟨#[112,105,110]⟩,.string ⟨#[119,101,97,107]⟩,.string ⟨#[98,108,97,99,107]⟩,.string ⟨#[103,97,112]⟩] 202)):=by
  have h:=((Turn.refl (Has.nil w)).alloc (.cells #[.int .u8 k,.int .i64 at_,.int .i64 sl,.int .u64 who,.int .i64 why] 60)).alloc (.cells #[.string ⟨#[63]⟩,.string ⟨#[99,101,108,108]⟩,.string ⟨#[114,101,102]⟩,.string ⟨#[104,97,110,100]⟩,.string ⟨#[112,105,110]⟩,.string ⟨#[119,101,97,107]⟩,.string ⟨#[98,108,97,99,107]⟩,.string ⟨#[103,97,112]⟩] 202);simp only[World.size_alloc]at h;exact h
 have HT1:=uh T1;clear ht T1
 go_enter func39,ntmps39
 go_upto_if 9 with fail
 generalize(w.alloc (.cells #[.int .u8 k,.int .i64 at_,.int .i64 sl,.int .u64 who,.int .i64 why] 60)).alloc (.cells #[.string ⟨#[63]⟩,.string ⟨#[99,101,108,108]⟩,.string ⟨#[114,101,102]⟩,.string ⟨#[104,97,110,100]⟩,.string ⟨#[112,105,110]⟩,.string ⟨#[119,101,97,107]⟩,.string ⟨#[98,108,97,99,107]⟩,.string ⟨#[103,97,112]⟩] 202)=W1 at*;have Ht:=uh (HtB.out W1 HT1.out.below);generalize w.heap.size=nb at*
 go_cut [4]from 10 (fun v4 wc=>v4=.string ⟨(kName k).toArray⟩ /\ wc=W1)
 case first=>
  have hq0:W1.cell? ⟨nb,0,none⟩=some (.int .u8 k):=HT1.out.has.cell (b:=nb) (c:=#[.int .u8 k,.int .i64 at_,.int .i64 sl,.int .u64 who,.int .i64 why]) (e:=60) (f:=(0,0)) (by simp) 0;have hc:=fun j=>HT1.out.has.cell (b:=nb+1) (c:=#[.string ⟨#[63]⟩,.string ⟨#[99,101,108,108]⟩,.string ⟨#[114,101,102]⟩,.string ⟨#[104,97,110,100]⟩,.string ⟨#[112,105,110]⟩,.string ⟨#[119,101,97,107]⟩,.string ⟨#[98,108,97,99,107]⟩,.string ⟨#[103,97,112]⟩]) (e:=202) (f:=(0,0)) (by simp) j
  by_cases hk8:k<8
  · have hk8z:(k:Int)<8:=by omega
    have hqk:W1.cell? ⟨nb+1,k,none⟩=some (.string ⟨(kName k).toArray⟩):=by
     rw[hc k];obtain rfl|rfl|rfl|rfl|rfl|rfl|rfl|rfl:k=0∨k=1∨k=2∨k=3∨k=4∨k=5∨k=6∨k=7:=by omega
     all_goals rfl
    clear hc
    go_wp2_with fail
    go_meet
    case rel=>exact⟨rfl,rfl⟩
  · have hk8z:¬(k:Int)<8:=by omega
    have hkn:kName k=[63]:=by
     unfold kName kNames
     match k,hk8 with
     | k+8,_=>simp
    have HK:=uh hkn;clear hc hkn
    go_wp2_with fail
    go_meet
    case rel=>exact⟨by rw[HK.out],rfl⟩
 case rest=>
  obtain⟨rfl,rfl⟩:=hcut
  go_wp2_with fail
  have HL:=uh (fun u (hk:Below wc.heap.size wc u)=>(⟨(hk.cell (p:=⟨nb,1,none⟩) (World.block_lt_of_cell? wc _ (HT1.out.has.cell (b:=nb) (c:=#[.int .u8 k,.int .i64 at_,.int .i64 sl,.int .u64 who,.int .i64 why]) (e:=60) (f:=(0,0)) (by simp) 1))).trans (HT1.out.has.cell (b:=nb) (c:=#[.int .u8 k,.int .i64 at_,.int .i64 sl,.int .u64 who,.int .i64 why]) (e:=60) (f:=(0,0)) (by simp) 1),(hk.cell (p:=⟨nb,2,none⟩) (World.block_lt_of_cell? wc _ (HT1.out.has.cell (b:=nb) (c:=#[.int .u8 k,.int .i64 at_,.int .i64 sl,.int .u64 who,.int .i64 why]) (e:=60) (f:=(0,0)) (by simp) 2))).trans (HT1.out.has.cell (b:=nb) (c:=#[.int .u8 k,.int .i64 at_,.int .i64 sl,.int .u64 who,.int .i64 why]) (e:=60) (f:=(0,0)) (by simp) 2),(hk.cell (p:=⟨nb,3,none⟩) (World.block_lt_of_cell? wc _ (HT1.out.has.cell (b:=nb) (c:=#[.int .u8 k,.int .i64 at_,.int .i64 sl,.int .u64 who,.int .i64 why]) (e:=60) (f:=(0,0)) (by simp) 3))).trans (HT1.out.has.cell (b:=nb) (c:=#[.int .u8 k,.int .i64 at_,.int .i64 sl,.int .u64 who,.int .i64 why]) (e:=60) (f:=(0,0)) (by simp) 3),(hk.cell (p:=⟨nb,4,none⟩) (World.block_lt_of_cell? wc _ (HT1.out.has.cell (b:=nb) (c:=#[.int .u8 k,.int .i64 at_,.int .i64 sl,.int .u64 who,.int .i64 why]) (e:=60) (f:=(0,0)) (by simp) 4))).trans (HT1.out.has.cell (b:=nb) (c:=#[.int .u8 k,.int .i64 at_,.int .i64 sl,.int .u64 who,.int .i64 why]) (e:=60) (f:=(0,0)) (by simp) 4)⟩:u.cell? ⟨nb,1,none⟩=some (.int .i64 at_) /\ u.cell? ⟨nb,2,none⟩=some (.int .i64 sl) /\ u.cell? ⟨nb,3,none⟩=some (.int .u64 who) /\ u.cell? ⟨nb,4,none⟩=some (.int .i64 why)))
  have HB:=uh HT1.out.below;have HtC:=uh (Lib.tabBelow_of_tabIs Ht.out);clear HT1 Ht HtB;have hS0:Below wc.heap.size wc wc.drew:=(Turn.refl (Has.nil wc)).drew.below;refine wp_region_noPanic ?_;refine wp_region_listed (S:=fun u=>Below wc.heap.size wc u) 16 [false,false,false,false,false,false,false,false,false,false,false,false,false,false,false,false] rfl rfl (by kernel_rfl) ?_;generalize wc.drew=u0 at*;refine tkA 0 14 hS0 ?_;refine tkA 1 15 hS0 ?_;refine tkB 2 16 hS0 (fun w hSw=>(HL.out w hSw).1) ?_;refine tkA 4 18 hS0 ?_;refine tkB 5 19 hS0 (fun w hSw=>(HL.out w hSw).2.1) ?_;refine tkA 7 21 hS0 ?_;refine tkB 8 22 hS0 (fun w hSw=>(HL.out w hSw).2.2.1) ?_;refine tkA 10 24 hS0 ?_;refine tkB 11 25 hS0 (fun w hSw=>(HL.out w hSw).2.2.2) ?_;clear HL;refine rdyA 3 (fun K hK=>?_)
  go_simp
  refine((sitoa u0 (Turn.refl (Has.nil _)) (HtC.out _ hS0) at_ h0 h1).mono (fun e w9 ⟨k1,k2⟩=>(⟨k1,k2.below⟩:e=Ending.returned (Value.string ⟨(Lib.itoa at_).toArray⟩) /\ Below u0.heap.size u0 w9))).mono ?_;rintro e u1 ⟨rfl,hB⟩;have hS1:=hS0.trans (hB.mono hS0.size);clear hB hS0;refine hK.out _ _ hS1 fun _=>?_;clear hK K;simp only[st0,st1,st2];refine rdyA 6 (fun K hK=>?_)
  go_simp
  refine((sitoa u1 (Turn.refl (Has.nil _)) (HtC.out _ hS1) sl h2 h3).mono (fun e w9 ⟨k1,k2⟩=>(⟨k1,k2.below⟩:e=Ending.returned (Value.string ⟨(Lib.itoa sl).toArray⟩) /\ Below u1.heap.size u1 w9))).mono ?_;rintro e u2 ⟨rfl,hB⟩;have hS2:=hS1.trans (hB.mono hS1.size);clear hB hS1;refine hK.out _ _ hS2 fun _=>?_;clear hK K;simp only[st0,st1,st2];refine rdyA 9 (fun K hK=>?_)
  go_simp
  refine(fuint who h4 u2 (HtC.out _ hS2)).mono ?_;rintro e u3 ⟨rfl,hB⟩;have hS3:=hS2.trans (hB.mono hS2.size);clear hB hS2;refine hK.out _ _ hS3 fun _=>?_;clear hK K;simp only[st0,st1,st2];refine rdyA 12 (fun K hK=>?_)
  go_simp
  refine((sitoa u3 (Turn.refl (Has.nil _)) (HtC.out _ hS3) why h5 h6).mono (fun e w9 ⟨k1,k2⟩=>(⟨k1,k2.below⟩:e=Ending.returned (Value.string ⟨(Lib.itoa why).toArray⟩) /\ Below u3.heap.size u3 w9))).mono ?_;rintro e u4 ⟨rfl,hB⟩;have hS4:=hS3.trans (hB.mono hS3.size);clear hB hS3;refine hK.out _ _ hS4 fun _=>?_;clear hK K;simp only[st0,st1,st2];refine rdyA 13 (fun K hK=>?_)
  go_simp
  have T5:=(Turn.refl (Has.nil u4)).alloc (.cells #[.string ⟨(kName k).toArray⟩,.string ⟨(Lib.itoa at_).toArray⟩,.string ⟨(Lib.itoa sl).toArray⟩,.string ⟨(Lib.decDigits who).toArray⟩,.string ⟨(Lib.itoa why).toArray⟩] 9)
  have hc5:∀(j:Nat) x,([⟨(kName k).toArray⟩,⟨(Lib.itoa at_).toArray⟩,⟨(Lib.itoa sl).toArray⟩,⟨(Lib.decDigits who).toArray⟩,⟨(Lib.itoa why).toArray⟩]:List ByteArray)[j]?= some x -> (u4.alloc (.cells #[.string ⟨(kName k).toArray⟩,.string ⟨(Lib.itoa at_).toArray⟩,.string ⟨(Lib.itoa sl).toArray⟩,.string ⟨(Lib.decDigits who).toArray⟩,.string ⟨(Lib.itoa why).toArray⟩] 9)).cell? ⟨u4.heap.size,0+j,none⟩=some (.string x):=fun j x hx=>by
   rw[Nat.zero_add,T5.has.cell (b:=u4.heap.size) (c:=#[.string ⟨(kName k).toArray⟩,.string ⟨(Lib.itoa at_).toArray⟩,.string ⟨(Lib.itoa sl).toArray⟩,.string ⟨(Lib.decDigits who).toArray⟩,.string ⟨(Lib.itoa why).toArray⟩]) (e:=9) (f:=(0,0)) (by simp) j];have:(#[.string ⟨(kName k).toArray⟩,.string ⟨(Lib.itoa at_).toArray⟩,.string ⟨(Lib.itoa sl).toArray⟩,.string ⟨(Lib.decDigits who).toArray⟩,.string ⟨(Lib.itoa why).toArray⟩]:Array Value)[j]?= (List.map Value.string ([⟨(kName k).toArray⟩,⟨(Lib.itoa at_).toArray⟩,⟨(Lib.itoa sl).toArray⟩,⟨(Lib.decDigits who).toArray⟩,⟨(Lib.itoa why).toArray⟩]:List ByteArray))[j]? :=(by simp);rw[this,List.getElem?_map,hx]
   rfl
  have HJ:=uh (sjoin u4.heap.size 0 5 [⟨(kName k).toArray⟩,⟨(Lib.itoa at_).toArray⟩,⟨(Lib.itoa sl).toArray⟩,⟨(Lib.decDigits who).toArray⟩,⟨(Lib.itoa why).toArray⟩] ⟨#[32]⟩ (u4.alloc (.cells #[.string ⟨(kName k).toArray⟩,.string ⟨(Lib.itoa at_).toArray⟩,.string ⟨(Lib.itoa sl).toArray⟩,.string ⟨(Lib.decDigits who).toArray⟩,.string ⟨(Lib.itoa why).toArray⟩] 9)) hc5 (by simp[World.size_alloc]) (by simp) (by simp) (by simp) (Nat.le_trans (show(brLine k at_ sl who why).length <= 1000 from Hlen.out) (by omega)));have hS5:=hS4.trans (T5.below.mono hS4.size);clear hc5 T5 hS4;generalize u4.alloc (.cells #[.string ⟨(kName k).toArray⟩,.string ⟨(Lib.itoa at_).toArray⟩,.string ⟨(Lib.itoa sl).toArray⟩,.string ⟨(Lib.decDigits who).toArray⟩,.string ⟨(Lib.itoa why).toArray⟩] 9)=V5 at*;generalize u4.heap.size=b5 at*;refine hK.out _ _ hS5 fun _=>?_;clear hK K;simp only[st0,st1,st2];refine rdyA 14 (fun K hK=>?_)
  go_simp
  refine HJ.out.mono ?_;rintro e u6 ⟨rfl,hB⟩;have hS6:=hS5.trans (hB.mono hS5.size);have HS6:=uh hS6;clear hB hS5 HJ;refine hK.out _ _ hS6 fun _=>?_;clear hK K;simp only[st0,st1,st2];generalize hJ:Lib.join _ _=js;have hjs:js=brLine k at_ sl who why:=hJ.symm;have HJS:=uh hjs;clear hJ hjs;refine tkA 15 2 hS6 ?_;refine wpAnyH_done (by kernel_rfl) ?_ _;refine NoPanic.normal ?_;clear hS6
  go_wp2_with fail
  go_ret;exact⟨by rw[HJS.out];rfl,HB.out.trans (HS6.out.mono HB.out.size)⟩
end
end Go.Proofs.YtbecgkejdacidaaGreatDoor
