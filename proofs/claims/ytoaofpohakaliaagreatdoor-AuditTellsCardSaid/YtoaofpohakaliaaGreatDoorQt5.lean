/-
  A part of a proof: texts packed by a program of mine.
  Conditions: those that each theorem states.
-/
import Derived.RangeFuncNested
import Derived.RangeFuncBound
import Derived.RangeFuncCalls
import Derived.RangeFuncLeaves
import Derived.RangeFuncBox
import Derived.Shelf.Abstract
import Derived.Shelf.RegionOpen
import Derived.WalkKit
import Derived.OwnWalkIn
import Derived.TacticsInMore
import Derived.LoopNIn
import Derived.LoopIn
import Derived.Maps.AppendAt
import Derived.Laws.EntriesVeiled
import Derived.Shelf.Strings.OnBuilder
import Derived.Shelf.Strconv.Itoa3
import Derived.Deep.QuietTactic
import Derived.BigQuiet
import Derived.WalkSpells
import Derived.Deep.RegionLaw
import Derived.Deep.RegionHeld3
import Derived.Deep.DrawnRows
import Derived.MakeChecks
import Derived.Test.YtoaofpohakaliaaGreatDoorQt4
set_option maxRecDepth 100000
set_option maxHeartbeats 12800000
open Go.Proofs.Tryz
namespace Go.Proofs.YtoaofpohakaliaaGreatDoor.handNil
open Go Go.RowKit
end Go.Proofs.YtoaofpohakaliaaGreatDoor.handNil
namespace Go.Proofs.YtoaofpohakaliaaGreatDoor
open Go Go.RowKit Go.Shelf
attribute [local go_sem] Oper.semAt_some
def Gd (S:List HSlot)(k:Nat):List Nat:=(List.range k).filter fun i=>(S[i]?.map fun s=>s.addr != 0).getD false
theorem Ru {S:List HSlot}{k:Nat}{s:HSlot}(h:S[k]?= some s)(r:s.addr≠0):Gd S (k+1)=Gd S k++[k]:=by
 simp[Gd,List.range_succ,List.filter_append,h,r]
theorem Sb {S:List HSlot}{k:Nat}{s:HSlot}(h:S[k]?= some s)(r:s.addr=0):Gd S (k+1)=Gd S k:=by
 simp[Gd,List.range_succ,List.filter_append,h,r]
theorem UG (F:Fence)(n:Nat)(y:F.fn 101)(r:F.round=none)(p:Option Addr)(w:World):
  CallsIn F n prog 101 #[.pointer p] w fun e w'=>e=.returned (.func (.func 158) #[] #[pt w.heap.size]) /\ w'=w.alloc (.cells #[.pointer p] 56):=by
 refine callsIn_of_wp func101 rfl y ?_ r;simp only[ntmps101,List.size_toArray,List.length_cons,List.length_nil,Nat.reduceAdd,Nat.reduceSub,Array.replicate_succ,Array.replicate_zero,List.push_toArray,List.append_toArray,List.nil_append,List.cons_append]
 gi_wp2
 go_ret;exact⟨rfl,rfl⟩
theorem WC (F:Fence)(n:Nat)(E:F.fn 158)(r:F.round=none)(l Bs:Nat)(J:List Nat -> World -> Prop)(W:World)(G:W.cell? (aD Bs 0)=some (.pointer none))(y:J [] W):
  CallsIn F n prog 158 #[.func (.yield l) #[] #[],pt Bs] W fun e W'=>(∃v,e=.returned v) /\ J [] W':=by
 refine callsIn_of_wp func158 rfl E ?_ r;simp only[ntmps158,List.size_toArray,List.length_cons,List.length_nil,Nat.reduceAdd,Nat.reduceSub,Array.replicate_succ,Array.replicate_zero,List.push_toArray,List.append_toArray,List.nil_append,List.cons_append]
 gi_wp2
 refine bodyPost_ret (results_none rfl _ _ _) rfl ?_;exact⟨⟨_,rfl⟩,y⟩
theorem Sq (S:List HSlot)(k:Nat):(Gd S k).length <= k:=by
 unfold Gd;exact Nat.le_trans (List.length_filter_le _ _) (by simp)
theorem HCells.below {W W':World}{b g n₀:Nat}{S:List HSlot}(h:HCells W b g S)(G:b<n₀)(y:g<n₀)(r:Below n₀ W W'):HCells W' b g S:=
 ⟨(r.cell (p:=(aD b 0)) G).trans h.c0,fun i s E=>⟨(r.cell (p:=(aD g (i*2))) y).trans (h.at_ i s E).1,(r.cell (p:=(aD g (i*2+1))) y).trans (h.at_ i s E).2⟩,
  fun i=>by have:=h.free i;unfold World.frozen? at this ⊢;rw[r.block g y];exact this,h.ne⟩
theorem Y9 (F:Fence)(n:Nat)(hf:F.fn 158)(a4:F.round=none)(hn:1 <= n)(l Bs n₀ b g:Nat)(S:List HSlot)(a5:S.length <= 4096)(hb:b<n₀)(hg:g<n₀)(J Jx:List Nat -> World -> Prop)
  (W:World)(a9:n₀ <= W.heap.size)(hJ:AbidesFrom W.heap.size J)
  (hY:∀pre (x:Nat) W,x<S.length -> J pre W -> pre.length<S.length -> YieldAt F (n-1) prog l #[iV (x:Nat)] W fun e W'=>
    (e=.returned (.bool true) /\ J (pre++[x]) W' /\ Below n₀ W W')∨(e=.returned (.bool false) /\ Jx (pre++[x]) W'))
  (a7:W.cell? (aD Bs 0)=some (pt b))(hc:HCells W b g S)(h0:J [] W):
  CallsIn F n prog 158 #[.func (.yield l) #[] #[],pt Bs] W fun e W'=>(∃v,e=.returned v) /\
   ((∃ys,ys=Gd S S.length /\ J ys W')∨(∃pre,(∃k,k <= S.length /\ pre=Gd S k) /\ Jx pre W')):=by
 have c0:=hc.c0;refine callsIn_of_wp func158 rfl hf ?_ a4;simp only[ntmps158,List.size_toArray,List.length_cons,List.length_nil,Nat.reduceAdd,Nat.reduceSub,Array.replicate_succ,Array.replicate_zero,List.push_toArray,List.append_toArray,List.nil_append,List.cons_append]
 gi_wp2
 gi_loopw [12] (fun i wr=>∃k:Nat,k <= S.length /\ i=iV k /\ J (Gd S k) wr /\ Below n₀ W wr)
  (fun i _=>S.length-(intOf i).toNat)
 case atStart=>exact⟨0,Nat.zero_le _,rfl,h0,Below.refl _ _⟩
 case round=>
  obtain⟨k,hk,rfl,V,N⟩:=hrel
  by_cases M:k<S.length
  · have a6:(k:Int)<(S.length:Int):=O
    obtain⟨s,hs⟩:∃s,S[k]?= some s:=⟨S[k]'M,List.getElem?_eq_getElem _⟩;obtain⟨a0,a1⟩:=(hc.below hb hg N).at_ k s hs;have aa:=N.size;have G:J (Gd S k) (wr.alloc (.cells #[uV s.given,uV s.addr] 184)):=hJ _ _ _ none V (World.grownBy_alloc wr _ none) (fun r e=>by cases e);have E:Below n₀ W (wr.alloc (.cells #[uV s.given,uV s.addr] 184)):=N.alloc O _;have Hs:=uh hs;clear hs
    by_cases U:s.addr=0
    · have y:=Sb Hs.out U
      rw[U]at a1 G E
      gi_wp2
      refine⟨fun _ h=>(by cases h),?_⟩
      gi_wp2
      go_roundw
      case rel=>exact⟨k+1,by omega,by simp,by rw[y];exact G,E⟩
      case measure=>simp[intOf];omega
    · have y:=Ru Hs.out U
      have a8:(s.addr != 0)=true:=(by simpa using U);obtain⟨fn,tmps,assign,body,hy,hR⟩:=hY _ k _ M G (Nat.lt_of_le_of_lt (Sq S k) M)
      gi_wp2
      refine hR.mono ?_;rintro e W3 (⟨rfl,a2,a3⟩|⟨rfl,Z⟩)
      · gi_wp2
        go_roundw
        case rel=>exact⟨k+1,by omega,by simp,by rw[y];exact a2,E.trans a3⟩
        case measure=>simp[intOf];omega
      · gi_wp2
        refine bodyPost_ret (results_none rfl _ _ _) rfl ?_;exact⟨⟨_,rfl⟩,.inr ⟨_,⟨k+1,by omega,y.symm⟩,Z⟩⟩
  · obtain rfl:k=S.length:=O
    gi_wp2
    go_end0;exact⟨⟨_,rfl⟩,.inl ⟨_,rfl,V⟩⟩
end Go.Proofs.YtoaofpohakaliaaGreatDoor
namespace Go.Proofs.YtoaofpohakaliaaGreatDoor
open Go Go.RowKit Go.Shelf
attribute [local go_sem] Oper.semAt_some
def K1 (n₀:Nat)(W:World)(p:Option Addr)(S:List HSlot):Prop:=(p=none /\ S=[])∨∃b g,p=some (aD b 0) /\ b<n₀ /\ g<n₀ /\ HCells W b g S
theorem K1.below {n₀:Nat}{A B:World}{p:Option Addr}{S:List HSlot}(r:Below n₀ A B):K1 n₀ A p S -> K1 n₀ B p S
 | .inl h=>.inl h
 | .inr ⟨b,g,h1,h2,h3,h4⟩=>.inr ⟨b,g,h1,h2,h3,h4.below h2 h3 r⟩
theorem Rt (F:Fence)(n:Nat)(hf:F.fn 158)(N:F.round=none)(hn:1 <= n)(Bs n₀:Nat)(p:Option Addr)(S:List HSlot)(V:S.length <= 4096)(w:World)(a0:Bs<w.heap.size)(M:n₀ <= w.heap.size)
  (hc:w.cell? (aD Bs 0)=some (.pointer p))(hP:K1 n₀ w p S):
  SeqStopsK F n prog 158 #[pt Bs] (fun x:Fin S.length=>#[iV (x.val:Int)]) (Below n₀) (fun ys=>ys.map Fin.val=Gd S S.length) (fun _=>True) S.length w:=fun l J Jx W U hJ a2 hY h0=>by
 have G:=(U.cell (p:=(aD Bs 0)) a0).trans hc;rcases hP.below (U.mono M)with⟨rfl,rfl⟩|⟨b,g,rfl,hb,hg,a1⟩
 ·exact(WC F n hf N l Bs (fun _ W=>J [] W) W G h0).mono fun e W' ⟨E,r⟩=>⟨E,.inl ⟨[],rfl,r⟩⟩
 · refine(Y9 F n hf N hn l Bs n₀ b g S V hb hg (fun q W=>∃y:List (Fin S.length),y.map Fin.val=q /\ J y W) (fun _ W=>∃y,Jx y W) W (Nat.le_trans M U.size) (fun q A B row ⟨y,Z,h⟩ h1 h2=>⟨y,Z,hJ y A B row h h1 h2⟩) ?_ G a1 ⟨[],rfl,h0⟩).mono ?_
   · rintro pre x W1 hx ⟨y,rfl,r⟩ hl
     exact(hY y ⟨x,hx⟩ W1 r (by simpa using hl)).mono fun e W' h=>h.imp (fun⟨h1,h2,h3⟩=>⟨h1,⟨y++[⟨x,hx⟩],by simp,h2⟩,h3⟩) (fun⟨h1,h2⟩=>⟨h1,_,h2⟩)
   · rintro e W' ⟨E,⟨ys,rfl,y,Z,r⟩|⟨pre,-,y,r⟩⟩
     ·exact⟨E,.inl ⟨y,Z,r⟩⟩
     ·exact⟨E,.inr ⟨y,trivial,r⟩⟩
end Go.Proofs.YtoaofpohakaliaaGreatDoor
namespace Go.Proofs.YtoaofpohakaliaaGreatDoor
section
open Go Go.RowKit Go.Shelf
attribute [local go_sem] Oper.semAt_some
theorem CP:(prog.info? 36).map (fun i=>(i.zero,i.size,i.bytes))=some (some (uV 0),1,8):=by kernel_rfl
theorem Lx {w:World}{a:Addr}{v:Value}{o:Obj}(h:w.cell? a=some v):(w.alloc o).cell? a=some v:=(World.cell?_alloc_lt _ _ _ (c_ _ _ h)).trans h
def KR (S:List HSlot)(is:List Nat):List Int:=is.map fun i=>(S[i]?.map HSlot.addr).getD 0
theorem CX (F:Fence)(n:Nat)(hF:F=Fence.wide)(a8:F.round=none)(hn:3 <= n)(p:Option Addr)(S:List HSlot)(aC:S.length <= 4096)(w:World)(hP:K1 w.heap.size w p S):
  CallsIn F n prog 42 #[.pointer p] w fun e W'=>∃v,e=.returned v /\ W'.ownsRow w.heap.size 36 1 v (Gd S S.length).length ((KR S (Gd S S.length)).map (Value.int .u64)) /\ (v=.slice none 0 0↔Gd S S.length=[]) /\ Below w.heap.size w W':=by
 have h1:1 <= n:=O;have af:∀k,F.fn k:=by subst hF;exact fun _=>trivial
 have HF:=uh hF;clear hF;have h5:=af 101;have h7:=af 158;obtain⟨i0,hi,az,aA,aB⟩:=info_parts CP;refine callsIn_of_wp_marks func42 rfl (af _) ?_ a8;simp only[ntmps42,Z_,B_,Qj,Nat.reduceAdd,Nat.reduceSub,S_,R_,Qc,X_,L_,Qd]
 gi_wp2_with (gi_at_call 101;refine(UG F (n-1) h5 a8 _ _).mono ?_;rintro e w' ⟨rfl,rfl⟩)
 have bH:=((Boxed.new w 56 (.pointer p)).alloc (.cells #[.slice none 0 0] 24)).alloc (.cells #[.pointer p] 56);have bO:=(Boxed.new (w.alloc (.cells #[.pointer p] 56)) 24 (.slice none 0 0)).alloc (.cells #[.pointer p] 56);have bN:=Boxed.new ((w.alloc (.cells #[.pointer p] 56)).alloc (.cells #[.slice none 0 0] 24)) 56 (.pointer p);simp only[Y_]at bO bN;have aa:Below w.heap.size w (((w.alloc (.cells #[.pointer p] 56)).alloc (.cells #[.slice none 0 0] 24)).alloc (.cells #[.pointer p] 56)):=(((T_ _ w).alloc (g_ _) _).alloc (by simp) _).alloc (by simp;omega) _;have aM:(((w.alloc (.cells #[.pointer p] 56)).alloc (.cells #[.slice none 0 0] 24)).alloc (.cells #[.pointer p] 56)).heap.size=w.heap.size+3:=by simp
 obtain⟨W0,am⟩:∃W0,((w.alloc (.cells #[.pointer p] 56)).alloc (.cells #[.slice none 0 0] 24)).alloc (.cells #[.pointer p] 56)=W0:=⟨_,rfl⟩;rw[am]at bH bO bN aa aM ⊢;clear am
 refine wpIn_rangeFunc_ownG a8 h1 (gf:=158) (lb:=#[pt (w.heap.size+1+1)]) rfl h7 (enters_of func158 kr rfl)
  (Rt F (n-1) h7 a8 O (w.heap.size+1+1) w.heap.size p S aC W0 O O bN.cell (hP.below aa)) belowK_t (belowK_b O) (T_ _ _) (fun _=>rfl)
  (fun pre W=>(Boxed W w.heap.size 56 (.pointer p) /\ ∃v,Boxed W (w.heap.size+1) 24 v /\ W.ownsRow w.heap.size 36 1 v pre.length ((KR S (pre.map Fin.val)).map (Value.int .u64)) /\ (v=.slice none 0 0↔pre=[])) /\ Below w.heap.size w W)
  (fun _ _ _=>False)
  (OwnFrom.and (OwnFrom.and (Own.from (boxed_own _ _ _) _) (Own.from (holdsRow_own w.heap.size (w.heap.size+1) 24 36 1 (fun pre=>pre.length) (fun pre=>(KR S (pre.map Fin.val)).map (Value.int .u64)) (fun pre v=>v=.slice none 0 0↔pre=[])) _)) (ownFrom_below (g_ _) O))
  (fun _ _ _ _ _ hs _ _=>hs)
  ⟨⟨bH,_,bO,World.ownsRow_nil _ _ _ _,by simp⟩,aa⟩
  (fun x=>{ tmps:=#[.pointer p,pt w.heap.size,pt (w.heap.size+1),iV (x.val:Int),.pointer p,.func (.func 158) #[] #[pt (w.heap.size+1+1)],iV (x.val:Int),undef,undef,undef,undef,undef,undef,undef,undef,undef,undef,undef,undef],defers:=[] }) ?assign ?body ?done ?stop
 case assign=>
  intro l x W K y
  gi_wp2
  simpa using y
 case body=>
  rintro l pre x W ⟨⟨bx,v,hv,N,a4⟩,Z⟩ aV;rcases hP.below Z with⟨rfl,rfl⟩|⟨b,g,rfl,hb,hg,au⟩
  ·exact x.elim0
  have hc:=hv.cell;have hx:=bx.cell;have c0:=au.c0;obtain⟨x,a2⟩:=x;obtain⟨s,hs⟩:∃s,S[x]?= some s:=⟨S[x]'a2,a_ _⟩;obtain⟨a0,a1⟩:=au.at_ x s hs;have aT:(x:Int)<(S.length:Int):=O;have Hs:=uh hs;clear hs
  gi_wp2_with fail
  have hF:=HF.out;subst hF;refine Jq (S:=fun w'=>w'.cell? (aD w.heap.size 0)=some (pt b) /\ w'.cell? (aD b 0)=some (.slice (some (aD g 0)) S.length S.length) /\ w'.cell? (aD g (x*2+1))=some (uV s.addr)) 12 [false,false,false,false,false,false,false,false,false,false,false,false] rfl rfl kr (by rfl) (by rintro⟨a,w,h⟩;exact h) ?_;have M:W.drew.cell? (aD w.heap.size 0)=some (pt b) /\ W.drew.cell? (aD b 0)=some (.slice (some (aD g 0)) S.length S.length) /\ W.drew.cell? (aD g (x*2+1))=some (uV s.addr):=⟨hx,c0,a1⟩;refine NN 1 8 rfl rfl rfl kr kr kr (fun _ _ _ _ h=>h) M (by(intro w V;go_simp;try rfl)) ?_;simp only[G7,G6];refine NN 2 9 rfl rfl rfl kr kr kr (fun _ _ _ _ h=>h) M (by(intro w V;go_simp;try rfl)) ?_;simp only[G7,G6];refine NN 3 10 rfl rfl rfl kr kr kr (fun _ _ _ _ h=>h) M (by(intro w V;go_simp;try rfl)) ?_;simp only[G7,G6];refine NN 4 11 rfl rfl rfl kr kr kr (fun _ _ _ _ h=>h) M (by(intro w V;go_simp;try rfl)) ?_;simp only[G7,G6];refine NN 5 12 rfl rfl rfl kr kr kr (fun _ _ _ _ h=>h) M (by(intro w V;go_simp;try rfl)) ?_;simp only[G7,G6];refine NN 6 13 rfl rfl rfl kr kr kr (fun _ _ _ _ h=>h) M (by(intro w V;go_simp;try rfl)) ?_;simp only[G7,G6];refine NN 7 14 rfl rfl rfl kr kr kr (fun _ _ _ _ h=>h) M (by(intro w V;go_simp;try rfl)) ?_;simp only[G7,G6];refine NN 8 15 rfl rfl rfl kr kr kr (fun _ _ _ _ h=>h) M (by(intro w V;go_simp;try rfl)) ?_
  simp only[G7,G6];have ax:pre.length+1 <= maxLen:=by unfold maxLen;omega
  have a9:(W.drew.alloc (.cells #[uV s.addr] 36)).ownsRow w.heap.size 36 1 v pre.length ((KR S (pre.map Fin.val)).map (Value.int .u64)):=World.ownsRow.alloc (w:=W.drew) N _
  have ab:(W.drew.alloc (.cells #[uV s.addr] 36)).cell? (aD w.heap.size 0)=some (pt b) /\ (W.drew.alloc (.cells #[uV s.addr] 36)).cell? (aD b 0)=some (.slice (some (aD g 0)) S.length S.length) /\ (W.drew.alloc (.cells #[uV s.addr] 36)).cell? (aD g (x*2+1))=some (uV s.addr):=by
   obtain⟨q1,q2,q3⟩:=M;exact⟨Lx q1,Lx q2,Lx q3⟩
  have a7:∀J w1,w1.ownsRow w.heap.size 36 1 J (pre.length+1) ((KR S (pre.map Fin.val)).map (Value.int .u64)++[uV s.addr]) -> (W.drew.alloc (.cells #[uV s.addr] 36)).grownBy w1 v.ownBlock ->
    ∃g' U,J=.slice (some (aD g' 0)) (pre.length+1) U /\ w1.cell? (aD (w.heap.size+1) 0)=some v /\ w1.frozen? (aD (w.heap.size+1) 0)=false /\
     (w1.cell? (aD w.heap.size 0)=some (pt b) /\ w1.cell? (aD b 0)=some (.slice (some (aD g 0)) S.length S.length) /\ w1.cell? (aD g (x*2+1))=some (uV s.addr)) /\
     ((w1.setCell (aD (w.heap.size+1) 0) J).cell? (aD w.heap.size 0)=some (pt b) /\ (w1.setCell (aD (w.heap.size+1) 0) J).cell? (aD b 0)=some (.slice (some (aD g 0)) S.length S.length) /\ (w1.setCell (aD (w.heap.size+1) 0) J).cell? (aD g (x*2+1))=some (uV s.addr)) /\
     KeepsFrom W0.heap.size W (w1.setCell (aD (w.heap.size+1) 0) J) /\ Below w.heap.size W (w1.setCell (aD (w.heap.size+1) 0) J) /\
     ((Boxed (w1.setCell (aD (w.heap.size+1) 0) J) w.heap.size 56 (pt b) /\ ∃u,Boxed (w1.setCell (aD (w.heap.size+1) 0) J) (w.heap.size+1) 24 u /\ (w1.setCell (aD (w.heap.size+1) 0) J).ownsRow w.heap.size 36 1 u (pre++[(⟨x,a2⟩:Fin S.length)]).length ((KR S ((pre++[(⟨x,a2⟩:Fin S.length)]).map Fin.val)).map (Value.int .u64)) /\ (u=.slice none 0 0↔pre++[(⟨x,a2⟩:Fin S.length)]=[])) /\ Below w.heap.size w (w1.setCell (aD (w.heap.size+1) 0) J)):=by
   intro J w1 G E;obtain⟨g',U,rfl⟩:=ownsRow_succ G;have aP:Boxed W.drew (w.heap.size+1) 24 v:=hv;have aq:Boxed W.drew w.heap.size 56 (pt b):=bx;have ag:W.drew.ownsRow w.heap.size 36 1 v pre.length ((KR S (pre.map Fin.val)).map (Value.int .u64)):=N;have ak:Below w.heap.size W W.drew:=(T_ _ W).drew;obtain⟨ay,aN,aL,aK,a6⟩:=aP.appended (by decide) ag Z.size (Zh _) G E;have an:Boxed w1 w.heap.size 56 (pt b):=(aq.alloc _).kept E (aq.not_row (by decide) ag)
   have aj:Below w.heap.size W.drew w1:=by
    refine((T_ _ W.drew).alloc Z.size _).grown E (by simp;have:=Z.size;omega) fun j ej=>?_;rcases ag.2 with⟨rfl,_⟩|⟨q,cap,aE,rfl,hb,_,_⟩
    ·simp[Value.ownBlock]at ej
    · obtain rfl:q=j:=by simpa [Value.ownBlock]using ej
      exact hb
   have ap:=an.other (B':=w.heap.size+1) O (.slice (some (aD g' 0)) (pre.length+1) U);have aQ:KR S ((pre++[(⟨x,a2⟩:Fin S.length)]).map Fin.val)=KR S (pre.map Fin.val)++[s.addr]:=(by simp[KR,Hs.out]);refine⟨g',U,rfl,ay.cell,ay.frozen,⟨an.cell,(aj.cell (p:=(aD b 0)) hb).trans c0,(aj.cell (p:=(aD g (x*2+1))) hg).trans a1⟩,⟨ap.cell,(a6.cell (p:=(aD b 0)) hb).trans c0,(a6.cell (p:=(aD g (x*2+1))) hg).trans a1⟩,((KeepsOthers.drew W).trans aK).from _,ak.trans a6,⟨ap,_,aN,?_,?_⟩,Z.trans (ak.trans a6)⟩
   · rw[aQ,e_,Za]
     exact aL
   ·simp
  refine Zf (rs:=[0,9]) kr (by simp) (H_ rfl (fun K y=>?_) (H_ rfl (fun K y=>?_) Zd))
  · go_simp
    refine y.out _ _ M fun _=>?_;simp only[Zq,Xf];refine G5 9 (fun K y=>?_)
    go_simp
    refine y.out _ _ ab fun _=>?_;simp only[Gb,G7,G6];refine G5 10 (fun K y=>?_);refine Km _ 17 rfl rfl _ _ 24 rfl w.heap.size 36 i0 (uV 0) 1 8 underlying24 hi az aA aB rfl (by decide) _ _ _ rfl a9 (aD W.heap.size 0) 1 1 [uV s.addr] rfl rfl (cell_one_new _ _ _) (by simp[Value.oneCell']) ax O (by have:=Z.size;simp;omega) ?_;intro J w1 G E _;obtain⟨g',U,rfl,aF,aJ,ac,ae,a3⟩:=a7 J w1 G E;refine y.out _ _ ac fun _=>?_;simp only[Gb,G7,G6];refine G5 11 (fun K y=>?_)
    go_simp
    refine y.out _ _ ae fun _=>?_;exact P_ kr a3 _
  · go_simp
    refine y.out _ _ ab fun _=>?_;simp only[Gb,G7,G6];refine G5 0 (fun K y=>?_);have aU:(W.alloc (.cells #[uV s.addr] 36)).drew.cell? (aD (w.heap.size+1) 0)=some v:=Lx (w:=W.drew) hc
    go_simp
    refine y.out _ _ ab fun _=>?_;simp only[Zq,Xf];refine G5 10 (fun K y=>?_);refine Km _ 17 rfl rfl _ _ 24 rfl w.heap.size 36 i0 (uV 0) 1 8 underlying24 hi az aA aB rfl (by decide) _ _ _ rfl a9 (aD W.heap.size 0) 1 1 [uV s.addr] rfl rfl (cell_one_new _ _ _) (by simp[Value.oneCell']) ax O (by have:=Z.size;simp;omega) ?_;intro J w1 G E _;obtain⟨g',U,rfl,aF,aJ,ac,ae,a3⟩:=a7 J w1 G E;refine y.out _ _ ac fun _=>?_;simp only[Gb,G7,G6];refine G5 11 (fun K y=>?_)
    go_simp
    refine y.out _ _ ae fun _=>?_;exact P_ kr a3 _
 case done=>
  rintro D ys W hD ah ⟨⟨bx,v,hv,N,a4⟩,Z⟩ y;have aR:ys.length=(Gd S S.length).length:=by rw[←ah,n_]
  have aS:ys=[]↔Gd S S.length=[]:=by rw[←ah,List.map_eq_nil_iff]
  rw[aR,ah]at N;rw[aS]at a4
  obtain⟨av,nv,cv,rfl⟩:∃av nv cv,v=.slice av nv cv:=by
   rcases N.2 with⟨h,-⟩|⟨g,cap,aE,h,-⟩
   ·exact⟨_,_,_,h⟩
   ·exact⟨_,_,_,h⟩
  have hc:=hv.cell;have hf:=hv.frozen
  gi_wp2
  have a5:=(KeepsOthers.setCell W (aD (w.heap.size+1) 0) (.slice av nv cv)).same D _ y rfl;have aG:=(hv.set (.slice av nv cv)).cell;refine⟨by simp,.inl ⟨_,_,rfl,run_takeDeferred a5,?_⟩⟩;have aH:=cell_kept aG (grownBy_putObj' _ D (.deferred none)) (fun r e=>by cases e;exact⟨_,a5,rfl⟩);refine⟨.slice av nv cv,?_,_,rfl,?_,a4,?_⟩
  ·simp[results,results42,go_sem,aH]
  ·exact ownsRow_putObj (N.kept (grownBy_setCell' W (w.heap.size+1) (.slice av nv cv)) (.inr (hv.not_row (by decide) N).symm)) _ a5 rfl
  ·exact(Z.setCell (p:=(aD (w.heap.size+1) 0)) (Zh _) _).trans (belowK_b (w:=w) (g_ _) _ D _ _ O a5 rfl rfl)
 case stop=>
  rintro D c pre W _ _ h _;exact h.elim
theorem AN (p:Option Addr)(S:List HSlot)(r:S.length <= 4096)(w:World)(y:K1 w.heap.size w p S):
  Calls prog 42 #[.pointer p] w fun e W'=>∃v,e=.returned v /\ W'.ownsRow w.heap.size 36 1 v (Gd S S.length).length ((KR S (Gd S S.length)).map (Value.int .u64)) /\ (v=.slice none 0 0↔Gd S S.length=[]) /\ Below w.heap.size w W':=
 (N_ (n:=3)).1 (CX Fence.wide 3 rfl rfl (g_ _) p S r w y)
end
section
open Go Go.RowKit Go.Shelf
attribute [local go_sem] Oper.semAt_some
theorem WF:(prog.info? 89).map (fun i=>(i.zero,i.size,i.bytes))=some (some (uV 0),1,8):=by kernel_rfl
theorem HCells.drew {w:World}{b g:Nat}{S:List HSlot}(h:HCells w b g S):HCells w.drew b g S:=⟨h.c0,h.at_,h.free,h.ne⟩
theorem Vx (w:World){b g:Nat}{S:List HSlot}(W:HCells w b g S)(U:S.length <= 4096)(i:Nat)(s:HSlot)(r:S[i]?= some s)(y:s.given<4294967295):
  Calls prog 88 #[pt b,iV i] w fun e w'=>e=.returned (uV (wh i s.given)) /\ w=w':=by
 have G:i<S.length:=(m_.1 r).1;have E:(i:Int)<(S.length:Int):=O;obtain⟨c0,at_,-,-⟩:=W;obtain⟨M,N⟩:=at_ i s r;have J:=Cu s.given i y O;clear at_ r
 go_enter func88,ntmps88
 go_wp2
 go_ret;exact⟨rfl,rfl⟩
def KQ (S:List HSlot)(is:List Nat):List Int:=is.map fun i=>wh i ((S[i]?.map HSlot.given).getD 0)
theorem CY (F:Fence)(n:Nat)(hF:F=Fence.wide)(aa:F.round=none)(hn:3 <= n)(p:Option Addr)(S:List HSlot)(af:S.length <= 4096)(aL:∀s∈S,s.given<4294967295)(w:World)(hP:K1 w.heap.size w p S):
  CallsIn F n prog 59 #[.pointer p] w fun e W'=>∃v,e=.returned v /\ W'.ownsRow w.heap.size 89 1 v (Gd S S.length).length ((KQ S (Gd S S.length)).map (Value.int .u64)) /\ (v=.slice none 0 0↔Gd S S.length=[]) /\ Below w.heap.size w W':=by
 have h1:1 <= n:=O;have ac:∀k,F.fn k:=by subst hF;exact fun _=>trivial
 have HF:=uh hF;clear hF;have h5:=ac 101;have h7:=ac 158;obtain⟨i0,hi,aj,ak,am⟩:=info_parts WF;refine callsIn_of_wp_marks func59 rfl (ac _) ?_ aa;simp only[ntmps59,Z_,B_,Qj,Nat.reduceAdd,Nat.reduceSub,S_,R_,Qc,X_,L_,Qd]
 gi_wp2_with (gi_at_call 101;refine(UG F (n-1) h5 aa _ _).mono ?_;rintro e w' ⟨rfl,rfl⟩)
 have bH:=((Boxed.new w 56 (.pointer p)).alloc (.cells #[.slice none 0 0] 140)).alloc (.cells #[.pointer p] 56);have bO:=(Boxed.new (w.alloc (.cells #[.pointer p] 56)) 140 (.slice none 0 0)).alloc (.cells #[.pointer p] 56);have bN:=Boxed.new ((w.alloc (.cells #[.pointer p] 56)).alloc (.cells #[.slice none 0 0] 140)) 56 (.pointer p);simp only[Y_]at bO bN;have ab:Below w.heap.size w (((w.alloc (.cells #[.pointer p] 56)).alloc (.cells #[.slice none 0 0] 140)).alloc (.cells #[.pointer p] 56)):=(((T_ _ w).alloc (g_ _) _).alloc (by simp) _).alloc (by simp;omega) _;have aM:(((w.alloc (.cells #[.pointer p] 56)).alloc (.cells #[.slice none 0 0] 140)).alloc (.cells #[.pointer p] 56)).heap.size=w.heap.size+3:=by simp
 obtain⟨W0,ap⟩:∃W0,((w.alloc (.cells #[.pointer p] 56)).alloc (.cells #[.slice none 0 0] 140)).alloc (.cells #[.pointer p] 56)=W0:=⟨_,rfl⟩;rw[ap]at bH bO bN ab aM ⊢;clear ap
 refine wpIn_rangeFunc_ownG aa h1 (gf:=158) (lb:=#[pt (w.heap.size+1+1)]) rfl h7 (enters_of func158 kr rfl)
  (Rt F (n-1) h7 aa O (w.heap.size+1+1) w.heap.size p S af W0 O O bN.cell (hP.below ab)) belowK_t (belowK_b O) (T_ _ _) (fun _=>rfl)
  (fun pre W=>(Boxed W w.heap.size 56 (.pointer p) /\ ∃v,Boxed W (w.heap.size+1) 140 v /\ W.ownsRow w.heap.size 89 1 v pre.length ((KQ S (pre.map Fin.val)).map (Value.int .u64)) /\ (v=.slice none 0 0↔pre=[])) /\ Below w.heap.size w W)
  (fun _ _ _=>False)
  (OwnFrom.and (OwnFrom.and (Own.from (boxed_own _ _ _) _) (Own.from (holdsRow_own w.heap.size (w.heap.size+1) 140 89 1 (fun pre=>pre.length) (fun pre=>(KQ S (pre.map Fin.val)).map (Value.int .u64)) (fun pre v=>v=.slice none 0 0↔pre=[])) _)) (ownFrom_below (g_ _) O))
  (fun _ _ _ _ _ hs _ _=>hs)
  ⟨⟨bH,_,bO,World.ownsRow_nil _ _ _ _,by simp⟩,ab⟩
  (fun x=>{ tmps:=#[.pointer p,pt w.heap.size,pt (w.heap.size+1),iV (x.val:Int),.pointer p,.func (.func 158) #[] #[pt (w.heap.size+1+1)],iV (x.val:Int),undef,undef,undef,undef,undef,undef,undef],defers:=[] }) ?assign ?body ?done ?stop
 case assign=>
  intro l x W K y
  gi_wp2
  simpa using y
 case body=>
  rintro l pre x W ⟨⟨bx,v,hv,N,a5⟩,Z⟩ aV;rcases hP.below Z with⟨rfl,rfl⟩|⟨b,g,rfl,hb,hg,aA⟩
  ·exact x.elim0
  have hc:=hv.cell;have hx:=bx.cell;have c0:=aA.c0;obtain⟨x,a4⟩:=x;obtain⟨s,hs⟩:∃s,S[x]?= some s:=⟨S[x]'a4,a_ _⟩;have Hs:=uh hs;clear hs
  gi_wp2_with fail
  have hF:=HF.out;subst hF;refine Jq (S:=fun w'=>w'.cell? (aD w.heap.size 0)=some (pt b)) 7 [false,false,false,false,false,false,false] rfl rfl kr (by rfl) (by rintro⟨a,w,h⟩;exact h) ?_;have U:W.drew.cell? (aD w.heap.size 0)=some (pt b):=hx;refine NN 1 8 rfl rfl rfl kr kr kr (fun _ _ _ _ h=>h) U (by(intro w aF;go_simp;try rfl)) ?_;simp only[G7,G6];refine NN 2 9 rfl rfl rfl kr kr kr (fun _ _ _ _ h=>h) U (by(intro w aF;go_simp;try rfl)) ?_;simp only[G7,G6];have ae:pre.length+1 <= maxLen:=by unfold maxLen;omega
  have a1:(W.drew.alloc (.cells #[uV (wh x s.given)] 89)).ownsRow w.heap.size 89 1 v pre.length ((KQ S (pre.map Fin.val)).map (Value.int .u64)):=World.ownsRow.alloc (w:=W.drew) N _;have a8:(W.drew.alloc (.cells #[uV (wh x s.given)] 89)).cell? (aD w.heap.size 0)=some (pt b):=Lx U;have aU:(W.alloc (.cells #[uV (wh x s.given)] 89)).drew.cell? (aD (w.heap.size+1) 0)=some v:=Lx (w:=W.drew) hc;have a9:=Vx W.drew aA.drew af x s Hs.out (aL s (q_ Hs.out));have a6:=uh a9;clear a9
  have a0:∀J w1,w1.ownsRow w.heap.size 89 1 J (pre.length+1) ((KQ S (pre.map Fin.val)).map (Value.int .u64)++[uV (wh x s.given)]) -> (W.drew.alloc (.cells #[uV (wh x s.given)] 89)).grownBy w1 v.ownBlock ->
    ∃g' M,J=.slice (some (aD g' 0)) (pre.length+1) M /\ w1.cell? (aD (w.heap.size+1) 0)=some v /\ w1.frozen? (aD (w.heap.size+1) 0)=false /\
     (w1.cell? (aD w.heap.size 0)=some (pt b)) /\
     ((w1.setCell (aD (w.heap.size+1) 0) J).cell? (aD w.heap.size 0)=some (pt b)) /\
     KeepsFrom W0.heap.size W (w1.setCell (aD (w.heap.size+1) 0) J) /\ Below w.heap.size W (w1.setCell (aD (w.heap.size+1) 0) J) /\
     ((Boxed (w1.setCell (aD (w.heap.size+1) 0) J) w.heap.size 56 (pt b) /\ ∃u,Boxed (w1.setCell (aD (w.heap.size+1) 0) J) (w.heap.size+1) 140 u /\ (w1.setCell (aD (w.heap.size+1) 0) J).ownsRow w.heap.size 89 1 u (pre++[(⟨x,a4⟩:Fin S.length)]).length ((KQ S ((pre++[(⟨x,a4⟩:Fin S.length)]).map Fin.val)).map (Value.int .u64)) /\ (u=.slice none 0 0↔pre++[(⟨x,a4⟩:Fin S.length)]=[])) /\ Below w.heap.size w (w1.setCell (aD (w.heap.size+1) 0) J)):=by
   intro J w1 G E;obtain⟨g',M,rfl⟩:=ownsRow_succ G;have aP:Boxed W.drew (w.heap.size+1) 140 v:=hv;have ay:Boxed W.drew w.heap.size 56 (pt b):=bx;have ag:W.drew.ownsRow w.heap.size 89 1 v pre.length ((KQ S (pre.map Fin.val)).map (Value.int .u64)):=N;have an:Below w.heap.size W W.drew:=(T_ _ W).drew;obtain⟨aC,aN,aK,aJ,au⟩:=aP.appended (by decide) ag Z.size (Zh _) G E;have aq:Boxed w1 w.heap.size 56 (pt b):=(ay.alloc _).kept E (ay.not_row (by decide) ag)
   have aT:Below w.heap.size W.drew w1:=by
    refine((T_ _ W.drew).alloc Z.size _).grown E (by simp;have:=Z.size;omega) fun j ej=>?_;rcases ag.2 with⟨rfl,_⟩|⟨q,cap,aE,rfl,hb,_,_⟩
    ·simp[Value.ownBlock]at ej
    · obtain rfl:q=j:=by simpa [Value.ownBlock]using ej
      exact hb
   have ax:=aq.other (B':=w.heap.size+1) O (.slice (some (aD g' 0)) (pre.length+1) M);have aQ:KQ S ((pre++[(⟨x,a4⟩:Fin S.length)]).map Fin.val)=KQ S (pre.map Fin.val)++[wh x s.given]:=(by simp[KQ,Hs.out]);refine⟨g',M,rfl,aC.cell,aC.frozen,aq.cell,ax.cell,((KeepsOthers.drew W).trans aJ).from _,an.trans au,⟨ax,_,aN,?_,?_⟩,Z.trans (an.trans au)⟩
   · rw[aQ,e_,Za]
     exact aK
   ·simp
  refine Zf (rs:=[0,3]) kr (by simp) (H_ rfl (fun K y=>?_) (H_ rfl (fun K y=>?_) Zd))
  · go_simp
    refine y.out _ _ U fun _=>?_;simp only[Zq,Xf];refine G5 3 (fun K y=>?_)
    go_simp
    refine(a6.out).mono ?_;rintro e w' ⟨rfl,rfl⟩;refine y.out _ _ U fun _=>?_;simp only[Gb,G7,G6];refine G5 4 (fun K y=>?_)
    go_simp
    refine y.out _ _ a8 fun _=>?_;simp only[Gb,G7,G6];refine G5 5 (fun K y=>?_);refine Km _ 12 rfl rfl _ _ 140 rfl w.heap.size 89 i0 (uV 0) 1 8 underlying140 hi aj ak am rfl (by decide) _ _ _ rfl a1 (aD W.heap.size 0) 1 1 [uV (wh x s.given)] rfl rfl (cell_one_new _ _ _) (by simp[Value.oneCell']) ae O (by have:=Z.size;simp;omega) ?_;intro J w1 G E _;obtain⟨g',M,rfl,az,aB,a2,a3,V⟩:=a0 J w1 G E;refine y.out _ _ a2 fun _=>?_;simp only[Gb,G7,G6];refine G5 6 (fun K y=>?_)
    go_simp
    refine y.out _ _ a3 fun _=>?_;exact P_ kr V _
  · go_simp
    refine(a6.out).mono ?_;rintro e w' ⟨rfl,rfl⟩;refine y.out _ _ U fun _=>?_;simp only[Gb,G7,G6];refine Zf (rs:=[0,4]) kr (by simp) (H_ rfl (fun K y=>?_) (H_ rfl (fun K y=>?_) Zd))
    · go_simp
      refine y.out _ _ U fun _=>?_;simp only[Zq,Xf];refine G5 4 (fun K y=>?_)
      go_simp
      refine y.out _ _ a8 fun _=>?_;simp only[Gb,G7,G6];refine G5 5 (fun K y=>?_);refine Km _ 12 rfl rfl _ _ 140 rfl w.heap.size 89 i0 (uV 0) 1 8 underlying140 hi aj ak am rfl (by decide) _ _ _ rfl a1 (aD W.heap.size 0) 1 1 [uV (wh x s.given)] rfl rfl (cell_one_new _ _ _) (by simp[Value.oneCell']) ae O (by have:=Z.size;simp;omega) ?_;intro J w1 G E _;obtain⟨g',M,rfl,az,aB,a2,a3,V⟩:=a0 J w1 G E;refine y.out _ _ a2 fun _=>?_;simp only[Gb,G7,G6];refine G5 6 (fun K y=>?_)
      go_simp
      refine y.out _ _ a3 fun _=>?_;exact P_ kr V _
    · go_simp
      refine y.out _ _ a8 fun _=>?_;simp only[Gb,G7,G6];refine G5 0 (fun K y=>?_)
      go_simp
      refine y.out _ _ a8 fun _=>?_;simp only[Zq,Xf];refine G5 5 (fun K y=>?_);refine Km _ 12 rfl rfl _ _ 140 rfl w.heap.size 89 i0 (uV 0) 1 8 underlying140 hi aj ak am rfl (by decide) _ _ _ rfl a1 (aD W.heap.size 0) 1 1 [uV (wh x s.given)] rfl rfl (cell_one_new _ _ _) (by simp[Value.oneCell']) ae O (by have:=Z.size;simp;omega) ?_;intro J w1 G E _;obtain⟨g',M,rfl,az,aB,a2,a3,V⟩:=a0 J w1 G E;refine y.out _ _ a2 fun _=>?_;simp only[Gb,G7,G6];refine G5 6 (fun K y=>?_)
      go_simp
      refine y.out _ _ a3 fun _=>?_;exact P_ kr V _
 case done=>
  rintro D ys W hD ah ⟨⟨bx,v,hv,N,a5⟩,Z⟩ y;have aR:ys.length=(Gd S S.length).length:=by rw[←ah,n_]
  have aS:ys=[]↔Gd S S.length=[]:=by rw[←ah,List.map_eq_nil_iff]
  rw[aR,ah]at N;rw[aS]at a5
  obtain⟨av,nv,cv,rfl⟩:∃av nv cv,v=.slice av nv cv:=by
   rcases N.2 with⟨h,-⟩|⟨g,cap,aE,h,-⟩
   ·exact⟨_,_,_,h⟩
   ·exact⟨_,_,_,h⟩
  have hc:=hv.cell;have hf:=hv.frozen
  gi_wp2
  have a7:=(KeepsOthers.setCell W (aD (w.heap.size+1) 0) (.slice av nv cv)).same D _ y rfl;have aG:=(hv.set (.slice av nv cv)).cell;refine⟨by simp,.inl ⟨_,_,rfl,run_takeDeferred a7,?_⟩⟩;have aH:=cell_kept aG (grownBy_putObj' _ D (.deferred none)) (fun r e=>by cases e;exact⟨_,a7,rfl⟩);refine⟨.slice av nv cv,?_,_,rfl,?_,a5,?_⟩
  ·simp[results,results59,go_sem,aH]
  ·exact ownsRow_putObj (N.kept (grownBy_setCell' W (w.heap.size+1) (.slice av nv cv)) (.inr (hv.not_row (by decide) N).symm)) _ a7 rfl
  ·exact(Z.setCell (p:=(aD (w.heap.size+1) 0)) (Zh _) _).trans (belowK_b (w:=w) (g_ _) _ D _ _ O a7 rfl rfl)
 case stop=>
  rintro D c pre W _ _ h _;exact h.elim
theorem AP (p:Option Addr)(S:List HSlot)(r:S.length <= 4096)(y:∀s∈S,s.given<4294967295)(w:World)(E:K1 w.heap.size w p S):
  Calls prog 59 #[.pointer p] w fun e W'=>∃v,e=.returned v /\ W'.ownsRow w.heap.size 89 1 v (Gd S S.length).length ((KQ S (Gd S S.length)).map (Value.int .u64)) /\ (v=.slice none 0 0↔Gd S S.length=[]) /\ Below w.heap.size w W':=
 (N_ (n:=3)).1 (CY Fence.wide 3 rfl rfl (g_ _) p S r y w E)
end
end Go.Proofs.YtoaofpohakaliaaGreatDoor
namespace Go.Proofs.YtoaofpohakaliaaGreatDoor
open Go Go.RowKit Go.Shelf
section
variable {b:Nat} {S:List HSlot} {l R:List Blk}
theorem JM.pointed {w:World}(y:JM b S l)(r:Has w (l++R)):K1 w.heap.size w (some (aD b 0)) S:=by
 obtain⟨J,g,G,rfl,E⟩:=y;exact .inr ⟨b,g,rfl,r.lt (by simp),r.lt (by simp),Kv E r⟩
end
namespace handNil
variable {R:List Blk}
end handNil
end Go.Proofs.YtoaofpohakaliaaGreatDoor
namespace Go.Proofs.YtoaofpohakaliaaGreatDoor
open Go Go.RowKit
section
variable {b:Nat} {S:List HSlot} {l R:List Blk}
theorem ZX (w:World)(hS:JM b S l)(hH:Has w (l++R))(a:Int)(ha:a≠0)(Z:∀s∈S,s.given<4294967294)(i:Nat)(s:HSlot)(G:S[i]?= some s)(y:s.addr=0)(hf:∀(j:Nat) (t:HSlot),j<i -> S[j]?= some t -> t.addr≠0):
  Calls prog 29 #[pt b,uV a] w fun e w'=>e=.returned (.tuple #[uV (wh i (s.given+1)),iV 0]) /\ ∃l',JM b (S.set i ⟨s.given+1,a⟩) l' /\ Turn (l++R) w (l'++R) w':=by
 refine(D1 w hS hH a ha Z).mono ?_;rintro e w' (⟨M,s',l',r,J,U,rfl,N,T⟩|⟨E,-⟩)
 · have V:i=M:=by
     rcases Nat.lt_trichotomy i M with h|h|h
     ·exact absurd y (U i s h G)
     ·exact h
     ·exact absurd J (hf M s' h r)
   subst V;have a0:=G.symm.trans r
   cases a0
   exact⟨rfl,l',N,T⟩
 ·exact absurd y (E i s G)
end
end Go.Proofs.YtoaofpohakaliaaGreatDoor
namespace Go.Proofs.YtoaofpohakaliaaGreatDoor
section
open Go Go.RowKit Go.Shelf Go.IntWalk
attribute [local go_sem] Oper.semAt_some
theorem FC (w:World)(f:Value):Calls prog 120 #[.pointer none,f] w fun e w'=>e=.returned (.tuple #[]) /\ w'=w:=by
 go_enter func120,ntmps120
 go_wp2
 (try simp only[Exit.inBlock,Exit.then]);refine f_ (Zg rfl _ _ _) rfl ?_
 exact⟨rfl,rfl⟩
theorem CD (w:World):Calls prog 64 #[.pointer none] w fun e w'=>e=.returned (.slice none 0 0) /\ Below w.heap.size w w':=by
 have r:=(r_ (C_ w)).alloc (.cells #[.slice none 0 0] 24);have J:=r.cell1 0;have G:=r.free1 0;have y:=uh r;clear r
 go_enter func64,ntmps64
 go_wp2_with (first
  | (go_at_call 120;refine(FC _ _).mono ?_;rintro e w' ⟨rfl,E⟩;rw[E];clear E w')
  | fail)
 have M:=y.out.cell1 0;refine f_ (v:=.slice none 0 0) ?_ rfl ?_
 ·simp[results,results64,go_sem]
 ·exact⟨rfl,y.out.below⟩
theorem CE (w:World):Calls prog 63 #[.pointer none] w fun e w'=>e=.returned (.slice none 0 0) /\ Below w.heap.size w w':=by
 have r:=((r_ (C_ w)).alloc (.cells #[.pointer none] 43)).alloc (.cells #[.slice none 0 0] 143);rw[Y_]at r;have J:=r.cell1 0;have G:=r.free1 0;have N:=r.cell2 0;have y:=uh r;clear r
 go_enter func63,ntmps63
 go_wp2_with (first
  | (go_at_call 120;refine(FC _ _).mono ?_;rintro e w' ⟨rfl,E⟩;rw[E];clear E w')
  | fail)
 have M:=y.out.cell1 0;refine f_ (v:=.slice none 0 0) ?_ rfl ?_
 ·simp[results,results63,go_sem]
 ·exact⟨rfl,y.out.below⟩
theorem gu (n:Nat)(Bs:Nat)(w:World)(y:w.heap[Bs]?= some (.cells #[.pointer none] 57)):
  Uh Fence.wide n prog 168 #[pt Bs] (fun x:Nat=>#[uV x]) (fun _ _=>True) (fun _ _=>False) (fun xs=>xs=[]) (fun _=>True) w:=fun l J E Z V U hY G=>by
 have r:E.heap[Bs]?= some (.cells #[.pointer none] 57):=(Z.block Bs (Qk y)).trans y;have q:E.cell? (aD Bs 0)=some (.pointer none):=(Has.one r).cell (d_ ..) 0;have M:Fence.wide.fn 168:= trivial;have N:=uh G;clear hY U V G r;refine Xk func168 rfl M ?_ rfl;simp only[ntmps168,Z_,B_,Qj,Nat.reduceAdd,Nat.reduceSub,S_,R_,Qc,X_,L_,Qd]
 gi_wp2_with fail
 (try simp only[Exit.inBlock,Exit.then]);refine f_ (Zg rfl _ _ _) rfl ?_
 exact⟨⟨_,rfl⟩,[],rfl,N.out⟩
theorem gq (w:World)(Bs:Nat)(M:w.heap[Bs]?= some (.cells #[.pointer none] 57)):
  Calls prog 167 #[.slice none 0 0,.func (.func 168) #[] #[pt Bs]] w fun e w'=>e=.returned (.slice none 0 0) /\ Below w.heap.size w w':=by
 refine(N_ (n:=4)).1 ?_;have h3:Fence.wide.fn 167:= trivial;have h6:Fence.wide.fn 168:= trivial;have N:Fence.wide.round=none:=rfl;have G:=(r_ (C_ w)).alloc (.cells #[.slice none 0 0] 24);refine callsIn_of_wp_marks func167 rfl h3 ?_ N;simp only[ntmps167,Z_,B_,Qj,Nat.reduceAdd,Nat.reduceSub,S_,R_,Qc,X_,L_,Qd]
 gi_wp2_with fail
 generalize hW:w.alloc (.cells #[.slice none 0 0] 24)=V at*;have Z:V.heap[Bs]?= some (.cells #[.pointer none] 57):=(G.below.block Bs (Qk M)).trans M
 refine JD (α:=Nat) (β:=Nat) (FA:=fun _ _=>{ tmps:=#[],defers:=[] }) N O (gf:=168) (lb:=#[pt Bs]) rfl h6 (enters_of func168 kr rfl) (gu _ Bs V Z)
  (fun _ _=>trivial) (fun _ _ _ _ _ _ _ _=>trivial) (T_ _ _) (fun _=>rfl) (fun _ W'=>Turn [] w [(w.heap.size,.cells #[.slice none 0 0] 24)] W') (fun _ _ _ _=>False) (fun s A D row E hg hr=>E.grownC G.size (fun y hy=>.inl (by rw[Qa.1 hy];rfl)) hg hr) (fun _ _ _ _ _ _ h=>h.elim) G (fun _ _ _=>trivial) (fun _ _ _ _ h=>h.elim) (fun _ _ _ _ _ h=>h.elim) ?_
 rintro D xs W2 hD-E hK;have q0:=E.cell1 0;have J:=E.grownC (B:=V.heap.size) G.size (fun y hy=>.inl (by rw[Qa.1 hy];rfl)) (grownBy_putObj' _ D (.deferred none)) (fun r e=>by cases e;exact⟨hD,_,hK,rfl⟩);have U:=uh J;have HK:=uh hK;clear E hK J
 gi_wp2_with fail
 refine⟨by simp,.inl ⟨_,_,rfl,run_takeDeferred HK.out,?_⟩⟩;refine⟨.slice none 0 0,?_,rfl,U.out.below⟩;simp[results,results167,go_sem]
theorem CF (w:World):Calls prog 61 #[.pointer none] w fun e w'=>e=.returned (.slice none 0 0) /\ Below w.heap.size w w':=by
 have r:∀w,Calls prog 119 #[.pointer none] w fun e w'=>e=.returned (.func (.func 168) #[] #[pt w.heap.size]) /\ w'=w.alloc (.cells #[.pointer none] 57):=fun w=>by
  go_enter func119,ntmps119
  go_wp2
  go_ret;exact⟨rfl,rfl⟩
 have N:=uh (r w);have M:=(r_ (C_ w)).alloc (.cells #[.pointer none] 57);have y:=uh (gq (w.alloc (.cells #[.pointer none] 57)) w.heap.size (M.has.own _ _ (d_ ..)));have V:=uh M
 have E:Calls prog 118 #[.func (.func 168) #[] #[pt w.heap.size]] (w.alloc (.cells #[.pointer none] 57)) fun e w'=>e=.returned (.slice none 0 0) /\ Below (w.alloc (.cells #[.pointer none] 57)).heap.size (w.alloc (.cells #[.pointer none] 57)) w':=by
  go_enter func118,ntmps118
  go_wp2_with fail
  refine y.out.mono ?_;rintro e w2 ⟨rfl,G⟩;have J:=uh G;clear G
  go_wp2_with fail
  go_ret;exact⟨rfl,J.out⟩
 have U:=uh E;clear r E M y
 go_enter func61,ntmps61
 go_wp2_with fail
 refine N.out.mono ?_;rintro e w1 ⟨rfl,Z⟩;rw[Z];clear Z w1 N
 go_wp2_with fail
 refine U.out.mono ?_;rintro e w2 ⟨rfl,G⟩;have J:=uh (V.out.below.trans (G.mono V.out.size));clear G U
 go_wp2_with fail
 go_ret;exact⟨rfl,J.out⟩
end
section
open Go Go.RowKit Go.IntWalk
theorem Lt {f:Nat}{e:TypeId}(w:World)(h:∀w,Calls prog f #[.pointer none] w fun en w'=>en=.returned (.slice none 0 0) /\ Below w.heap.size w w'):Jz f e none w []:=fun w' _=>by
 refine(h w').mono ?_;rintro en y ⟨rfl,r⟩;exact⟨none,0,[],rfl,Zb _ _,Ze (C_ w') r⟩
end
section
open Go Go.RowKit
def CZ (S:List HSlot)(i:Nat):Nat×Nat:=(((S[i]?.map HSlot.given).getD 0)*4294967296+i,((S[i]?.map HSlot.addr).getD 0).toNat)
def Rx (S:List HSlot):List (Nat×Nat):=(Gd S S.length).map (CZ S)
theorem Dv {S:List HSlot}(r:∀s∈S,0 <= s.addr)(i:Nat):0 <= (S[i]?.map HSlot.addr).getD 0:=by
 cases h:S[i]? with
 | none=>simp
 | some s=>simpa using r s (q_ h)
theorem CS {S:List HSlot}(r:∀s∈S,0 <= s.addr):(KR S (Gd S S.length)).map (Value.int .u64)=Gf ((Rx S).map (·.2)):=by
 unfold KR Gf Rx;simp only[Zv];refine Jh fun i _=>?_;have:=Dv r i;simp only[Function.comp,CZ];rw[Yx this]
theorem CT (S:List HSlot):(KQ S (Gd S S.length)).map (Value.int .u64)=Gf ((Rx S).map (·.1)):=by
 unfold KQ Gf Rx;simp only[Zv];refine Jh fun i _=>?_;simp only[Function.comp,CZ,wh]
theorem ZV (S:List HSlot):(Rx S).length=(Gd S S.length).length:=n_ ..
theorem K1.more {n₀ r:Nat}{W:World}{p:Option Addr}{S:List HSlot}(h:K1 n₀ W p S)(G:n₀ <= r):K1 r W p S:=by
 rcases h with h|⟨b,g,h1,h2,E,y⟩
 ·exact .inl h
 ·exact .inr ⟨b,g,h1,by omega,by omega,y⟩
theorem Mf (w:World)(p:Option Addr)(S:List HSlot)(r:S.length <= 4096)(G:∀s∈S,0 <= s.addr)(M:K1 w.heap.size w p S):Jz 42 36 p w ((Rx S).map (·.2)):=fun w' y=>by
 refine(AN p S r w' ((M.below y).more y.size)).mono ?_;rintro e V ⟨v,rfl,U,-,J⟩;obtain⟨ao,cap,l',rfl,E,T⟩:=Turn.of_owns (C_ w') J U;rw[CS G]at E;have N:((Rx S).map (·.2)).length=(Gd S S.length).length:=by rw[n_,ZV]
 rw[N];exact⟨ao,cap,l',rfl,E,by simpa using T⟩
theorem N7 (w:World)(p:Option Addr)(S:List HSlot)(r:S.length <= 4096)(G:∀s∈S,s.given<4294967295)(M:K1 w.heap.size w p S):Jz 59 89 p w ((Rx S).map (·.1)):=fun w' y=>by
 refine(AP p S r G w' ((M.below y).more y.size)).mono ?_;rintro e V ⟨v,rfl,U,-,J⟩;obtain⟨ao,cap,l',rfl,E,T⟩:=Turn.of_owns (C_ w') J U;rw[CT]at E;have N:((Rx S).map (·.1)).length=(Gd S S.length).length:=by rw[n_,ZV]
 rw[N];exact⟨ao,cap,l',rfl,E,by simpa using T⟩
end
section
open Go Go.RowKit Go.Shelf
theorem VF (b:Nat)(w:World)(J:w.cell? (aD b 0)=some (.pointer none))(r:w.shape? b=some (189,2))(G:w.frozen? (aD b 0)=false):
  Calls prog 143 #[pt b] w fun e w'=>e=.returned (.tuple #[]) /\ w'=w.setCell (aD b 0) (pt b):=by
 obtain⟨j,y,E⟩:=Option.map_eq_some_iff.1 (show(prog.info? 189).map (·.size)=some 2 by kernel_rfl)
 go_enter func143,ntmps143
 go_wp2
 rw[Lib.run_to_unsafe w (aD b 0) underlying187 underlying324 y (by rw[E];decide) r (Nat.zero_lt_succ 1)];simp only[Result.andThen];rw[Oper.upon_value]
 go_wp2
 rw[run_callFunc_extern func195 kr kr kr (e:=Extern.AbiNoEscape.same) kr];rw[Lib.run_noEscape];simp only[Result.andThen];rw[Oper.upon_value]
 go_wp2
 rw[Lib.run_from_unsafe w (aD b 0) underlying324 underlying187 y r kr];simp only[Result.andThen];rw[Oper.upon_value]
 go_wp2
 go_end0;exact⟨rfl,rfl⟩
theorem X4 (B b n:Nat)(w:World)(hB:B <= b)(r:w.heap[b]?= some (.cells #[pt b,.slice none 0 0] 189 (0,0)))(N:B <= w.heap.size)(hn:n <= 281474976710656):
  Calls prog 144 #[pt b,iV n] w fun e w'=>e=.returned (.tuple #[]) /\ (Lib.BuilderAt 189 5 B b (pt b) [] w' /\ Below B w w'):=by
 obtain⟨cs,M,a1,J⟩:=Lib.run_makeNoZero (P:=prog) w.drew #[3] 32 5 underlying32 n hn
 have V:IntKind.i64.wrap (IntKind.i64.wrap 0+(n:Int))=n:=by
  rw[IntKind.wrap_i64,IntKind.wrap_i64];omega
 have Z:(callFunc 196 #[iV (IntKind.i64.wrap (IntKind.i64.wrap 0+(n:Int)))]).run prog w.drew=.ok (.value (.slice (some (aD w.drew.heap.size 0)) n cs.size)) (w.drew.drew.drew.alloc (.cells cs 5)):=by
  rw[V,run_callFunc_extern func196 kr kr kr (e:=Extern.BytealgMakeNoZero.makeNoZero #[3] #[32]) kr,M]
  rfl
 have y:b<w.heap.size:=by
  rcases Nat.lt_or_ge b w.heap.size with E|E
  ·exact E
  ·simp[Yc E]at r
 have c1:w.drew.cell? (aD b 1)=some (.slice none 0 0):=by
  have:w.drew.heap[b]?= _:=r;rw[Yz this];rfl
 have c2:(w.alloc (.cells cs 5)).cell? (aD b 1)=some (.slice none 0 0):=by
  have:(w.alloc (.cells cs 5)).heap[b]?= _:=(Lib.alloc_old w _ b y).trans r;rw[Yz this];rfl
 have f2:(w.alloc (.cells cs 5)).frozen? (aD b 1)=false:=Lib.frozen_of_heap ((Lib.alloc_old w _ b y).trans r) 1;have U:∀W:World,(sizeOf 5).run prog W=.ok 1 W:=fun _=>by kernel_rfl
 have a0:∀W:World,(Builtin.copy_ #[32,32] 3 #[.slice (some (aD w.heap.size 0)) 0 cs.size,.slice none 0 0]).run prog W=.ok (goInt 0) W:=
  fun W=>run_copy_none W 32 32 3 5 _ _ 0 cs.size 0 0 underlying32 kr rfl
 clear V U y;have G:=uh (Lib.grown_fresh (T:=189) (e:=5) (cs:=cs) hB r N (J (by unfold maxLen;omega)) (by decide))
 go_enter func144,ntmps144
 go_wp2
 go_region
 all_goals (go_wp2;go_end0;exact⟨rfl,G.out⟩)
theorem X5 (B b n:Nat)(w:World)(G:B <= b)(y:w.heap[b]?= some (.cells #[.pointer none,.slice none 0 0] 189 (0,0)))(J:B <= w.heap.size)(U:n <= 281474976710656):
  Calls prog 91 #[pt b,iV n] w fun e w'=>e=.returned (.tuple #[]) /\ (Lib.BuilderAt 189 5 B b (pt b) [] w' /\ Below B w w'):=by
 have r:(w.setCell (aD b 0) (pt b)).heap[b]?= some (.cells #[pt b,.slice none 0 0] 189 (0,0)):=by
  simp[World.setCell,Array.getElem?_modify,y]
 have M:(w.setCell (aD b 0) (pt b)).cell? (aD b 1)=some (.slice none 0 0):=by rw[Yz r];rfl
 have E:Below B w (w.setCell (aD b 0) (pt b)):=(T_ B w).setCell (p:=(aD b 0)) G _
 go_enter func91,ntmps91
 have N:Lib.BuilderAt 189 5 B b (pt b) [] (w.setCell (aD b 0) (pt b)):=⟨G,.slice none 0 0,r,World.ownsRow_nil _ _ _ _,by simp[Value.ownBlock]⟩;have V:(w.setCell (aD b 0) (pt b)).drew.cell? (aD b 1)=some (.slice none 0 0):=M
 go_wp2_with (go_at_call 143;refine(VF b w (by rw[Yz y];rfl) (by simp[World.shape?,y]) (Lib.frozen_of_heap y 0)).mono ?_;rintro e w' ⟨rfl,rfl⟩)
 go_region
 all_goals go_wp2_with (go_at_call 144;refine(X4 B b n (w.setCell (aD b 0) (pt b)).drew G r (by simpa [World.setCell,World.drew,-World.drew_eq]using J) U).mono ?_;rintro e w' ⟨rfl,h1,h2⟩)
 all_goals first
  | (go_end0;exact⟨rfl,h1,E.drew.trans h2⟩)
  | (go_end0;exact⟨rfl,N.drew,E.drew⟩)
theorem H6 (V o c:Nat)(xs:List ByteArray)(E:ByteArray)(w:World)(Kv:∀(j:Nat) x,xs[j]?= some x -> w.cell? (aD V (o+j))=some (.string x))(ae:V<w.heap.size)(h2:2 <= xs.length)(hN:xs.length <= 140737488355328)(aU:xs.length <= c)
  (N:(Lib.join (xs.map (·.data.toList)) E.data.toList).length <= 140737488355328):
  Calls prog 31 #[.slice (some (aD V o)) xs.length c,.string E] w fun e w'=>e=.returned (.string ⟨(Lib.join (xs.map (·.data.toList)) E.data.toList).toArray⟩) /\ Below w.heap.size w w':=by
 have HC:=uh Kv;clear Kv
 obtain⟨G,r,ak⟩:∃G r,xs=G::r:=by
  cases xs with
  | nil=>simp at h2
  | cons a t=>exact⟨a,t,rfl⟩
 have ay:E.size*(xs.length-1)+Lib.lens (xs.map (·.data.toList)) <= 140737488355328:=by
  have:=Lib.join_length G.data.toList (r.map (·.data.toList)) E.data.toList;rw[ak]at N ⊢;simp only[Zn]at N ⊢;rw[this,n_]at N;rw[Lib.size_eq,B_,Nat.add_sub_cancel];exact N
 have aF:E.size*(xs.length-1) <= 140737488355328:=O;generalize hM:E.size*(xs.length-1)=M at ay aF;have a0:((xs.length:Int)-1)=((xs.length-1:Nat):Int):=O
 have az:E.size<9223372036854775807/(xs.length-1):=by
  have:E.size+1 <= 9223372036854775807/(xs.length-1):=by
   rw[Nat.le_div_iff_mul_le O,Jd,hM];omega
  omega
 have aZ:¬(9223372036854775807/((xs.length:Int)-1) <= (E.size:Int)):=by
  have e:(9223372036854775807:Int)/((xs.length-1:Nat):Int)=((9223372036854775807/(xs.length-1):Nat):Int):=IntWalk.up_div (x:=9223372036854775807) rfl rfl;rw[a0,e];generalize 9223372036854775807/(xs.length-1)=q at az;omega
 have aT:wrap64 ((E.size:Int)*((xs.length:Int)-1))=(M:Int):=by
  have e:(E.size:Int)*((xs.length-1:Nat):Int)=((E.size*(xs.length-1):Nat):Int):=IntWalk.up_mul rfl rfl;rw[a0,e,hM];exact IntWalk.wrap64_in _ ⟨by omega,by omega⟩
 have aN:E.size=0 -> M=0:=fun h=>by rw[←hM,h,Nat.zero_mul]
 clear az a0;have aW:((xs.length:Int) == 0)=false:=j_.2 O;have aX:((xs.length:Int) == 1)=false:=j_.2 O;have a3:=uh ak;have aB:=uh N;clear ak N
 go_enter func31,ntmps31
 go_wp2_with fail
 all_goals (
  go_loop [5,41] (fun n i=>∃k:Nat,k <= xs.length /\ i=iV k /\ n=iV ((M+Lib.lens ((xs.map (·.data.toList)).take k):Nat):Int)) (fun _ i=>xs.length-(intOf i).toNat)
  case atStart=>exact⟨0,u_ _,rfl,by first|(simp[Lib.lens];done)|(have:=aN O;simp[Lib.lens,this])⟩
  case round=>
   obtain⟨k,hk,rfl,rfl⟩:=hrel
   by_cases aQ:k<xs.length
   · obtain⟨x,hx⟩:∃x,xs[k]?= some x:=⟨xs[k],a_ aQ⟩
     have hc:=HC.out k x hx;have a1:=Lib.lens_take_succ (xs.map (·.data.toList)) k x.data.toList (by simp[hx]);have af:Lib.lens ((xs.map (·.data.toList)).take (k+1)) <= Lib.lens (xs.map (·.data.toList)):=Lib.lens_take_le _ _;rw[←Lib.size_eq]at a1;generalize an:Lib.lens ((xs.map (·.data.toList)).take (k+1))=A1 at a1 af;generalize Lib.lens ((xs.map (·.data.toList)).take k)=A0 at a1;have aG:=uh an;clear an
     go_wp2
     exact⟨⟨k+1,by omega,by go_num,by rw[aG.out];refine Qu _ ?_;omega⟩,by simp[intOf];omega⟩
   · have ag:k=xs.length:=O
     subst ag;have ac:(xs.map (·.data.toList)).take xs.length=xs.map (·.data.toList):=Xp (by simp);rw[ac];generalize hT:Lib.lens (xs.map (·.data.toList))=T at ay;have HT:=uh hT;clear hT ac
     go_wp2_with fail
     have ap:((M:Int)+(T:Int))=((M+T:Nat):Int):=O;rw[ap];refine(X5 w.heap.size w.heap.size (M+T) _ (g_ _) (A_ w _) (by simp) O).mono ?_;rintro e w1 ⟨rfl,h1,aq⟩;have Z:Below w.heap.size w w1:=((T_ w.heap.size w).alloc (g_ _) _).trans aq;have aS:xs[0]?= some G:=by rw[a3.out];rfl
     have aY:w1.cell? (aD V o)=some (.string G):=by
      rw[Z.cell (p:=(aD V o)) ae];exact HC.out 0 G aS
     have H1:=uh (Or.inr h1:Lib.IsBuilder 189 5 w.heap.size w.heap.size [] w1);have aH:=uh Z;have aC:w.heap.size <= w1.heap.size:=Z.size;clear h1 aq Z ap
     have U:Lib.join (xs.map (·.data.toList)) E.data.toList=G.data.toList++Lib.joinTail E.data.toList (r.map (·.data.toList)):=by
      rw[a3.out,Zn,Lib.join_cons]
     have ab:∀k,(G.data.toList++Lib.joinTail E.data.toList ((r.map (·.data.toList)).take k)).length <= 140737488355328:=fun k=>by
      have h1:=aB.out;rw[U,e_]at h1;have h2:=Lib.joinTail_take_le E.data.toList (r.map (·.data.toList)) k;rw[e_];omega
     have a7:=uh ab;have a8:=uh U;clear ab U
     go_wp2_with fail
     refine(YV w.heap.size w.heap.size [] G w1 H1.out (by have:=a7.out 0;simp[Lib.joinTail]at this ⊢;omega) aC).mono ?_;rintro e w2 ⟨rfl,a9,au⟩
     have a2:([]:List Value)++Lib.strCells G=Lib.byteCells (G.data.toList++Lib.joinTail E.data.toList ((r.map (·.data.toList)).take 0)):=by
      simp[Lib.joinTail,Lib.strCells_eq]
     rw[a2]at a9;have H2:=uh (Or.inr a9:Lib.IsBuilder 189 5 w.heap.size w.heap.size _ w2);have aJ:=uh (aH.out.trans au);clear a9 au a2;have b1:r.length=xs.length-1:=by rw[a3.out];simp
     go_wp2_with fail
     go_loopw [65] (fun i wr=>∃k:Nat,k <= r.length /\ i=iV k /\ Hid (Lib.IsBuilder 189 5 w.heap.size w.heap.size (Lib.byteCells (G.data.toList++Lib.joinTail E.data.toList ((r.map (·.data.toList)).take k))) wr) /\ Hid (Below w.heap.size w wr)) (fun i _=>r.length-(intOf i).toNat)
     case atStart=>exact⟨0,u_ _,rfl,H2,aJ⟩
     case round=>
      obtain⟨k,b0,rfl,HB,HW⟩:=hrel
      by_cases aR:k<r.length
      · obtain⟨y,hy⟩:∃y,r[k]?= some y:=⟨r[k],a_ aR⟩
        have aA:xs[k+1]?= some y:=by rw[a3.out];simpa using hy
        have aP:wr.cell? (aD V (o+1+k))=some (.string y):=by
         rw[HW.out.cell (p:=(aD V (o+1+k))) ae,show o+1+k=o+(k+1)by omega];exact HC.out (k+1) y aA
        have a4:w.heap.size <= wr.heap.size:=HW.out.size
        have a6:Lib.byteCells (G.data.toList++Lib.joinTail E.data.toList ((r.map (·.data.toList)).take k))++Lib.strCells E++Lib.strCells y=Lib.byteCells (G.data.toList++Lib.joinTail E.data.toList ((r.map (·.data.toList)).take (k+1))):=by
         rw[Lib.joinTail_take_succ E.data.toList (r.map (·.data.toList)) k y.data.toList (by simp[hy]),Lib.strCells_eq,Lib.strCells_eq,←Lib.byteCells_append,←Lib.byteCells_append,Qq,Qq,Qq]
        have aj:=a7.out (k+1);rw[Lib.joinTail_take_succ E.data.toList (r.map (·.data.toList)) k y.data.toList (by simp[hy])]at aj;simp only[e_,←Lib.size_eq]at aj
        have ah:(Lib.byteCells (G.data.toList++Lib.joinTail E.data.toList ((r.map (·.data.toList)).take k))).length=G.size+(Lib.joinTail E.data.toList ((r.map (·.data.toList)).take k)).length:=by
         rw[Lib.byteCells_length,e_,←Lib.size_eq]
        generalize(Lib.joinTail E.data.toList ((r.map (·.data.toList)).take k)).length=J at ah aj;have Hn:=uh a6;clear a6 hy aA
        go_wp2_with fail
        refine(YV w.heap.size w.heap.size _ E wr HB.out (by rw[ah];omega) a4).mono ?_;rintro e w3 ⟨rfl,h3,a5⟩;have aE:w.heap.size <= w3.heap.size:=Qf a4 a5.size
        have aV:w3.cell? (aD V (o+1+k))=some (.string y):=by
         rw[a5.cell (p:=(aD V (o+1+k))) ae];exact aP
        have H3:=uh h3;have aK:=uh a5;clear h3 a5
        go_wp2_with fail
        refine(YV w.heap.size w.heap.size _ y w3 (Or.inr H3.out) (by rw[e_,ah,Lib.strCells_length];omega) aE).mono ?_;rintro e w4 ⟨rfl,h4,av⟩;rw[Hn.out]at h4;have H4:=uh (Or.inr h4:Lib.IsBuilder 189 5 w.heap.size w.heap.size _ w4);have aL:=uh ((HW.out.trans aK.out).trans av);clear h4 av
        go_wp2
        exact⟨⟨k+1,by omega,by go_num,H4,aL⟩,by simp[intOf];omega⟩
      · have ag:k=r.length:=O
        subst ag;have am:(r.map (·.data.toList)).take r.length=r.map (·.data.toList):=Xp (by simp);have aa:=HB.out;rw[am,←a8.out]at aa;have a4:w.heap.size <= wr.heap.size:=HW.out.size
        go_wp2_with fail
        refine(Tryz.Builder_String_any w.heap.size w.heap.size _ wr aa a4).mono ?_;rintro e w5 ⟨rfl,ax⟩;have aM:=uh (HW.out.trans ax);clear ax aa
        go_wp2
        go_ret;exact⟨rfl,aM.out⟩)
end
section
open Go Go.RowKit Go.Shelf Go.Sort Go.Lib
theorem PN (u:Nat)(r:u<18446744073709551616)(w:World)(V:Ug w):
  Calls prog 95 #[uV u,iV 10] w fun e w'=>e=.returned (.string ⟨(Lib.decDigits u).toArray⟩) /\ ∃k os,w'=grow (w.drewN k) os:=by
 by_cases hs:u<100
 · have hz:(u:Int)<100:=O
   have a0:IntKind.i64.wrap (u:Int)=(u:Int):=by rw[IntKind.wrap_i64];omega
   go_enter func95,ntmps95
   go_wp2_with (go_at_call 146;refine(Any.internal_strconv_small { Tryz.laysM171 with } u hs _).mono ?_;rintro e w' ⟨rfl,rfl⟩)
   go_ret;exact⟨rfl,0,#[],by simp[World.drewN_zero]⟩
 · have hz:¬(u:Int)<100:=O
   have N:1 <= u:=O;have a1:Lib.nDigits u <= 20:=(by have:=Lib.numDigits_eq u N r;split at this<;>omega);have a3:Lib.nDigits u <= 24:=O;have M:prog.arrayLen 274= 24:=by simp[Program.arrayLen,underlying274]
   have a2:∀W,(Instr.sliceAt 274 (pt w.heap.size) none (some (iV (Lib.nDigits u:Int))) none).run prog W=.ok (.slice (some (aD w.heap.size 0)) (Lib.nDigits u) 24) W:=fun W=>by
    rw[run_sliceAt_array_h W 274 (aD w.heap.size 0) (by simp[Program.arrayLen,Program.elem,underlying274]) .i64 (Lib.nDigits u:Int) O (by rw[M];omega)]
    go_simp
   have G:Holds (fun(b:UInt8)=>yV (b.toNat:Int)) (w.alloc (.cells Lib.zeros24 274)) w.heap.size 0 (Array.replicate (Lib.nDigits u) 0):=fun j y=>by
    rw[Array.size_replicate]at y
    constructor
    · rw[Q_,World.cell?_alloc_new,Lib.zeros24_at j O]
      simp[y]
    ·exact World.frozen?_alloc_new _ _ _ _
   have J:=Any.internal_strconv_formatBase10 { Tryz.laysM171 with } w.heap.size 0 24 u (Array.replicate (Lib.nDigits u) 0) (w.alloc (.cells Lib.zeros24 274)) G (by rw[Array.size_replicate];exact Lib.lt_pow_nDigits u) r (by rw[Array.size_replicate];omega);rw[Array.size_replicate]at J;have Z:=uh G;clear G M
   go_enter func95,ntmps95
   go_wp2_with (first
    | (go_at_call 147;refine(Any.internal_strconv_numDigits { Tryz.laysM171 with } u N r _ (Lib.tabIs_alloc V _)).mono ?_;rintro e w' ⟨rfl,rfl⟩))
   refine J.mono ?_;rintro e w' ⟨rfl,k,v',E,rfl,U⟩
   have a0:(convert 32 9 (.slice (some (aD w.heap.size 0)) (Lib.nDigits u) 24)).run prog ((putRow (fun(b:UInt8)=>yV (b.toNat:Int)) (w.alloc (.cells Lib.zeros24 274)) w.heap.size 0 E).drewN k)=.ok (.string ⟨(Lib.decDigits u).toArray⟩) ((putRow (fun(b:UInt8)=>yV (b.toNat:Int)) (w.alloc (.cells Lib.zeros24 274)) w.heap.size 0 E).drewN k):=by
    have h:=run_convert_bytes_back (P:=prog) ((putRow (fun(b:UInt8)=>yV (b.toNat:Int)) (w.alloc (.cells Lib.zeros24 274)) w.heap.size 0 E).drewN k) 32 9 5 (aD w.heap.size 0) 24 (Lib.decDigits u) underlying32 underlying5 underlying9 (fun j y=>by
     rw[Lib.row_is_numeral U j y,Lib.add_plain,World.cell?_drewN];exact cell?_putRow (fun(b:UInt8)=>yV (b.toNat:Int)) _ w.heap.size 0 _ E Z.out (by rw[U.size,Array.size_replicate]) j (by rw[U.size];rw[Lib.decDigits_length]at y;exact y))
    rw[Lib.decDigits_length]at h;exact h
   go_wp2
   go_ret;obtain⟨os,eo⟩:=Lib.fin_at w (.cells Lib.zeros24 274) E k 0;exact⟨rfl,k,os,eo⟩
theorem FJ (u:Nat)(y:u<18446744073709551616)(w:World)(r:Ug w):
  Calls prog 33 #[uV u,iV 10] w fun e w'=>e=.returned (.string ⟨(Lib.decDigits u).toArray⟩) /\ Below w.heap.size w w':=by
 have H:=uh (PN u y w r);clear r
 go_enter func33,ntmps33
 go_wp2_with fail
 refine H.out.mono ?_;rintro e w' ⟨rfl,k,os,G⟩;have E:Below w.heap.size w w':=by rw[G];exact Lib.below_grow _ _ (g_ _) _ _
 have J:=uh E;clear G E H
 go_wp2_with fail
 go_ret;exact⟨rfl,J.out⟩
end
section
open Go Go.RowKit Go.Shelf Go.IntWalk
def Vr:List (List UInt8):=[[63],[99,101,108,108],[114,101,102],[104,97,110,100],[112,105,110],[119,101,97,107],[98,108,97,99,107],[103,97,112]]
def KC (k:Nat):List UInt8:=Vr.getD k [63]
def Ms (k:Nat)(at_ sl:Int)(who:Nat)(why:Int):List UInt8:=Lib.join [KC k,Lib.itoa at_,Lib.itoa sl,Lib.decDigits who,Lib.itoa why] [32]
theorem KW (u:Nat)(r:u<18446744073709551616):(Lib.decDigits u).length <= 20:=by
 rw[Lib.decDigits_length]
 by_cases h:u=0
 ·subst h;decide +kernel
 · have:=Lib.numDigits_eq u O r
   split at this<;>omega
theorem Lc (n:Int)(r: -9223372036854775808 <= n)(h1:n <= 9223372036854775807):(Lib.itoa n).length <= 21:=by
 by_cases y:n<0
 · obtain⟨u,rfl⟩:∃u:Nat,n= -(u:Int):=⟨n.natAbs,by omega⟩
   rw[Lib.itoa_neg u O,List.length_cons];have:=KW u O;omega
 · obtain⟨u,rfl⟩:∃u:Nat,n=u:=⟨n.toNat,by omega⟩
   rw[Lib.itoa_nonneg];have:=KW u O;omega
theorem RY (k:Nat):(KC k).length <= 5:=by
 unfold KC Vr
 match k with
 | 0|1|2|3|4|5|6|7=>decide
 | k+8=>simp
theorem YX (k:Nat)(at_ E:Int)(y:Nat)(r:Int)(G: -9223372036854775808 <= at_)(h1:at_ <= 9223372036854775807)(h2: -9223372036854775808 <= E)(J:E <= 9223372036854775807)(M:y<18446744073709551616)(N: -9223372036854775808 <= r)(U:r <= 9223372036854775807):(Ms k at_ E y r).length <= 1000:=by
 unfold Ms;rw[Lib.join_length];have V:=RY k;have Z:=Lc at_ G h1;have e3:=Lc E h2 J;have e4:=KW y M;have e5:=Lc r N U;simp only[Lib.lens,List.map_cons,List.map_nil,List.sum_cons,List.sum_nil,List.length_cons,List.length_nil];omega
theorem A6 (w:World)(ht:Ug w)(k:Nat)(hk:k<256)(at_ E:Int)(y:Nat)(r:Int)(h0: -9223372036854775808 <= at_)(h1:at_ <= 9223372036854775807)(h2: -9223372036854775808 <= E)(h3:E <= 9223372036854775807)(h4:y<18446744073709551616)(h5: -9223372036854775808 <= r)(h6:r <= 9223372036854775807):
  Calls prog 9 #[.agg #[yV k,iV at_,iV E,uV y,iV r]] w fun e w'=>e=.returned (.string ⟨(Ms k at_ E y r).toArray⟩) /\ Below w.heap.size w w':=by
 have a6:=uh (Lib.tabBelow_of_tabIs ht);have aa:=uh (YX k at_ E y r h0 h1 h2 h3 h4 h5 h6)
 have T1:Turn [] w ((w.heap.size+1,.cells #[.string ⟨#[63]⟩,.string ⟨#[99,101,108,108]⟩,.string ⟨#[114,101,102]⟩,.string ⟨#[104,97,110,100]⟩,.string ⟨#[112,105,110]⟩,.string ⟨#[119,101,97,107]⟩,.string ⟨#[98,108,97,99,107]⟩,.string ⟨#[103,97,112]⟩] 93)::(w.heap.size,.cells #[yV k,iV at_,iV E,uV y,iV r] 39)::[]) ((w.alloc (.cells #[yV k,iV at_,iV E,uV y,iV r] 39)).alloc (.cells #[.string ⟨#[63]⟩,.string ⟨#[99,101,108,108]⟩,.string ⟨#[114,101,102]⟩,.string ⟨#[104,97,110,100]⟩,.string ⟨#[112,105,110]⟩,.string ⟨#[119,101,97,107]⟩,.string ⟨#[98,108,97,99,107]⟩,.string ⟨#[103,97,112]⟩] 93)):=by
  have h:=((Turn.refl (Has.nil w)).alloc (.cells #[yV k,iV at_,iV E,uV y,iV r] 39)).alloc (.cells #[.string ⟨#[63]⟩,.string ⟨#[99,101,108,108]⟩,.string ⟨#[114,101,102]⟩,.string ⟨#[104,97,110,100]⟩,.string ⟨#[112,105,110]⟩,.string ⟨#[119,101,97,107]⟩,.string ⟨#[98,108,97,99,107]⟩,.string ⟨#[103,97,112]⟩] 93);simp only[World.size_alloc]at h;exact h
 have G:=uh T1;clear ht T1
 go_enter func9,ntmps9
 go_upto_if 9 with fail
 generalize(w.alloc (.cells #[yV k,iV at_,iV E,uV y,iV r] 39)).alloc (.cells #[.string ⟨#[63]⟩,.string ⟨#[99,101,108,108]⟩,.string ⟨#[114,101,102]⟩,.string ⟨#[104,97,110,100]⟩,.string ⟨#[112,105,110]⟩,.string ⟨#[119,101,97,107]⟩,.string ⟨#[98,108,97,99,107]⟩,.string ⟨#[103,97,112]⟩] 93)=W1 at*;have Ht:=uh (a6.out W1 G.out.below);generalize w.heap.size=M at*
 go_cut [4]from 10 (fun v4 wc=>v4=.string ⟨(KC k).toArray⟩ /\ wc=W1)
 case first=>
  have ag:W1.cell? (aD M 0)=some (yV k):=G.out.has.cell (b:=M) (c:=#[yV k,iV at_,iV E,uV y,iV r]) (e:=39) (f:=(0,0)) (by simp) 0;have hc:=fun j=>G.out.has.cell (b:=M+1) (c:=#[.string ⟨#[63]⟩,.string ⟨#[99,101,108,108]⟩,.string ⟨#[114,101,102]⟩,.string ⟨#[104,97,110,100]⟩,.string ⟨#[112,105,110]⟩,.string ⟨#[119,101,97,107]⟩,.string ⟨#[98,108,97,99,107]⟩,.string ⟨#[103,97,112]⟩]) (e:=93) (f:=(0,0)) (by simp) j
  by_cases af:k<8
  · have ab:(k:Int)<8:=O
    have ah:W1.cell? (aD (M+1) k)=some (.string ⟨(KC k).toArray⟩):=by
     rw[hc k];obtain rfl|rfl|rfl|rfl|rfl|rfl|rfl|rfl:k=0∨k=1∨k=2∨k=3∨k=4∨k=5∨k=6∨k=7:=O
     all_goals rfl
    clear hc
    go_wp2_with fail
    go_meet
    case rel=>exact⟨rfl,rfl⟩
  · have ab:¬(k:Int)<8:=O
    have a9:KC k=[63]:=by
     unfold KC Vr
     match k,af with
     | k+8,_=>simp
    have HK:=uh a9;clear hc a9
    go_wp2_with fail
    go_meet
    case rel=>exact⟨by rw[HK.out],rfl⟩
 case rest=>
  obtain⟨rfl,rfl⟩:=hcut
  go_wp2_with fail
  have HL:=uh (fun u (hk:Below wc.heap.size wc u)=>(⟨(hk.cell (p:=(aD M 1)) (World.block_lt_of_cell? wc _ (G.out.has.cell (b:=M) (c:=#[yV k,iV at_,iV E,uV y,iV r]) (e:=39) (f:=(0,0)) (by simp) 1))).trans (G.out.has.cell (b:=M) (c:=#[yV k,iV at_,iV E,uV y,iV r]) (e:=39) (f:=(0,0)) (by simp) 1),(hk.cell (p:=(aD M 2)) (World.block_lt_of_cell? wc _ (G.out.has.cell (b:=M) (c:=#[yV k,iV at_,iV E,uV y,iV r]) (e:=39) (f:=(0,0)) (by simp) 2))).trans (G.out.has.cell (b:=M) (c:=#[yV k,iV at_,iV E,uV y,iV r]) (e:=39) (f:=(0,0)) (by simp) 2),(hk.cell (p:=(aD M 3)) (World.block_lt_of_cell? wc _ (G.out.has.cell (b:=M) (c:=#[yV k,iV at_,iV E,uV y,iV r]) (e:=39) (f:=(0,0)) (by simp) 3))).trans (G.out.has.cell (b:=M) (c:=#[yV k,iV at_,iV E,uV y,iV r]) (e:=39) (f:=(0,0)) (by simp) 3),(hk.cell (p:=(aD M 4)) (World.block_lt_of_cell? wc _ (G.out.has.cell (b:=M) (c:=#[yV k,iV at_,iV E,uV y,iV r]) (e:=39) (f:=(0,0)) (by simp) 4))).trans (G.out.has.cell (b:=M) (c:=#[yV k,iV at_,iV E,uV y,iV r]) (e:=39) (f:=(0,0)) (by simp) 4)⟩:u.cell? (aD M 1)=some (iV at_) /\ u.cell? (aD M 2)=some (iV E) /\ u.cell? (aD M 3)=some (uV y) /\ u.cell? (aD M 4)=some (iV r)))
  have HB:=uh G.out.below;have a2:=uh (Lib.tabBelow_of_tabIs Ht.out);clear G Ht a6;have J:Below wc.heap.size wc wc.drew:=(Turn.refl (Has.nil wc)).drew.below;refine wp_region_noPanic ?_;refine rG (S:=fun u=>Below wc.heap.size wc u) 16 ?_;generalize wc.drew=u0 at*;refine G2 0 14 J ?_;refine G2 1 15 J ?_;refine Jt 2 16 J (fun w V=>(HL.out w V).1) ?_;refine G2 4 18 J ?_;refine Jt 5 19 J (fun w V=>(HL.out w V).2.1) ?_;refine G2 7 21 J ?_;refine Jt 8 22 J (fun w V=>(HL.out w V).2.2.1) ?_;refine G2 10 24 J ?_;refine Jt 11 25 J (fun w V=>(HL.out w V).2.2.2) ?_;clear HL;refine G5 3 (fun K N=>?_)
  go_simp
  refine((Uu u0 (Turn.refl (Has.nil _)) (a2.out _ J) at_ h0 h1).mono (fun e w9 ⟨k1,k2⟩=>(⟨k1,k2.below⟩:e=Ending.returned (Value.string ⟨(Lib.itoa at_).toArray⟩) /\ Below u0.heap.size u0 w9))).mono ?_;rintro e u1 ⟨rfl,U⟩;have Z:=J.trans (U.mono J.size);clear U J;refine N.out _ _ Z fun _=>?_;clear N K;simp only[Gb,G7,G6];refine G5 6 (fun K N=>?_)
  go_simp
  refine((Uu u1 (Turn.refl (Has.nil _)) (a2.out _ Z) E h2 h3).mono (fun e w9 ⟨k1,k2⟩=>(⟨k1,k2.below⟩:e=Ending.returned (Value.string ⟨(Lib.itoa E).toArray⟩) /\ Below u1.heap.size u1 w9))).mono ?_;rintro e u2 ⟨rfl,U⟩;have a0:=Z.trans (U.mono Z.size);clear U Z;refine N.out _ _ a0 fun _=>?_;clear N K;simp only[Gb,G7,G6];refine G5 9 (fun K N=>?_)
  go_simp
  refine(FJ y h4 u2 (a2.out _ a0)).mono ?_;rintro e u3 ⟨rfl,U⟩;have a1:=a0.trans (U.mono a0.size);clear U a0;refine N.out _ _ a1 fun _=>?_;clear N K;simp only[Gb,G7,G6];refine G5 12 (fun K N=>?_)
  go_simp
  refine((Uu u3 (Turn.refl (Has.nil _)) (a2.out _ a1) r h5 h6).mono (fun e w9 ⟨k1,k2⟩=>(⟨k1,k2.below⟩:e=Ending.returned (Value.string ⟨(Lib.itoa r).toArray⟩) /\ Below u3.heap.size u3 w9))).mono ?_;rintro e u4 ⟨rfl,U⟩;have a3:=a1.trans (U.mono a1.size);clear U a1;refine N.out _ _ a3 fun _=>?_;clear N K;simp only[Gb,G7,G6];refine G5 13 (fun K N=>?_)
  go_simp
  have T5:=(Turn.refl (Has.nil u4)).alloc (.cells #[.string ⟨(KC k).toArray⟩,.string ⟨(Lib.itoa at_).toArray⟩,.string ⟨(Lib.itoa E).toArray⟩,.string ⟨(Lib.decDigits y).toArray⟩,.string ⟨(Lib.itoa r).toArray⟩] 9)
  have a7:∀(j:Nat) x,([⟨(KC k).toArray⟩,⟨(Lib.itoa at_).toArray⟩,⟨(Lib.itoa E).toArray⟩,⟨(Lib.decDigits y).toArray⟩,⟨(Lib.itoa r).toArray⟩]:List ByteArray)[j]?= some x -> (u4.alloc (.cells #[.string ⟨(KC k).toArray⟩,.string ⟨(Lib.itoa at_).toArray⟩,.string ⟨(Lib.itoa E).toArray⟩,.string ⟨(Lib.decDigits y).toArray⟩,.string ⟨(Lib.itoa r).toArray⟩] 9)).cell? (aD u4.heap.size (0+j))=some (.string x):=fun j x hx=>by
   rw[Nat.zero_add,T5.has.cell (b:=u4.heap.size) (c:=#[.string ⟨(KC k).toArray⟩,.string ⟨(Lib.itoa at_).toArray⟩,.string ⟨(Lib.itoa E).toArray⟩,.string ⟨(Lib.decDigits y).toArray⟩,.string ⟨(Lib.itoa r).toArray⟩]) (e:=9) (f:=(0,0)) (by simp) j];have:(#[.string ⟨(KC k).toArray⟩,.string ⟨(Lib.itoa at_).toArray⟩,.string ⟨(Lib.itoa E).toArray⟩,.string ⟨(Lib.decDigits y).toArray⟩,.string ⟨(Lib.itoa r).toArray⟩]:Array Value)[j]?= (List.map Value.string ([⟨(KC k).toArray⟩,⟨(Lib.itoa at_).toArray⟩,⟨(Lib.itoa E).toArray⟩,⟨(Lib.decDigits y).toArray⟩,⟨(Lib.itoa r).toArray⟩]:List ByteArray))[j]? :=(by simp);rw[this,List.getElem?_map,hx]
   rfl
  have HJ:=uh (H6 u4.heap.size 0 5 [⟨(KC k).toArray⟩,⟨(Lib.itoa at_).toArray⟩,⟨(Lib.itoa E).toArray⟩,⟨(Lib.decDigits y).toArray⟩,⟨(Lib.itoa r).toArray⟩] ⟨#[32]⟩ (u4.alloc (.cells #[.string ⟨(KC k).toArray⟩,.string ⟨(Lib.itoa at_).toArray⟩,.string ⟨(Lib.itoa E).toArray⟩,.string ⟨(Lib.decDigits y).toArray⟩,.string ⟨(Lib.itoa r).toArray⟩] 9)) a7 (by simp[World.size_alloc]) (by simp) (by simp) (by simp) (Nat.le_trans (show(Ms k at_ E y r).length <= 1000 from aa.out) O));have a4:=a3.trans (T5.below.mono a3.size);clear a7 T5 a3;generalize u4.alloc (.cells #[.string ⟨(KC k).toArray⟩,.string ⟨(Lib.itoa at_).toArray⟩,.string ⟨(Lib.itoa E).toArray⟩,.string ⟨(Lib.decDigits y).toArray⟩,.string ⟨(Lib.itoa r).toArray⟩] 9)=V5 at*;generalize u4.heap.size=b5 at*;refine N.out _ _ a4 fun _=>?_;clear N K;simp only[Gb,G7,G6];refine G5 14 (fun K N=>?_)
  go_simp
  refine HJ.out.mono ?_;rintro e u6 ⟨rfl,U⟩;have a5:=a4.trans (U.mono a4.size);have ae:=uh a5;clear U a4 HJ;refine N.out _ _ a5 fun _=>?_;clear N K;simp only[Gb,G7,G6];generalize hJ:Lib.join _ _=js;have a8:js=Ms k at_ E y r:=hJ.symm;have ac:=uh a8;clear hJ a8;refine G2 15 2 a5 ?_;refine wpAnyH_done kr ?_ _;refine NoPanic.normal ?_;clear a5
  go_wp2_with fail
  go_ret;exact⟨by rw[ac.out];rfl,HB.out.trans (ae.out.mono HB.out.size)⟩
end
section
open Go Go.RowKit Go.IntWalk
theorem Z0 (w:World)(J M U V Z:Value)(N:Nat)(hN:N <= maxLen)(G:Calls prog 17 #[J,M,U,V,Z] w fun e w'=>∃(ao:Option Addr) (cap:Nat),e=.returned (.tuple #[.slice ao N cap,iV 0]) /\ Below w.heap.size w w'):
  Calls prog 20 #[J,M,U,V,Z] w fun e w'=>e=.returned (.bool (decide (N=0))) /\ Below w.heap.size w w':=by
 have y:=uh G;clear G
 go_enter func20,ntmps20
 go_wp2_with fail
 refine y.out.mono ?_;rintro e w1 ⟨ao,cap,rfl,E⟩;have r:=uh E;clear E y
 by_cases h:N=0
 · subst h
   go_wp2_with fail
   go_ret;exact⟨rfl,r.out⟩
 · have hz:¬(N:Int)=0:=O
   have Hf:=uh (b_ h);have Hz:=uh (show(((N:Nat):Int) == 0)=false by simp;exact h);clear h
   go_wp2_with fail
   go_ret;exact⟨by rw[Hf.out];show Ending.returned (Value.bool (((N:Nat):Int) == 0))=_;rw[Hz.out],r.out⟩
theorem EZ (w:World)(E J G pb:Option Addr):Calls prog 17 #[.pointer none,.pointer E,.pointer J,.pointer G,.pointer pb] w fun e w'=>e=.returned (.tuple #[.slice none 0 0,iV 1]) /\ Below w.heap.size w w':=by
 have r:=(((((r_ (C_ w)).alloc (.cells #[.pointer none] 53)).alloc (.cells #[.pointer E] 56)).alloc (.cells #[.pointer J] 43)).alloc (.cells #[.pointer G] 57)).alloc (.cells #[.pointer pb] 48);simp only[Y_]at r;have M:=r.has.cell (b:=w.heap.size) (c:=#[.pointer none]) (e:=53) (f:=(0,0)) (by simp) 0;have y:=uh r;clear r
 go_enter func17,ntmps17
 go_wp2_with fail
 refine f_ (E_ rfl _ _ _) rfl ?_;exact⟨rfl,y.out.below⟩
def xL:List Ty:=[⟨2,0,0⟩]
def xH:Hd:=⟨1,1,1,1⟩
def xC:Ce:=(0,Kd 8)
def j8:List Nat:=lay (List.replicate 16 0) 0 8
def DM:List Nat:=Mm j8 xC 1 xH
def DL:List Nat:=DM.set 3 1048580
def XC:List Ce:=[(0,Kd 1),(1,xH),(2,Kd 6)]
theorem FQ:(∀t∈xL,t.may) /\ xL.length <= 64:=⟨by intro t r;obtain rfl:t=⟨2,0,0⟩:=Qa.1 r;decide,by decide⟩
theorem QJ:∀t∈xL,TyIn t:=by
 intro t r;obtain rfl:t=⟨2,0,0⟩:=Qa.1 r
 constructor<;>decide
theorem XF:Good xL j8 [xC]:=Good.new (n:=16) FQ.1 FQ.2 (by decide) (by decide) (by decide)
theorem QL:Ud xL xH:=⟨by decide,fun _=>⟨⟨2,0,0⟩,rfl,by decide,by decide⟩⟩
theorem UT:Good xL DM XC:=Good.put (a:=[]) (b:=[]) (c:=xC) XF (g:=1) (hd:=xH) QL (by decide) (by decide)
theorem FT:Good xL DL XC:=UT.slot (c:=(1,xH)) (by unfold XC;simp) (j:=3) (v:=1048580) (by decide) (by decide) (by decide)
theorem Bq:noTouch XC:=by unfold XC;exact⟨.inr rfl,.inl rfl,trivial⟩
theorem QP:S2 xL DM XC=[]:=by decide +kernel
theorem QN:S2 xL DL XC=[(1,0,-1,1048580)]:=by decide +kernel
def QK:List HSlot:=List.replicate 4 GR
def QB:List HSlot:=[⟨1,1048582⟩,GR,GR,GR]
theorem FS:Rx QK=[]:=by decide +kernel
theorem FR:Rx QB=[(4294967296,1048582)]:=by decide +kernel
theorem jg:MN xL DM XC [] [] []=[]:=by unfold MN;rw[QP];rfl
theorem jf:MN xL DL XC [(4294967296,1048582)] [] []=[(2,1,0,0,8),(3,0,0,4294967296,0)]:=by unfold MN;rw[QN];decide +kernel
theorem jk:Ms 2 1 0 0 8=[114,101,102,32,49,32,48,32,48,32,56]:=by decide +kernel
theorem jj:Ms 3 0 0 4294967296 0=[104,97,110,100,32,48,32,48,32,52,50,57,52,57,54,55,50,57,54,32,48]:=by decide +kernel
theorem jh:Ms 99 (-1) 0 0 0=[63,32,45,49,32,48,32,48,32,48]:=by decide +kernel
theorem QM {B B':List Nat}(y:∀j,Gv B j=false)(h:Lg B B' 1 1):bitsOf B' 8 (objs XC):=fun i J=>by
 rw[h.2.2 i,y i,Bool.false_or,Xn,Zx,Zx];have G:objs XC=[(1,xH)]:=rfl;rw[G]
 constructor
 ·rintro⟨h1,h2⟩;exact⟨_,Qa.2 rfl,by show 1=i;omega⟩
 · rintro⟨c,E,r⟩
   rw[Qa.1 E]at r;have:1=i:=r;omega
theorem QH (n j:Nat):Gv (List.replicate n 0) j=false:=by
 unfold Gv;rw[M_,Xz]
 split<;>simp
theorem XE {b:Nat}{S:List HSlot}{l:List Blk}(h:JM b S l):∀x∈l,x.2.isCells=true:=by
 obtain⟨-,g,y,rfl,-⟩:=h;intro x r;simp only[t_,Zu,or_false]at r;rcases r with rfl|rfl<;>rfl
theorem jT {w1 w:World}{sb a G tb bb:Nat}{W B:List Nat}{lb R:List Blk}{V:Int}{E:Option Addr}{y:Nat}{L:List Ty}(T:Turn [] w1 (G0 a G W V++(G1 sb a tb bb::lb)++R) w)(N:TabAt w1 tb E y L)(Z:Fields w1)(hf:W.length <= 65536)(U:GD bb B (W.length/2) lb):
  ∃J r,SbAt w sb a G tb bb W B J r E y L:=by
 obtain⟨J,r,M⟩:=U.at_ (R:=G0 a G W V++(G1 sb a tb bb::R)) (T.has.perm po);exact⟨J,r,Rh T N Z hf,T.has.cell (b:=sb) (c:=#[pt a,pt tb,pt bb]) (e:=129) (f:=(0,0)) (by simp[G1]) 2,M⟩
theorem LN.ofEnd {l L M:List Blk}{w w':World}{r a:Nat}{g:Int}{h:Hd}{t:Ty}(T:Turn l w (L++(M++[(r,.cells (G4 a g h t).toArray 179)])) w'):LN w' r a g h t:=
 T.has.range (b:=r) (c:=(G4 a g h t).toArray) (e:=179) (f:=(0,0)) (by simp)
theorem F1 (w:World)(hF:Fields w)(ht:Ug w):Calls prog 5 #[] w fun e w'=>e=.returned (.bool true) /\ Below w.heap.size w w':=by
 have HF:=uh hF;have Ht:=uh (Lib.tabBelow_of_tabIs ht);obtain⟨n1,bt⟩:∃n1,w.heap.size=n1:=⟨_,rfl⟩;have T0:=(r_ (C_ w)).alloc (.cells #[yV 2,iV 0,uV 0] 79);have hr:Gh 79 3 (some (aD w.heap.size 0)) 1 1 [yV 2,iV 0,uV 0] [(w.heap.size,.cells #[yV 2,iV 0,uV 0] 79)]:=Gh.lit (size:=3) w.heap.size #[yV 2,iV 0,uV 0] 1 rfl (by decide);have hS:Src (w.alloc (.cells #[yV 2,iV 0,uV 0] 79)) (some (aD w.heap.size 0)) xL.length 1 3 (tys xL):=hr.src (R:=[]) T0.has;rw[bt]at T0 hS;have HS:=uh hS;have aW:=uh T0;clear hF ht hr hS T0
 go_enter func5,ntmps5
 go_wp2_with fail
 refine Ea _ xL (some (aD n1 0)) 1 HS.out QJ (by decide) _ (uh (fun _ w1 lt bk T1=>?_)) (uh (fun h=>absurd FQ h));obtain⟨an,a8,aJ⟩:=bk.tab (R:=[]) (by rw[p_];exact T1.has);have ak:=(aW.out.call T1.below).below;have J:=uh aJ;have aQ:=uh ak;have a9:=uh (range_below HF.out ak);have b6:=uh (QY w1 (range_below HF.out ak) (w.alloc (.cells #[yV 2,iV 0,uV 0] 79)).heap.size 16 (by decide));generalize(w.alloc (.cells #[yV 2,iV 0,uV 0] 79)).heap.size=tb at*;clear T1 bk HS aJ ak aW
 go_wp2_with fail
 refine b6.out.mono ?_;rintro e w2 ⟨sb,l,rfl,⟨a,E,bb,cw,lb,aK,rfl⟩,T2⟩;have ay:Turn [] w1 (G0 a E j8 cw++(G1 sb a tb bb::lb)) w2:=T2;have b2:=uh (WK w2 4 (by decide) ay.has);have aX:=uh ay;clear T2 ay b6
 go_wp2_with fail
 refine b2.out.mono ?_;rintro e w3 ⟨hb,lh,rfl,aF,T3⟩;have az:Turn [] w1 (G0 a E j8 cw++(G1 sb a tb bb::lb)++lh) w3:=(aX.out.trans T3).perm po;have b9:=Rh az J.out a9.out (by decide);have bc:=XE aF;have HP:=uh (N_.1 (ZG 5 O w3 sb a E tb bb an a8 xL b9 aK (by intro v hv;simp at hv;omega) (by decide) bc az J.out a9.out (by decide) XF.u64 QJ (by decide) [xC] XF.chain 1 1 1 1 (by decide) (by decide) (by decide) (by decide)));have ap:=uh aF;clear T3 az b9 b2 aK aF aX bc
 go_wp2_with fail
 refine HP.out.mono ?_;rintro e N ⟨er,l',rfl,T4,hE⟩;rcases hE with⟨rfl,rfl,bu⟩|⟨rfl,c,hc,bv,B',y,aB,aM,am,rfl⟩
 ·exact absurd (show M4 xC 1 1 by unfold M4;decide) (bu xC (by simp))
 obtain rfl:c=xC:=Qa.1 hc;have ah:Turn [] w1 (G0 a E DM aB++(G1 sb a tb bb::y)++lh) N:=T4;have G:Lg (List.replicate ((16/2+63)/64) 0) B' 1 1:=aM;have a7:GD bb B' (DM.length/2) y:=am;have hI:∀W,Good xL W XC -> W.length=16 -> SdIn xL W B' XC:=fun W hG hW=>⟨by omega,hG.u64,QJ,by decide,hG.chain,G.2.1,by rw[G.1,hW];rfl,by rw[hW];exact QM (QH _) G⟩;have HI:=uh hI;obtain⟨bo,br,ab⟩:=jT ah J.out a9.out (by decide) a7;have M:K1 N.heap.size N (some (aD hb 0)) QK:=ap.out.pointed (R:=G0 a E DM aB++(G1 sb a tb bb::y)) (ah.has.perm po)
 have ho:=hU N sb a E tb bb bo br an a8 xL XC ab (hI DM UT (by decide)) Bq (some (aD hb 0)) none none (Rx QK) [] [] (by rw[FS];simp) (by simp) (by simp) (by rw[FS];simp) (by simp) (by simp) (by simp)
  (Mf N _ QK (by decide) (by decide) M) (N7 N _ QK (by decide) (by decide) M) (Lt N CF) (Lt N CD) (Lt N CE)
 rw[FS,jg]at ho;have b5:=uh (Z0 N _ _ _ _ _ 0 (u_ _) (ho.mono fun e w' ⟨ao,cap,l,h1,h2,h3⟩=>⟨ao,cap,h1,h3.below⟩));have av:=uh a7;have aY:=uh ah;clear T4 ah aM G am a7 hI ab M ho HP bv hc
 go_wp2_with fail
 refine b5.out.mono ?_;rintro e w5 ⟨rfl,ba⟩;have aq:=uh (aY.out.call ba);have aa:=Rh aq.out J.out a9.out (by decide);have b1:=uh (NW w5 (a:=(aD a 0)) rfl aa.c0);have FD:=QE w5 aa.fields aa.ar UT.u64 xL QJ (by decide) tb an a8 aa.tab ((1:Nat):Int);rw[Lz (g:=1) (h:=xH) (UT.chain.mem (1,xH) (by unfold XC;simp)).2.2 rfl]at FD;have b3:=uh FD;clear ba aa FD aY b5
 go_wp2_with (first
  | (go_at_call 15;refine b1.out.mono ?_;rintro e w' ⟨rfl,hw⟩;rw[hw];clear hw w')
  | fail)
 refine b3.out.mono ?_;rintro e w6 ⟨vb,rfl,T6⟩;have au:=uh ((aq.out.grow T6).perm (l2:=G0 a E DM aB++(((G1 sb a tb bb::y)++lh)++[(vb,.cells (G4 a ((1:Nat):Int) xH (tyAt xL xH.typ)).toArray 179)])) po);have b7:=uh (XK w6 au.out (by decide) (LN.ofEnd au.out) (QJ _ (Qa.2 rfl)) (by decide) (by decide) 0 1048580 (by decide) (by decide));clear T6 b1 b3 aq
 go_wp2_with (first
  | (go_at_call 28;refine(C6 _ 2 (by decide)).mono ?_;rintro e w' ⟨rfl,hw⟩;rw[hw];clear hw w')
  | fail)
 refine b7.out.mono ?_;rintro e w7 ⟨rfl,n',T7⟩;have b8:Turn [] w1 (G0 a E DL n'++(((G1 sb a tb bb::y)++lh)++[(vb,.cells (G4 a ((1:Nat):Int) xH (tyAt xL xH.typ)).toArray 179)])) w7:=T7;have aA:=(b8.sub (l2:=G0 a E DL n'++((G1 sb a tb bb::y)++lh)) (by simp)).perm (l2:=lh++(G0 a E DL n'++(G1 sb a tb bb::y))) po;have b0:=uh (ZX w7 ap.out aA.has 1048582 (by decide) (by decide) 0 GR rfl rfl (fun j t hj=>by omega));have aZ:=uh aA;clear T7 b8 aA b7 au
 go_wp2_with (first
  | (go_at_call 28;refine(C6 _ 3 (by decide)).mono ?_;rintro e w' ⟨rfl,hw⟩;rw[hw];clear hw w')
  | fail)
 refine b0.out.mono ?_;rintro e U ⟨rfl,bm,aG,T8⟩;have aH:JM hb QB bm:=aG;have aj:Turn [] w1 (G0 a E DL n'++(G1 sb a tb bb::y)++bm) U:=(aZ.out.trans T8).perm po;obtain⟨bs,aP,ab⟩:=jT aj J.out a9.out (by decide) av.out;have M:K1 U.heap.size U (some (aD hb 0)) QB:=aH.pointed (R:=G0 a E DL n'++(G1 sb a tb bb::y)) (aj.has.perm po)
 have ho:∀w9,Below U.heap.size U w9 -> _:=fun w9 (hk:Below U.heap.size U w9)=>hU w9 sb a E tb bb bs aP an a8 xL XC (ab.below hk) (HI.out DL FT (by decide)) Bq (some (aD hb 0)) none none (Rx QB) [] [] (by rw[FR];simp) (by simp) (by simp) (by rw[FR];simp) (by simp) (by simp) (by simp)
  ((Mf U _ QB (by decide) (by decide) M).below hk) ((N7 U _ QB (by decide) (by decide) M).below hk) (Lt w9 CF) (Lt w9 CD) (Lt w9 CE)
 rw[FR,jf]at ho;have HO:=uh ho;have aR:=uh (aQ.out.trans (aj.below.mono aQ.out.size));clear aG aH T8 aj ab M ho b0 aZ ap HI av
 go_wp2_with fail
 refine(HO.out U (T_ _ _)).mono ?_;rintro e w9 ⟨ao,cap,l9,rfl,aL,T9⟩;have bg:=aL.src (R:=[]) (by rw[p_];exact T9.has);have aV:=uh bg;have ag:=uh T9.below;clear aL bg T9
 go_wp2_with fail
 refine(EZ w9 _ _ _ _).mono ?_;rintro e r ⟨rfl,a4⟩;have a6:=aV.out.below a4;obtain⟨b,off,rfl,-⟩:=a6.form (by decide);have bq:=HO;have bh:∀u,Below r.heap.size r u -> u.rangeAt b (off+0*5) [yV 2,iV 1,iV 0,uV 0,iV 8]:=fun u hk=>Src.fm (f:=Mh) (fun _=>rfl) (S:=[(2,1,0,0,8),(3,0,0,4294967296,0)]) (a6.below hk) (i:=0) rfl;have bj:∀u,Below r.heap.size r u -> u.rangeAt b (off+1*5) [yV 3,iV 0,iV 0,uV 4294967296,iV 0]:=fun u hk=>Src.fm (f:=Mh) (fun _=>rfl) (S:=[(2,1,0,0,8),(3,0,0,4294967296,0)]) (a6.below hk) (i:=1) rfl;have b4:=uh bj;have q0:=bh r (T_ _ _);have aN:(prog.info? 39).map (·.size)=some 5:=by kernel_rfl
 have Z:=uh (aR.out.trans ((ag.out.trans (a4.mono ag.out.size)).mono aR.out.size));have a2:=uh (ag.out.trans (a4.mono ag.out.size));clear bh bj a4 a6 aV
 have bd:Calls prog 9 #[.agg #[yV 2,iV 1,iV 0,uV 0,iV 8]] r fun e w'=>e=.returned (.string ⟨#[114,101,102,32,49,32,48,32,48,32,56]⟩) /\ Below r.heap.size r w':=by
  have h:=A6 r (Ht.out r Z.out) 2 (by decide) 1 0 0 8 (by decide) (by decide) (by decide) (by decide) (by decide) (by decide) (by decide);rw[jk]at h;exact h
 have aS:=uh bd;clear bd
 go_wp2_with (first
  | (show lW 39;refine Xb 39 _ rfl (by rfl) b (off) rfl [yV 2,iV 1,iV 0,uV 0,iV 8] _ q0 underlying39 rfl aN ?_;clear q0)
  | fail)
 refine aS.out.mono ?_;rintro e V ⟨rfl,a5⟩;have q1:=b4.out V a5;have a0:=uh (Z.out.trans (a5.mono Z.out.size));have a3:=uh (a2.out.trans (a5.mono a2.out.size));clear a5 aS Z a2 b4
 have be:Calls prog 9 #[.agg #[yV 3,iV 0,iV 0,uV 4294967296,iV 0]] V fun e w'=>e=.returned (.string ⟨#[104,97,110,100,32,48,32,48,32,52,50,57,52,57,54,55,50,57,54,32,48]⟩) /\ Below V.heap.size V w':=by
  have h:=A6 V (Ht.out V a0.out) 3 (by decide) 0 0 4294967296 0 (by decide) (by decide) (by decide) (by decide) (by decide) (by decide) (by decide);rw[jj]at h;exact h
 have aT:=uh be;clear be
 go_wp2_with (first
  | (show lW 39;refine Xb 39 _ rfl (by rfl) b (off+5) rfl [yV 3,iV 0,iV 0,uV 4294967296,iV 0] _ q1 underlying39 rfl aN ?_;clear q1)
  | fail)
 refine aT.out.mono ?_;rintro e bn ⟨rfl,af⟩;have ae:=uh (a0.out.trans (af.mono a0.out.size));have ax:=uh (Z0 bn _ _ _ _ _ 2 (by decide) ((bq.out bn (a3.out.trans (af.mono a3.out.size))).mono fun e w' ⟨ao,cap,l,h1,h2,h3⟩=>⟨ao,cap,h1,h3.below⟩));clear af aT a0 a3
 go_wp2_with fail
 refine ax.out.mono ?_;rintro e ac ⟨rfl,aC⟩;have a1:=uh (ae.out.trans (aC.mono ae.out.size));clear aC ae ax
 have bf:Calls prog 9 #[.agg #[yV 99,iV (-1),iV 0,uV 0,iV 0]] ac fun e w'=>e=.returned (.string ⟨#[63,32,45,49,32,48,32,48,32,48]⟩) /\ Below ac.heap.size ac w':=by
  have h:=A6 ac (Ht.out ac a1.out) 99 (by decide) (-1) 0 0 0 (by decide) (by decide) (by decide) (by decide) (by decide) (by decide) (by decide);rw[jh]at h;exact h
 have aU:=uh bf;clear bf
 go_wp2_with fail
 refine aU.out.mono ?_;rintro e bx ⟨rfl,aE⟩;have bp:=uh (a1.out.trans (aE.mono a1.out.size));clear aE a1 aU
 go_wp2_with fail
 go_ret;exact⟨rfl,bp.out⟩
end
section
open Go Go.RowKit Go.Shelf Go.IntWalk Go.Maps
attribute [local go_sem] Oper.semAt_some
def U9 (w:World)(pb mb:Nat)(m:List (Int×Value)):Prop:=w.cell? (aD pb 0)=some (.map (some mb)) /\ ∃o,w.heap[mb]?= some o /\ Kt .u64 m o
theorem U9.below {w w':World}{pb mb:Nat}{m:List (Int×Value)}(h:U9 w pb mb m)(r:Below w.heap.size w w'):U9 w' pb mb m:=by
 obtain⟨h1,o,h2,y⟩:=h;exact⟨(r.cell (p:=(aD pb 0)) (c_ w _ h1)).trans h1,o,(r.block mb (Qk h2)).trans h2,y⟩
def Kk (m:List (Int×Value))(ys:List Nat):Prop:=ys.Nodup /\ ys.Pairwise (· <= ·) /\ ys.length <= 4096 /\ ∀x:Nat,x∈ys↔(x:Int)∈m.map (·.1)
theorem jJ (mb:Nat)(w:World):Calls prog 170 #[.map (some mb)] w fun e w'=>e=.returned (.func (.func 218) #[] #[pt w.heap.size]) /\ w'=w.alloc (.cells #[.map (some mb)] 202):=by
 go_enter func170,ntmps170
 go_wp2
 go_ret;exact⟨rfl,rfl⟩
theorem jC (n:Nat)(hn:2 <= n)(w:World)(pb mb:Nat)(m:List (Int×Value))(hP:U9 w pb mb m)(hk:∀p∈m,0 <= p.1 /\ p.1<18446744073709551616)(hl:m.length <= 4096)(Bs:Nat)(a0:w.heap[Bs]?= some (.cells #[pt pb] 57))(U:Nat):
  Uh Fence.wide n prog 168 #[pt Bs] (fun x:Nat=>#[uV x]) (j7 U (KF U)) (fun pre _=>pre.length+1 <= 4096) (Kk m) (Z4 U) w:=fun l J W hW hJ hG hY h0=>by
 have ae:W.heap[Bs]?= some (.cells #[pt pb] 57):=(hW.block Bs (Qk a0)).trans a0;have q:W.cell? (aD Bs 0)=some (pt pb):=(Has.one ae).cell (d_ ..) 0;have a4:=hP.below hW;have q1:=a4.1;obtain⟨ob,a8,aj⟩:=a4.2;have HY:=uh hY;have HJ:=uh hJ;have HG:=uh hG;have H0:=uh h0;have az:Fence.wide.fn 168:= trivial;have aC:Fence.wide.fn 170:= trivial;have aE:Fence.wide.fn 169:= trivial;have h1:1 <= n:=O;have aG:Fence.wide.round=none:=rfl;have T0:=(r_ (C_ W)).alloc (.cells #[.map (some mb)] 202);have ap:=BT (W.alloc (.cells #[.map (some mb)] 202)) mb W.heap.size m ob ((T0.below.block mb (Qk a8)).trans a8) aj hk hl (T0.cell1 0);have ab:=uh T0;have ac:=uh ap;clear hY hJ hG h0 hP hW a0 ae a4 a8 aj T0 ap;refine Xk func168 rfl az ?_ rfl;simp only[ntmps168,Z_,B_,Qj,Nat.reduceAdd,Nat.reduceSub,S_,R_,Qc,X_,L_,Qd]
 gi_wp2_with (first
  | (gi_at_call 170;refine(N_.2 (jJ mb W)).mono ?_;rintro e w' ⟨rfl,hw⟩;rw[hw];clear hw w')
  | (gi_at_call 169;refine(N_.2 ac.out).mono ?_;rintro e V ⟨y,ao,cap,E,rfl,ak,am,aq,a7,hr,M⟩;have HX:=uh (⟨⟨ak,am,aq,a7⟩,hr,ab.out.grow M⟩:Kk m y /\ Gh 36 1 ao y.length cap (Gf y) E /\ Turn [] W (E++((W.heap.size,.cells #[.map (some mb)] 202)::[])) V);clear ak am a7 hr M ab)
  | fail)
 obtain⟨a5,hr,M⟩:=HX.out;have aq:=a5.2.2.1;have af:=HJ.out [] W V none H0.out (Gn M.below) (fun r e=>by cases e);have a1:=HG.out [] W H0.out;have a2:Has V E:=M.has.sub (x_ ..)
 have ah:∀b∈keys E,¬KF U V b:=fun b hb hd=>by
  have h5:=(a1 b (Z4.old a1 M.below hd)).2;rcases M.new b (by rw[GN];exact s_.2 (.inl hb))with h6|h6
  ·cases h6
  ·omega
 have HR:=uh hr;have ax:=uh a5;have H3:=uh (⟨af,a2,ah⟩:J [] V /\ Has V E /\ ∀b∈keys E,¬KF U V b);have Hc:=uh hr.cells;clear a5 hr M af a1 a2 ah HX ac HJ HG H0
 gi_wp2_with fail
 gi_loopw [14] (fun a9 wr=>∃i:Nat,i <= y.length /\ a9=iV i /\ J (y.take i) wr /\ Has wr E /\ ∀b∈keys E,¬KF U wr b) (fun a9 _=>y.length-(intOf a9).toNat)
 case atStart=>exact⟨0,u_ _,by go_num,H3.out.1,H3.out.2.1,H3.out.2.2⟩
 case round=>
  clear H3;obtain⟨i,hi,rfl,N,Z,a3⟩:=hrel
  by_cases aA:i<y.length
  · have aB:(i:Int)<(y.length:Int):=O
    obtain⟨x,hx⟩:∃x,y[i]?= some x:=⟨y[i],a_ aA⟩;have hS:=HR.out.src (R:=[]) (by rw[p_];exact Z);obtain⟨b,off,rfl,hc⟩:=hS.form (by rw[G8];omega);have q2:=hc i _ (JL hx);have an:y.take (i+1)=y.take i++[x]:=(by rw[Qr,hx];rfl);obtain⟨fn,tmps,assign,body,hy,hR⟩:=HY.out (y.take i) x wr (by rw[Qh];omega) N;have aa:=uh hR;have ay:=uh an;have G:=uh (⟨Z,a3⟩:Has wr E /\ ∀b∈keys E,¬KF U wr b);clear hR an N Z a3 hS hc hx
    gi_wp2_with fail
    refine aa.out.mono ?_;rintro e w8 ⟨rfl,ag,a6⟩
    have av:=uh (⟨by rw[ay.out];exact ag,⟨G.out.1.nd,fun b o hm=>a6.1.same b o (G.out.1.own b o hm) (Hc.out _ hm) (G.out.2 b (GE.2 ⟨o,hm⟩))⟩,fun b hb hd=>by
     obtain⟨o,ho⟩:=GE.1 hb;exact G.out.2 b hb (a6.1.own b (Qk (G.out.1.own b o ho)) hd)⟩:J (y.take (i+1)) w8 /\ Has w8 E /\ ∀b∈keys E,¬KF U w8 b)
    clear ag a6 aa hy q2
    gi_wp2_with fail
    go_roundw
    case rel=>exact⟨i+1,by omega,by go_num,av.out⟩
    case measure=>simp[intOf];omega
  · obtain rfl:i=y.length:=O
    have aF:¬((y.length:Nat):Int)<(y.length:Int):=O;rw[D_]at N;have au:=uh N;clear N Z a3
    gi_wp2_with fail
    go_end0;exact⟨⟨_,rfl⟩,y,ax.out,au.out⟩
theorem g7 (w:World)(pb mb:Nat)(m:List (Int×Value))(Z:U9 w pb mb m)(hk:∀p∈m,0 <= p.1 /\ p.1<18446744073709551616)(hl:m.length <= 4096):
  Calls prog 61 #[pt pb] w fun e w'=>∃(r:List Nat) (ao:Option Addr) (cap:Nat) (l:List Blk),Kk m r /\ e=.returned (.slice ao r.length cap) /\ Gh 36 1 ao r.length cap (Gf r) l /\ Turn [] w l w':=by
 have E:Calls prog 119 #[pt pb] w fun e w'=>e=.returned (.func (.func 168) #[] #[pt w.heap.size]) /\ w'=w.alloc (.cells #[pt pb] 57):=by
  go_enter func119,ntmps119
  go_wp2
  go_ret;exact⟨rfl,rfl⟩
 have J:=uh E;have G:=(r_ (C_ w)).alloc (.cells #[pt pb] 57);have y:(w.alloc (.cells #[pt pb] 57)).heap[w.heap.size]?= some (.cells #[pt pb] 57):=G.has.own _ _ (d_ ..)
 have M:=uh (FK (w.alloc (.cells #[pt pb] 57)) 168 #[pt w.heap.size] 4096 O (fun pre _=>pre.length+1 <= 4096) (Kk m) (fun pre x h=>h)
  (enters_of func168 kr rfl)
  (fun W0 V=>jC 5 O W0 pb mb m ((Z.below G.below).below V) hk hl w.heap.size ((V.block _ (Qk y)).trans y) _))
 have N:=uh G;clear E G y Z hk hl
 go_enter func61,ntmps61
 go_wp2_with fail
 refine J.out.mono ?_;rintro e w1 ⟨rfl,hw⟩;rw[hw];clear hw w1 J
 go_wp2_with fail
 refine M.out.mono ?_;rintro e w2 ⟨r,ao,cap,l,hS,rfl,hr,T⟩;have U:=uh (⟨hS,hr,(N.out.grow T).sub (x_ ..)⟩:Kk m r /\ Gh 36 1 ao r.length cap (Gf r) l /\ Turn [] w l w2);clear hS hr T M N
 go_wp2_with fail
 go_ret;exact⟨r,ao,cap,l,U.out.1,rfl,U.out.2⟩
end
section
open Go Go.RowKit Go.IntWalk
section
variable {P:Program} {w:World} {ops:Array Oper} {rest:List Oper} {o:Oper} {a:Act} {Q:Exit -> Act -> World -> Prop} {q:IntKind} {mp:List (Int×Value)} {b:Nat} {ob:Obj}
theorem Rf (hw:Region.wanted o (yielded ops a.tmps)=true)(m x v:Operand)(t:TypeId)(J:o.op=Op.mapUpdate t m x v)(kt e:TypeId)(Z:P.underlying t=some (.map kt e))(U:P.underlying kt=some (.int q))
  (V:a.eval m=.map (some b))(N:w.heap[b]?= some ob)(E:Kt q mp ob)(k:Int)(hx:a.eval x=.int q k)(u:Value)(hv:a.eval v=u)
  (M:∀o',Kt q (Lu mp k u) o' -> wpList P ops Q rest (a.put o.dst undef) { w with heap:=w.heap.setIfInBounds b o' }):wpList P ops Q (o::rest) a w:=by
 refine Mj hw fun K' y=>?_;obtain⟨o',G,r⟩:=SY N E Z U k u;unfold Oper.wp;simp only[execOp,J,V,hx,hv,r,Sem.run_bind,Xd,Sem.run_pure];exact y _ _ (M o' G)
end
end
section
open Go Go.RowKit Go.Shelf Go.IntWalk Go.Maps
theorem jB (w:World):Calls prog 38 #[] w fun e w'=>∃pb mb o,e=.returned (pt pb) /\ Kt .u64 [] o /\ Turn [] w [(pb,.cells #[.map (some mb)] 204),(mb,o)] w':=by
 have E:= @run_makeMap prog;have r:=((r_ (C_ w)).alloc (.map #[] 0)).alloc (.cells #[.map (some w.heap.size)] 204);have y:=uh r;clear r
 go_enter func38,ntmps38
 go_wp2_with fail
 go_ret;have h:=y.out;rw[Y_]at h;exact⟨_,_,_,rfl,Kt.new .u64,h⟩
theorem jy {l L:List Blk}{w0:World}(w:World)(mb:Nat)(o:Obj)(m:List (Int×Value))(G:Kt .u64 m o)(T:Turn l w0 ((mb,o)::L) w)(k:Int)(c:Nat)(U:1 <= c):
  Calls prog 100 #[.map (some mb),uV k,iV c] w fun e w'=>e=.returned (.tuple #[]) /\ ∃o',Kt .u64 (Lu m k (iV c)) o' /\ Turn l w0 ((mb,o')::L) w':=by
 have J:=T.has.own mb o (d_ ..);have y:=uh T;have E:=uh G;have N:¬(c:Int)=0:=O;clear T G
 go_enter func100,ntmps100
 go_wp2_with (first
  | (show wpList _ _ _ (⟨_,Op.mapUpdate 202 _ _ _,_,_,_,_⟩::_) _ _;refine Rf (q:=.u64) (by rfl) _ _ _ 202 rfl 36 3 underlying202 underlying36 rfl J E.out k rfl (iV c) rfl ?_;intro o' r;have M:=uh (⟨r,y.out.setBlk o'⟩:Kt .u64 (Lu m k (iV c)) o' /\ Turn l w0 ((mb,o')::L) { w with heap:=w.heap.setIfInBounds mb o' });clear r J y E;generalize({ w with heap:=w.heap.setIfInBounds mb o' }:World)=V at*)
  | fail)
 go_end0;exact⟨rfl,o',M.out⟩
def A8 (m:List (Int×Value)):Prop:=∀p∈m,∃c:Nat,p.2=iV c /\ 1 <= c /\ c <= 200
theorem WA {m:List (Int×Value)}{k:Int}{v:Value}(h:LV m k=some v):(k,v)∈m:=by
 induction m with
 | nil=>cases h
 | cons p m ih=>
  rw[LY]at h
  by_cases r:k=p.1
  · rw[v_ r]at h
    cases h
    rw[r];exact d_ ..
  · rw[y_ r]at h
    exact V_ _ (ih h)
theorem Ep {P:Program}{w:World}{b:Nat}{y:Array MapEntry}{r:Nat}{t k e:TypeId}(E:w.heap[b]?= some (.map y r))(G:P.underlying t=some (.map k e))(ty:TypeId):(Builtin.len_ #[t] ty #[.map (some b)]).run P w=.ok (iV y.size) w:=by
 simp[Builtin.len_,run_underlying G,MapKept.run_getObj_map E,goInt,Result.andThen]
theorem XW {w:World}{b:Nat}{q:IntKind}{m:List (Int×Value)}{o:Obj}(E:w.heap[b]?= some o)(G:Kt q m o):∃y r,w.heap[b]?= some (.map y r) /\ y.size=m.length:=by
 obtain⟨y,r,rfl,h,-⟩:=G;have:=Qu List.length h;exact⟨y,r,E,by simpa using this⟩
theorem jA {l L:List Blk}{w0:World}(w:World)(pb mb:Nat)(o:Obj)(m:List (Int×Value))(N:Kt .u64 m o)(Z:A8 m)(hl:m.length <= 200)(T:Turn l w0 ((mb,o)::(pb,.cells #[.map (some mb)] 204)::L) w)(k:Nat)(hk:k≠0):
  Calls prog 40 #[pt pb,uV k] w fun e w'=>e=.returned (iV 0) /\ ∃c o',1 <= c /\ (LV m k=none -> c=1) /\ (∀d:Nat,LV m k=some (iV d) -> c=d+1) /\ Kt .u64 (Lu m k (iV (c:Nat))) o' /\ Turn l w0 ((mb,o')::(pb,.cells #[.map (some mb)] 204)::L) w':=by
 have q9:=T.has.own mb o (d_ ..);have q0:w.cell? (aD pb 0)=some (.map (some mb)):=T.has.cell (b:=pb) (c:=#[.map (some mb)]) (e:=204) (f:=(0,0)) (by simp) 0;obtain⟨es,a0,J,U⟩:=XW q9 N;have hz:∀w,(zeroValue 3).run prog w=.ok (iV 0) w:=fun _=>by kernel_rfl
 have r:=uh (fun c hc=>jy w mb o m N T k c hc);have Hm:=uh N;have a5:¬(k:Int)=0:=O
 cases M:LV m (k:Int)with
 | some v=>
  obtain⟨c,rfl,a2,a3⟩:=Z _ (WA M);have V:=uh M;have a4:¬(c:Int)=0:=O;have a1:¬(256:Int) <= (c:Int):=O;clear N Z M T J U
  go_enter func40,ntmps40
  go_wp2_with (first
   | (show wpList _ _ _ (⟨_,Op.lookup 202 _ _ _,_,_,_,_⟩::_) _ _;refine KP (q:=.u64) (by rfl) _ _ 202 false rfl 36 3 underlying202 underlying36 (iV 0) (hz _) rfl q9 Hm.out.obj (k:Int) rfl ?_;rw[V.out];simp only[Zc])
   | fail)
  refine(r.out (c+1) O).mono ?_;rintro e w2 ⟨rfl,o',y,G⟩;have E:=uh (And.intro y G);clear y G r
  go_wp2_with fail
  go_ret;exact⟨rfl,c+1,o',by omega,fun h=>(by cases h),fun d h=>(by cases h;rfl),E.out.1,E.out.2⟩
 | none=>
  have V:=uh M;have a7:∀ty,(Builtin.len_ #[202] ty #[.map (some mb)]).run prog w=.ok (iV m.length) w:=fun ty=>by rw[←U];exact Ep J underlying202 ty
  have a6:¬(4096:Int) <= (m.length:Int):=O;clear N Z M T J U
  go_enter func40,ntmps40
  go_wp2_with (first
   | (show wpList _ _ _ (⟨_,Op.lookup 202 _ _ _,_,_,_,_⟩::_) _ _;refine KP (q:=.u64) (by rfl) _ _ 202 false rfl 36 3 underlying202 underlying36 (iV 0) (hz _) rfl q9 Hm.out.obj (k:Int) rfl ?_;rw[V.out];simp only[Jj])
   | fail)
  refine(r.out 1 O).mono ?_;rintro e w2 ⟨rfl,o',y,G⟩;have E:=uh (And.intro y G);clear y G r
  go_wp2_with fail
  go_ret;exact⟨rfl,1,o',by omega,fun _=>rfl,fun d h=>(by cases h),E.out.1,E.out.2⟩
end
section
open Go Go.RowKit
theorem Kk.one {m:List (Int×Value)}{a b:List Nat}(h1:Kk m a)(h2:Kk m b):a=b:=
 List.Perm.eq_of_pairwise (le:=fun x y:Nat=>x <= y) (fun _ _ _ _ h k=>Nat.le_antisymm h k) h1.2.1 h2.2.1 ((List.perm_ext_iff_of_nodup h1.1 h2.1).2 fun x=>(h1.2.2.2 x).trans (h2.2.2.2 x).symm)
theorem Kk.some {m:List (Int×Value)}(J:(m.map (·.1)).Nodup)(y:∀p∈m,0 <= p.1)(U:m.length <= 4096):∃V,Kk m V:=by
 have r:=List.mergeSort_perm (m.map fun p=>p.1.toNat) (fun a b=>decide (a <= b))
 have E:∀x:Nat,x∈(m.map fun p=>p.1.toNat)↔(x:Int)∈m.map (·.1):=fun x=>by
  constructor
  · intro h
    obtain⟨p,r,rfl⟩:=U_.1 h;exact U_.2 ⟨p,r,by rw[Yx (y p r)]⟩
  · intro h
    obtain⟨p,r,G⟩:=U_.1 h;exact U_.2 ⟨p,r,by rw[G];exact Qs x⟩
 refine⟨(m.map fun p=>p.1.toNat).mergeSort (fun a b=>decide (a <= b)),r.nodup_iff.2 ?_,?_,?_,fun x=>r.mem_iff.trans (E x)⟩
 · have h1:(m.map (·.1)).map Int.toNat=m.map fun p=>p.1.toNat:=by rw[Zv];rfl
   rw[←h1];rw[List.Nodup,List.pairwise_map];refine List.Pairwise.imp_of_mem (fun {a b} ha hb hne G=>hne ?_) J;obtain⟨p,M,rfl⟩:=U_.1 ha;obtain⟨q,N,rfl⟩:=U_.1 hb;have:=y p M;have:=y q N;omega
 · have h2:=List.pairwise_mergeSort (le:=fun a b:Nat=>decide (a <= b)) (fun a b c h k=>by simp only[Zx]at*;omega) (fun a b=>by simp only[Bool.or_eq_true,Zx];omega) (m.map fun p=>p.1.toNat)
   exact h2.imp fun h=>by simpa using h
 · rw[r.length_eq,n_]
   exact U
theorem VV (w:World)(pb mb:Nat)(m:List (Int×Value))(r:List Nat)(E:U9 w pb mb m)(G:∀p∈m,0 <= p.1 /\ p.1<18446744073709551616)(J:m.length <= 4096)(N:Kk m r):Jz 61 36 (some (aD pb 0)) w r:=fun w' y=>by
 refine(g7 w' pb mb m (E.below y) G J).mono ?_;rintro e V ⟨Z,ao,cap,l,U,rfl,M,T⟩;obtain rfl:=U.one N;exact⟨ao,cap,l,rfl,M,T⟩
def Ss (rs:List Nat):List HSlot:=rs.map (fun a=>⟨1,(a:Int)⟩)++List.replicate (64-rs.length) GR
theorem SG {rs:List Nat}(h:rs.length <= 64):(Ss rs).length=64:=by
 unfold Ss;rw[e_,n_,W_];omega
theorem YG {rs:List Nat}{i a:Nat}(h:rs[i]?= some a):(Ss rs)[i]?= some ⟨1,(a:Int)⟩:=by
 unfold Ss;rw[Qz (by rw[n_];exact(m_.1 h).1),G_,h]
 rfl
theorem CW {rs:List Nat}{i:Nat}(h:rs.length <= i)(h2:i<64):(Ss rs)[i]?= some GR:=by
 unfold Ss;rw[Qg (by rw[n_];exact h),n_,Xz,v_ O]
theorem EK {rs:List Nat}(h:rs.length<64)(a:Nat):(Ss rs).set rs.length ⟨1,(a:Int)⟩=Ss (rs++[a]):=by
 unfold Ss;rw[List.set_append_right _ _ (by rw[n_];exact g_ _),n_,Jc];obtain⟨n,r⟩:∃n,64-rs.length=n+1:=⟨63-rs.length,by omega⟩;rw[r,List.replicate_succ,Xf,Za,e_];rw[show 64-(rs.length+[a].length)=n by simp;omega];simp
theorem Tv {rs:List Nat}(h:rs.length <= 64)(r:∀a∈rs,a≠0):∀k,k <= 64 -> Gd (Ss rs) k=List.range (min k rs.length)
 | 0,_=>by simp[Gd]
 | k+1,hk=>by
  have G:=Tv h r k O
  by_cases E:k<rs.length
  · obtain⟨a,y⟩:∃a,rs[k]?= some a:=⟨rs[k],a_ E⟩
    have J:=r a (q_ y);rw[Ru (YG y) (by simp only;omega),G,show min k rs.length=k by omega,show min (k+1) rs.length=k+1 by omega,Yk]
  · rw[Sb (CW O O) rfl,G]
    congr 1
    omega
theorem ZW {rs:List Nat}(h:rs.length <= 64)(E:∀a∈rs,a≠0):Rx (Ss rs)=rs.zipIdx.map fun x=>(4294967296+x.2,x.1):=by
 unfold Rx;rw[SG h,Tv h E 64 (g_ _),show min 64 rs.length=rs.length by omega];refine Xq fun i=>?_;rw[G_,G_,List.getElem?_zipIdx]
 by_cases r:i<rs.length
 · obtain⟨a,y⟩:∃a,rs[i]?= some a:=⟨rs[i],a_ r⟩
   rw[Yv r,y];simp only[Option.map_some,CZ,YG y,Zc,Q_];simp
 · rw[Qb (by rw[Xe];omega),Qb (l:=rs) O]
   rfl
theorem CV {rs:List Nat}(h:rs.length <= 64)(r:∀a∈rs,a≠0):(Rx (Ss rs)).map (·.2)=rs:=by
 rw[ZW h r,Zv];exact List.zipIdx_map_fst 0 rs
end
section
open Go Go.RowKit Go.IntWalk
theorem H5 (w:World):Calls prog 37 #[iV 64] w fun e w'=>e=.returned (.tuple #[pt w.heap.size,iV 0]) /\ Turn [] w [(w.heap.size,.cells #[.slice none 0 0,.slice none 0 0,iV 64] 201)] w':=by
 have r:=uh ((r_ (C_ w)).alloc (.cells #[.slice none 0 0,.slice none 0 0,iV 64] 201))
 go_enter func37,ntmps37
 go_wp2_with fail
 refine f_ (E_ rfl _ _ _) rfl ?_;exact⟨rfl,r.out⟩
theorem Pe {l L:List Blk}{w0:World}(w:World)(b:Nat)(y:Option Addr)(E:Nat)(r:List Nat)(lw:List Blk)(hr:Gh 36 1 y r.length E (Gf r) lw)(hl:r.length<64)
  (T:Turn l w0 ((b,.cells #[.slice y r.length E,.slice none 0 0,iV 64] 201)::(lw++L)) w)(v:Nat):
  Calls prog 39 #[pt b,uV v] w fun e w'=>e=.returned (iV 0) /\ ∃M N a0,Gh 36 1 M (r++[v]).length N (Gf (r++[v])) a0 /\ Turn l w0 ((b,.cells #[.slice M (r++[v]).length N,.slice none 0 0,iV 64] 201)::(a0++L)) w':=by
 have q0:=T.cell1 0;have q2:=T.cell1 2;have f0:=T.free1 0;have G:=uh T;have Hr:=uh hr;have a6:¬(64:Int) <= (r.length:Int):=O;have a1:r.length+1 <= maxLen:=by unfold maxLen;omega
 clear T hr
 go_enter func39,ntmps39
 go_wp2_with fail
 go_quiet (fail)
 have T1:=G.out.drewN nq;clear q0 q2 f0 G;generalize w.drewN nq=w1 at*;have q0:=T1.cell1 0;have G:=uh T1;clear T1
 go_wp2_with (first
  | (at_builtin;have T6:=uh ((G.out.alloc (.cells #[uV v] 36)).perm (l2:=lw++((w1.heap.size,.cells #[uV v] 36)::(b,.cells #[.slice y r.length E,.slice none 0 0,iV 64] 201)::L)) po);refine K_ rfl _ _ rfl GF rfl Hr.out (R:=(w1.heap.size,.cells #[uV v] 36)::(b,.cells #[.slice y r.length E,.slice none 0 0,iV 64] 201)::L) T6.out.has rfl (news:=[uV v]) rfl (Qy (A_ _ _)) (by simp[Value.oneCell']) a1 O ?_;intro a9 p9 l9 w2 Z V a5;have J:=(T6.out.trans V).perm (l2:=(b,.cells #[.slice y r.length E,.slice none 0 0,iV 64] 201)::(l9++((w1.heap.size,.cells #[uV v] 36)::L))) po;have q5:=J.cell1 0;have f5:=J.free1 0;have a2:=uh (J.setCell 0 (.slice a9 (r.length+1) p9));have a3:=uh Z;clear T6 V a5 J q0 Z)
  | fail)
 go_ret;have U:(r++[v]).length=r.length+1:=by simp
 have a4:Gf (r++[v])=Gf r++[uV v]:=by simp[Gf]
 refine⟨rfl,a9,p9,l9,by rw[U,a4];exact a3.out,?_⟩;rw[U];exact a2.out.sub (by simp)
def KE (cs:List Ce):List Nat:=(objs cs).map (·.1)
def JN (at_:List Nat)(v:Nat):Nat:=if v<64 /\ at_≠[]then 1048576+2*at_.getD (v%at_.length) 0 else v
theorem YZ {cs:List Ce}{j:Nat}{c:Ce}(r:cs[j]?= some c):KE (cs.take (j+1))=KE (cs.take j)++if Rv c=true then [c.1]else []:=by
 unfold KE;rw[Az r,Za]
 split<;>rfl
theorem X6 (cs:List Ce)(j:Nat):(KE (cs.take j)).length <= j:=by
 unfold KE objs;rw[n_];refine Qf (Zm ..) ?_;rw[Qh];omega
theorem Sy (w:World)(cs:List Ce)(la xa:Option Addr)(lc xc:Nat)(xs:List Nat)(hS:Src w la cs.length lc 5 (ces cs))(hX:Src w xa xs.length xc 1 (Gf xs))(aN:cs.length <= 32768)(aR:xs.length <= 60)(aq:∀c∈cs,c.1 <= 65536)(hx:∀x∈xs,x<18446744073709551616):
  Calls prog 36 #[.slice la cs.length lc,.slice xa xs.length xc] w fun e w'=>∃ao cap l,e=.returned (.slice ao xs.length cap) /\ Gh 36 1 ao xs.length cap (Gf (xs.map (JN (KE cs)))) l /\ Turn [] w l w':=by
 have HS:=uh (fun w' (hk:Below w.heap.size w w')=>hS.below hk);have HX:=uh (fun w' (hk:Below w.heap.size w w')=>hX.below hk);have ak:=uh (r_ (C_ w));have aA:=uh aq;have Hx:=uh hx;clear hS hX aq hx
 go_enter func36,ntmps36
 go_wp2_with fail
 go_loopw [5,6] (fun v5 v6 wr=>∃(i:Nat) (a5:Option Addr) (p5:Nat) (lr y:List Blk),i <= cs.length /\ v6=iV i /\ v5=.slice a5 (KE (cs.take i)).length p5 /\ Gh 3 1 a5 (KE (cs.take i)).length p5 (J7 (KE (cs.take i))) lr /\ Turn [] w (lr++y) wr) (fun _ v6 _=>cs.length-(intOf v6).toNat)
 case atStart=>exact⟨0,none,0,[],[],u_ _,by go_num,rfl,Zb _ _,ak.out⟩
 case round=>
  clear ak;obtain⟨i,a5,p5,lr,y,hi,rfl,rfl,a4,V⟩:=hrel;have a2:=uh a4;have aG:=X6 cs i
  by_cases ag:i<cs.length
  · have av:(i:Int)<(cs.length:Int):=O
    obtain⟨c,hc⟩:∃c,cs[i]?= some c:=⟨cs[i],a_ ag⟩;have ac:=HS.out wr V.below;obtain⟨b,off,rfl,aE⟩:=ac.form (by rw[GW];omega);have ah:wr.rangeAt b (off+i*5) [iV c.1,yV c.2.tag,iV c.2.typ,iV c.2.len,iV c.2.size]:=ac.ce hc;have q0:=ah 0 _ rfl;rw[Zs]at q0;have q1:=ah 1 _ rfl;have HN:=uh (YZ hc);have E:=uh V;clear V a4 ac aE ah hc;generalize KE (cs.take i)=A at*
    by_cases ht:Rv c=true
    · have aH:(((c.2.tag:Nat):Int) == 1)=true:=by rw[J2]at ht;simp[ht]
      have a3:A.length+1 <= maxLen:=(by unfold maxLen;omega);rw[v_ ht]at HN;clear ht
      go_wp2_with (first
       | (at_builtin;have M:=uh (E.out.alloc (.cells #[iV c.1] 3));refine K_ rfl _ _ rfl L4 rfl a2.out (R:=(wr.heap.size,.cells #[iV c.1] 3)::y) (M.out.perm po).has rfl (news:=[iV c.1]) rfl (Qy (A_ _ _)) (by simp[Value.oneCell']) a3 O ?_;intro a9 p9 l9 w8 r N U;have G:=uh ((M.out.perm po).trans N);have J:=uh r;clear N r U)
       | fail)
      go_roundw
      case rel=>
       have au:(KE (cs.take (i+1))).length=A.length+1:=(by rw[HN.out];simp);exact⟨i+1,a9,p9,l9,_::y,by omega,by go_num,by rw[au],by rw[au,HN.out,GS];exact J.out,G.out⟩
      case measure=>simp[intOf];omega
    · have aH:(((c.2.tag:Nat):Int) == 1)=false:=by rw[J2]at ht;simp;omega
      rw[y_ ht,p_]at HN;clear ht
      go_wp2_with fail
      go_roundw
      case rel=>exact⟨i+1,a5,p5,lr,y,by omega,by go_num,by rw[HN.out],by rw[HN.out];exact a2.out,E.out⟩
      case measure=>simp[intOf];omega
  · obtain rfl:i=cs.length:=O
    have aQ:¬((cs.length:Nat):Int)<(cs.length:Int):=O;rw[D_]at a4 aG;clear a2;have a2:=uh a4;have E:=uh V;clear V a4;rw[D_];have ay:=uh (fun(g:Nat) (hg:g∈KE cs)=>(by obtain⟨c,hc,rfl⟩:=U_.1 hg;exact aA.out c (Kn hc).1:g <= 65536));generalize aj:KE cs=A at*;have ax:=uh aj;clear aj
    go_wp2_with fail
    have az:=X6 cs cs.length;rw[D_]at az
    go_loopw [7,8] (fun v7 v8 wr=>∃(i:Nat) (a7:Option Addr) (p7:Nat) (a6 y:List Blk),i <= xs.length /\ v8=iV i /\ v7=.slice a7 i p7 /\ Gh 36 1 a7 i p7 (Gf ((xs.take i).map (JN A))) a6 /\ Turn [] w (a6++(y++lr)) wr) (fun _ v8 _=>xs.length-(intOf v8).toNat)
    case atStart=>exact⟨0,none,0,[],y,u_ _,by go_num,rfl,Zb _ _,E.out.perm po⟩
    case round=>
     clear E;obtain⟨i,a7,p7,a6,y,hi,rfl,rfl,a0,V⟩:=hrel;have Z:=uh a0
     by_cases ag:i<xs.length
     · have av:(i:Int)<(xs.length:Int):=O
       obtain⟨v,hv⟩:∃v,xs[i]?= some v:=⟨xs[i],a_ ag⟩;have aK:=Hx.out v (q_ hv);obtain⟨bx,aM,rfl,af⟩:=(HX.out wr V.below).form (by rw[G8];omega);have q0:=af i _ (JL hv);have a3:i+1 <= maxLen:=(by unfold maxLen;omega);have ab:Gf ((xs.take (i+1)).map (JN A))=Gf ((xs.take i).map (JN A))++[uV (JN A v:Nat)]:=by rw[Qr,hv];simp[Gf]
       by_cases hb:v<64 /\ A≠[]
       · obtain⟨ae,am⟩:=hb
         have an:(v:Int)<64:=O;have aB:0<A.length:=List.length_pos_iff.2 am;have aC:(0:Int)<(A.length:Int):=O;have aF:v%A.length<A.length:=Nat.mod_lt _ aB;obtain⟨g,hg⟩:∃g,A[v%A.length]?= some g:=⟨A[v%A.length],a_ aF⟩;obtain⟨ba,aL,rfl,ap⟩:=(a2.out.src (V.has.perm (l':=lr++(a6++y)) po)).form (by rw[GX];omega);have q1:=ap (v%A.length) _ (Nv hg);have a1:JN A v=1048576+2*g:=(by unfold JN;rw[v_ ⟨ae,am⟩,M_,hg];rfl);have aP:IntKind.i64.wrap (v:Int)=(v:Int):=(by rw[IntKind.wrap_i64];omega);have a8:=uh ab;obtain⟨z,hz⟩:∃z,1048576+2*g=z:=⟨_,rfl⟩;have ha:=Dx wr g (ay.out g (q_ hg));rw[hz]at ha a1;have Ha:=uh ha;have aa:=uh a1;have E:=uh V;clear ha hz V a0 af ap ab a1 hv hg
         go_wp2_with fail
         refine Ha.out.mono ?_;rintro e w' ⟨rfl,hw⟩;rw[hw];clear hw w' Ha
         go_wp2_with (first
          | (at_builtin;have M:=uh (E.out.alloc (.cells #[uV (z:Nat)] 36));refine K_ rfl _ _ rfl GF rfl Z.out (R:=(wr.heap.size,.cells #[uV (z:Nat)] 36)::(y++lr)) (M.out.perm po).has rfl (news:=[uV (z:Nat)]) rfl (Qy (A_ _ _)) (by simp[Value.oneCell']) a3 O ?_;intro a9 p9 l9 w8 r N U;have G:=uh ((M.out.perm po).trans N);have J:=uh r;clear N r U)
          | fail)
         go_roundw
         case rel=>exact⟨i+1,a9,p9,l9,_::y,by omega,by go_num,rfl,by rw[a8.out,aa.out];exact J.out,G.out⟩
         case measure=>simp[intOf];omega
       · have a8:=uh ab
         have a1:JN A v=v:=(by unfold JN;rw[y_ hb]);have aa:=uh a1;have E:=uh V;clear a0 af ab a1 hv V
         by_cases ae:v<64
         · have hA:A=[]:=Decidable.byContradiction fun h=>hb ⟨ae,h⟩
           have aC:¬(0:Int)<(A.length:Int):=(by rw[hA];simp);have an:(v:Int)<64:=O;clear hA hb
           go_wp2_with (first
            | (at_builtin;have M:=uh (E.out.alloc (.cells #[uV (v:Nat)] 36));refine K_ rfl _ _ rfl GF rfl Z.out (R:=(wr.heap.size,.cells #[uV (v:Nat)] 36)::(y++lr)) (M.out.perm po).has rfl (news:=[uV (v:Nat)]) rfl (Qy (A_ _ _)) (by simp[Value.oneCell']) a3 O ?_;intro a9 p9 l9 w8 r N U;have G:=uh ((M.out.perm po).trans N);have J:=uh r;clear N r U)
            | fail)
           go_roundw
           case rel=>exact⟨i+1,a9,p9,l9,_::y,by omega,by go_num,rfl,by rw[a8.out,aa.out];exact J.out,G.out⟩
           case measure=>simp[intOf];omega
         · have an:¬(v:Int)<64:=O
           clear hb
           go_wp2_with (first
            | (at_builtin;have M:=uh (E.out.alloc (.cells #[uV (v:Nat)] 36));refine K_ rfl _ _ rfl GF rfl Z.out (R:=(wr.heap.size,.cells #[uV (v:Nat)] 36)::(y++lr)) (M.out.perm po).has rfl (news:=[uV (v:Nat)]) rfl (Qy (A_ _ _)) (by simp[Value.oneCell']) a3 O ?_;intro a9 p9 l9 w8 r N U;have G:=uh ((M.out.perm po).trans N);have J:=uh r;clear N r U)
            | fail)
           go_roundw
           case rel=>exact⟨i+1,a9,p9,l9,_::y,by omega,by go_num,rfl,by rw[a8.out,aa.out];exact J.out,G.out⟩
           case measure=>simp[intOf];omega
     · obtain rfl:i=xs.length:=O
       have aJ:¬((xs.length:Nat):Int)<(xs.length:Int):=O;rw[D_]at a0;clear Z;have Z:=uh a0;have E:=uh V;clear V a0
       go_wp2_with fail
       go_ret;exact⟨a7,p7,rfl,a6,by rw[ax.out];exact Z.out,E.out.sub (x_ ..)⟩
theorem Pf (w:World)(r lb:List Nat)(ao:Option Addr)(J:Nat)(bo:Option Addr)(M:Nat)(hA:Src w ao r.length J 1 (Gf r))(hB:Src w bo lb.length M 1 (Gf lb))(hl:r.length <= 65536)(_hl2:lb.length <= 65536):
  Calls prog 41 #[.slice ao r.length J,.slice bo lb.length M] w fun e w'=>e=.returned (.bool (decide (r=lb))) /\ Below w.heap.size w w':=by
 have HA:=uh (fun(h:0<r.length)=>hA.form (by rw[G8];exact h));have HB:=uh (fun(h:0<lb.length)=>hB.form (by rw[G8];exact h));have hT:=uh (r_ (C_ w));clear hA hB
 by_cases y:r.length=lb.length
 · have a0:=uh (En y)
   have HL:=uh y;have k1:((r.length:Int) != (lb.length:Int))=false:=(by rw[Xm];omega);have k2:(r.length != lb.length)=false:=(by rw[Xm];exact y);clear y
   go_enter func41,ntmps41
   go_wp2_with fail
   go_loopw [5] (fun v5 wr=>∃i:Nat,i <= r.length /\ v5=iV i /\ (∀j,j<i -> r[j]?= lb[j]?) /\ Turn [] w [] wr) (fun v5 _=>r.length-(intOf v5).toNat)
   case atStart=>exact⟨0,u_ _,by go_num,(fun j hj=>absurd hj (Jn _)),hT.out⟩
   case round=>
    obtain⟨i,hi,rfl,E,T⟩:=hrel;have a2:=HL.out
    by_cases a3:i<r.length
    · have a4:(i:Int)<(r.length:Int):=O
      have a5:(i:Int)<(lb.length:Int):=O;obtain⟨v,hv⟩:∃v,r[i]?= some v:=⟨r[i],a_ a3⟩;obtain⟨u,Z⟩:∃u,lb[i]?= some u:=⟨lb[i]'O,a_ _⟩;obtain⟨b,off,rfl,hc⟩:=HA.out O;obtain⟨b',a1,rfl,N⟩:=HB.out O;have q:=(T.below.cell (p:=(aD b (off+i))) (c_ w _ (hc i _ (JL hv)))).trans (hc i _ (JL hv));have q':=(T.below.cell (p:=(aD b' (a1+i))) (c_ w _ (N i _ (JL Z)))).trans (N i _ (JL Z));have V:=uh T;have HE:=uh E;have HV:=uh hv;have HU:=uh Z;clear T E hc N a2 hv Z
      by_cases G:v=u
      · have k3:((v:Int) != (u:Int))=false:=by rw[Xm];omega
        have k4:(v != u)=false:=by rw[Xm];exact G
        go_upto_region 6 with fail
        go_quiet (fail)
        clear q q'
        go_wp2_with fail
        go_roundw
        case rel=>exact⟨i+1,by omega,by go_num,(fun j hj=>by
         by_cases h:j<i
         ·exact HE.out j h
         ·rw[show j=i by omega,HV.out,HU.out,G]),V.out.drewN _⟩
        case measure=>simp[intOf];omega
      · have k3:((v:Int) != (u:Int))=true:=by rw[Qe];omega
        have k4:(v != u)=true:=by rw[Qe];exact G
        have U:¬r=lb:=fun h=>by
         have h1:=HV.out;rw[h,HU.out]at h1
         cases h1
         exact G rfl
        go_upto_region 6 with fail
        go_quiet (fail)
        clear q q'
        go_wp2_with fail
        go_ret;exact⟨by rw[b_ U];rfl,(V.out.drewN _).below⟩
    · obtain rfl:i=r.length:=O
      have a6:¬((r.length:Nat):Int)<(r.length:Int):=O;have he:=uh (show r=lb from a0.out.2 E);have V:=uh T;clear T E
      go_wp2_with fail
      go_ret;exact⟨by rw[k_ he.out];rfl,V.out.below⟩
 · have k1:((r.length:Int) != (lb.length:Int))=true:=by rw[Qe];omega
   have k2:(r.length != lb.length)=true:=(by rw[Qe];exact y);have U:¬r=lb:=fun h=>y (by rw[h]);clear y
   go_enter func41,ntmps41
   go_wp2_with fail
   go_ret;exact⟨by rw[b_ U];rfl,hT.out.below⟩
end
section
open Go Go.RowKit
theorem WD {N:Nat}:∀{ss:List Stp},lens ss <= N -> ∀s∈ss,s.ats.length <= N
 | a::l,h,s,r=>by
  have h1:lens (a::l)=a.ats.length+lens l:=by simp[lens]
  rcases t_.1 r with rfl|r
  ·omega
  ·exact WD (by omega) s r
theorem played_all (w:World)(hF:Fields w)(L:List Ty)(lao:Option Addr)(lcap:Nat)(U:Src w lao L.length lcap 3 (tys L))(G:∀t∈L,TyIn t)(n:Int)
  (E:Option Addr)(r:Nat)(y:List Stp)(Z:Src w E y.length r 6 (DH y))(a0:∀s∈y,s.w<18446744073709551616 /\ Src w s.ao s.ats.length s.cap 1 (M9 s.ats) /\ s.ats.length <= 17592186044416)(V:heavy n L.length y=false):
  Calls prog 34 #[iV n,.slice lao L.length lcap,.slice E y.length r] w fun e w'=>RD w w' L lao lcap e:=by
 unfold heavy at V;simp only[Bool.or_eq_false_iff,Yq,Zk]at V;obtain⟨⟨⟨h1,h2⟩,h3⟩,h4⟩:=V;have N:L.length <= 1000:=by omega
 by_cases J:(∀t∈L,t.may) /\ L.length <= 64
 · by_cases M:Kq n
   · obtain⟨k,rfl⟩:∃k:Nat,n=k:=⟨n.toNat,by have:=M.1;omega⟩
     refine Ax w hF L lao lcap U G N J k M (by have:=M.2.1;omega) E r y Z (by omega) fun s hs=>?_;obtain⟨i1,i2,i3⟩:=a0 s hs
     have h5:lens y <= 300:=by
      rw[Xp (by omega)]at h4;omega
     exact⟨by have:=WD h5 s hs;omega,i1,i2⟩
   ·exact Uy w n L lao lcap E y.length r (uh (CK w L lao lcap U G N J n M))
 ·exact Uy w n L lao lcap E y.length r (uh (Y6 w L lao lcap U G N J n))
end
section
open Go Go.RowKit Go.IntWalk
def QF (hv:Bool)(kn hn pn:Nat):Bool:=hv || (decide (60<kn) || (decide (60<hn) || decide (60<pn)))
theorem PJ {y:Bool}{E r G:Nat}(h:QF y E r G=false):y=false /\ E <= 60 /\ r <= 60 /\ G <= 60:=by
 unfold QF at h;simp at h;omega
theorem Pt (m:Nat):decide ((60:Int)<(m:Int))=decide (60<m):=by
 rw[decide_eq_decide];omega
theorem EJ (w:World)(n:Int)(lao y ka Z pa:Option Addr)(M lcap U r J kc G hc N pc:Nat)(hv:Bool)(V:∀w',Below w.heap.size w w' -> Calls prog 21 #[iV n,.slice lao M lcap,.slice y U r] w' fun e w2=>e=.returned (.bool hv) /\ w2=w'):
  Calls prog 4 #[.agg #[iV n,.slice lao M lcap,.slice y U r,.slice ka J kc,.slice Z G hc,.slice pa N pc]] w fun e w'=>e=.returned (.bool (QF hv J G N)) /\ Below w.heap.size w w':=by
 have E:=(r_ (C_ w)).alloc (.cells #[iV n,.slice lao M lcap,.slice y U r,.slice ka J kc,.slice Z G hc,.slice pa N pc] 26);have HT:=uh E;have HH:=uh (V _ E.below);clear E V
 go_enter func4,ntmps4
 go_wp2_with (first
  | (go_at_call 21;refine HH.out.mono ?_;rintro e w' ⟨rfl,hw⟩;rw[hw];clear hw w')
  | fail)
 all_goals go_ret
 all_goals refine⟨?_,HT.out.below⟩
 all_goals (show Ending.returned (Value.bool _)=Ending.returned (Value.bool _);congr 2;unfold QF;simp_all[Pt,Bool.or_assoc]<;>omega)
theorem AQ (w:World)(b:Nat):Calls prog 29 #[pt b,uV 0] w fun e w'=>e=.returned (.tuple #[uV 0,iV 2]) /\ w'=w:=by
 go_enter func29,ntmps29
 go_wp2_with fail
 refine f_ (E_ rfl _ _ _) rfl ?_;exact⟨rfl,rfl⟩
theorem Au (w:World)(b:Nat):Calls prog 40 #[pt b,uV 0] w fun e w'=>e=.returned (iV 2) /\ w'=w:=by
 go_enter func40,ntmps40
 go_wp2_with fail
 go_ret;exact⟨rfl,rfl⟩
structure PinsOk (m:List (Int×Value))(ps:List Nat):Prop where
 len:m.length <= ps.length
 vals:∀p∈m,∃c:Nat,p.2=iV c /\ 1 <= c /\ c <= ps.length
 keys:∀p∈m,0 <= p.1 /\ p.1<18446744073709551616
 mem:∀x:Nat,(x:Int)∈m.map (·.1)↔x∈ps
theorem PinsOk.nil:PinsOk [] []:=⟨g_ _,(fun _ h=>by cases h),(fun _ h=>by cases h),fun _=>by simp⟩
theorem Tg {k:Int}{v:Value}:∀{m:List (Int×Value)} {p:Int×Value},p∈Lu m k v -> p=(k,v)∨p∈m
 | [],p,h=>.inl (Qa.1 h)
 | q::m,p,h=>by
  rw[Lu]at h
  by_cases r:k=q.1
  · rw[v_ r]at h
    rcases t_.1 h with h|h
    ·exact .inl h
    ·exact .inr (V_ _ h)
  · rw[y_ r]at h
    rcases t_.1 h with h|h
    ·exact .inr (by rw[h];exact d_ ..)
    ·exact(Tg h).imp id (V_ _)
theorem Wz (k:Int)(v:Value):∀m:List (Int×Value),(Lu m k v).length <= m.length+1
 | []=>g_ _
 | q::m=>by
  rw[Lu]
  split
  ·simp
  · have:=Wz k v m
    simp only[B_];omega
theorem UC (k:Int)(v:Value)(x:Int):∀m:List (Int×Value),x∈(Lu m k v).map (·.1)↔x=k∨x∈m.map (·.1)
 | []=>by simp[Lu]
 | q::m=>by
  rw[Lu]
  by_cases r:k=q.1
  · rw[v_ r,Zn,Zn,t_,t_,←r]
    constructor
    · rintro(h|h)
      ·exact .inl h
      ·exact .inr (.inr h)
    · rintro(h|h|h)
      ·exact .inl h
      ·exact .inl h
      ·exact .inr h
  · rw[y_ r,Zn,Zn,t_,t_,UC k v x m]
    constructor
    · rintro(h|h|h)
      ·exact .inr (.inl h)
      ·exact .inl h
      ·exact .inr (.inr h)
    · rintro(h|h|h)
      ·exact .inr (.inl h)
      ·exact .inl h
      ·exact .inr (.inr h)
theorem PinsOk.put {m:List (Int×Value)}{E:List Nat}(h:PinsOk m E){k c:Nat}(V:k<18446744073709551616)(h1:1 <= c)(h2:LV m k=none -> c=1)(J:∀d:Nat,LV m k=some (iV d) -> c=d+1):PinsOk (Lu m k (iV c)) (E++[k]):=by
 have N:c <= E.length+1:=by
  cases y:LV m (k:Int)with
  | none=>have:=h2 y;omega
  | some v=>
   obtain⟨d,rfl,-,G⟩:=h.vals _ (WA y);have:=J d y;omega
 refine⟨?_,fun p r=>?_,fun p r=>?_,fun x=>?_⟩
 · have:=Wz k (iV c) m
   have:=h.len;rw[e_,Xx];omega
 · rw[e_,Xx]
   rcases Tg r with rfl|r
   ·exact⟨c,rfl,h1,N⟩
   · obtain⟨d,M,G,U⟩:=h.vals p r
     exact⟨d,M,G,by omega⟩
 · rcases Tg r with rfl|r
   ·exact⟨Yb _,by simp only;omega⟩
   ·exact h.keys p r
 · rw[UC,h.mem,s_,Qa]
   constructor
   · rintro(h|h)
     ·exact .inr O
     ·exact .inl h
   · rintro(h|h)
     ·exact .inr h
     ·exact .inl O
theorem PinsOk.pv {m:List (Int×Value)}{r:List Nat}(h:PinsOk m r)(G:r.length <= 200):A8 m:=fun p y=>by
 obtain⟨c,h1,h2,E⟩:=h.vals p y;exact⟨c,h1,h2,by omega⟩
theorem PinsOk.list {m:List (Int×Value)}{y:List Nat}(h:PinsOk m y)(M:y.length <= 200)(G:(m.map (·.1)).Nodup):∃r,Kk m r /\ ∀x,x∈r↔x∈y:=by
 have:=h.len;obtain⟨r,E⟩:=Kk.some G (fun p J=>(h.keys p J).1) O;exact⟨r,E,fun x=>(E.2.2.2 x).trans (h.mem x)⟩
theorem RK {A:List Nat}(r:∀g∈A,g <= 65536){v:Nat}(y:v<18446744073709551616):JN A v<18446744073709551616:=by
 unfold JN
 split
 · have:A.getD (v%A.length) 0 <= 65536:=by
     rw[M_]
     cases h:A[v%A.length]? with
     | none=>simp
     | some g=>exact r g (q_ h)
   omega
 ·exact y
def J9 (l:List Nat):List Nat:=l.filter fun v=>v != 0
theorem R1 {l:List Nat}{i:Nat}(h:l[i]?= some 0):J9 (l.take (i+1))=J9 (l.take i):=by
 unfold J9;rw[Qr,h,Xv];simp
theorem R2 {l:List Nat}{i v:Nat}(h:l[i]?= some v)(r:v≠0):J9 (l.take (i+1))=J9 (l.take i)++[v]:=by
 unfold J9;rw[Qr,h,Xv];simp[r]
theorem MJ (l:List Nat)(i:Nat):(J9 (l.take i)).length <= i:=by
 unfold J9;refine Qf (Zm ..) ?_;rw[Qh];omega
theorem Nh {l:List Nat}:∀v∈J9 l,v≠0 /\ v∈l:=fun v r=>by
 obtain⟨h1,h2⟩:=Ym.1 r;exact⟨by simpa using h2,h1⟩
def Q9 (w1 w:World)(xb sb tb rb hb pb mb:Nat)(lao:Option Addr)(lcap:Nat)(L:List Ty)(W B:List Nat)(cs:List Ce)(rs ps:List Nat)(m:List (Int×Value)):Prop:=
 ∃(c2 vw:Value) (la ra pa:Option Addr) (lc rc pc:Nat) (lh lL lR lP ls lr:List Blk) (om:Obj),DA sb tb W B ls /\ Ks rb lao L.length lcap W lr /\ JM hb (Ss rs) lh /\ Kt .u64 m om /\
  Gh 127 5 la cs.length lc (ces cs) lL /\ Gh 36 1 ra rs.length rc (Gf rs) lR /\ Gh 36 1 pa ps.length pc (Gf ps) lP /\
  Turn [] w1 ((xb,.cells #[pt sb,pt rb,c2,pt hb,pt pb,.slice la cs.length lc,vw,.slice ra rs.length rc,.slice pa ps.length pc] 60)::(lh++((mb,om)::(pb,.cells #[.map (some mb)] 204)::(lL++(lR++(lP++(ls++lr))))))) w
def F7 (w w':World)(L:List Ty)(lao:Option Addr)(lcap:Nat)(e:Ending):Prop:=
 (e=.returned (.tuple #[.pointer none,.bool true]) /\ Below w.heap.size w w')∨
 ∃(xb sb tb rb hb pb mb:Nat) (w1:World) (W B:List Nat) (cs:List Ce) (rs ps:List Nat) (m:List (Int×Value)),e=.returned (.tuple #[pt xb,.bool true]) /\ Below w.heap.size w w1 /\ PlBase w1 tb L lao lcap /\ Pl L W B cs /\
  rs.length <= 60 /\ (∀v∈rs,v≠0 /\ v<18446744073709551616) /\ ps.length <= 60 /\ (∀v∈ps,v≠0 /\ v<18446744073709551616) /\ PinsOk m ps /\ Q9 w1 w' xb sb tb rb hb pb mb lao lcap L W B cs rs ps m
theorem WZ {L:List Ty}{W B:List Nat}{cs:List Ce}(h:Pl L W B cs):cs.length <= 32768 /\ ∀c∈cs,c.1 <= 65536:=by
 have h1:=h.good.chain.len;have h2:=h.good.small;exact⟨by omega,fun c r=>by have:=(h.good.chain.mem c r).2.1;omega⟩
theorem Ny (l:List Nat)(v:Nat):Gf (l++[v])=Gf l++[uV (v:Nat)]:=by simp[Gf]
theorem Src.cell64 {w:World}{b off n cap:Nat}{xs:List Nat}(h:Src w (some (aD b off)) n cap 1 (Gf xs)){i x:Nat}(r:xs[i]?= some x):w.cell? (aD b (off+i))=some (uV (x:Nat)):=by
 obtain⟨J,G,E,y⟩:=h.form (by rw[G8];have:=(m_.1 r).1;omega)
 cases E
 exact y i _ (JL r)
theorem Pz (w:World)(n:Int)(L:List Ty)(lao:Option Addr)(lcap:Nat)(aN ka ha pa:Option Addr)(sl aq kc hc pc:Nat)(kl hl pl:List Nat)
  (hP:∀w',Below w.heap.size w w' -> Calls prog 34 #[iV n,.slice lao L.length lcap,.slice aN sl aq] w' fun e w2=>RD w' w2 L lao lcap e)
  (J:Src w ka kl.length kc 1 (Gf kl))(hH:Src w ha hl.length hc 1 (Gf hl))(hN:Src w pa pl.length pc 1 (Gf pl))(cm:kl.length <= 60)(ck:hl.length <= 60)(cn:pl.length <= 60)
  (bP:∀v∈kl,v<18446744073709551616)(bM:∀v∈hl,v<18446744073709551616)(bV:∀v∈pl,v<18446744073709551616):
  Calls prog 11 #[.agg #[iV n,.slice lao L.length lcap,.slice aN sl aq,.slice ka kl.length kc,.slice ha hl.length hc,.slice pa pl.length pc]] w fun e w'=>F7 w w' L lao lcap e:=by
 have T0:=(r_ (C_ w)).alloc (.cells #[iV n,.slice lao L.length lcap,.slice aN sl aq,.slice ka kl.length kc,.slice ha hl.length hc,.slice pa pl.length pc] 26);have au:=uh T0.below;have HP:=uh (hP _ T0.below)
 have b1:=uh (fun u (hB:Below (w.alloc (.cells #[iV n,.slice lao L.length lcap,.slice aN sl aq,.slice ka kl.length kc,.slice ha hl.length hc,.slice pa pl.length pc] 26)).heap.size (w.alloc (.cells #[iV n,.slice lao L.length lcap,.slice aN sl aq,.slice ka kl.length kc,.slice ha hl.length hc,.slice pa pl.length pc] 26)) u) (i:Nat) (v:Value) (hi:(#[iV n,.slice lao L.length lcap,.slice aN sl aq,.slice ka kl.length kc,.slice ha hl.length hc,.slice pa pl.length pc]:Array Value)[i]?= some v)=>(by
  have h1:=(T0.cell1 i).trans hi;exact(hB.cell (p:=(aD w.heap.size i)) (c_ _ _ h1)).trans h1:u.cell? (aD w.heap.size i)=some v))
 have c8:=uh (fun u (hB:Below w.heap.size w u)=>J.below hB);have c7:=uh (fun u (hB:Below w.heap.size w u)=>hH.below hB);have c9:=uh (fun u (hB:Below w.heap.size w u)=>hN.below hB);have cc:=uh bP;have bA:=uh bM;have bC:=uh bV;clear hP J hH hN bP bM bV T0
 go_enter func11,ntmps11
 go_wp2_with fail
 refine HP.out.mono ?_;rintro e w2 (⟨rfl,hB⟩|⟨sb,rb,tb,w1,W,B,cs,rfl,bJ,hb,ax,aC⟩)
 · have HB:=uh (au.out.trans (hB.mono au.out.size))
   clear hB HP b1
   go_wp2_with fail
   refine f_ (E_ rfl _ _ _) rfl ?_;exact .inl ⟨rfl,HB.out⟩
 · have aZ:=uh (Z1 w2 hb ax aC)
   have bB:=uh ax;have Hb:=uh hb;have b0:=uh bJ;clear aC ax hb bJ HP
   go_wp2_with fail
   refine aZ.out.mono ?_;rintro e w3 ⟨E,G,lL,rfl,aV,aC⟩;have aX:=uh (b0.out.trans (aC.below.mono b0.out.size));have HL:=uh (fun u l (V:Turn [] w3 l u)=>((by obtain⟨ls,lr,-,-,-,T⟩:=aC;exact aV.src (R:=ls++lr) (T.has.perm po)):Src w3 E cs.length G 5 (ces cs)).below V.below);have HC:=uh (fun u l (V:Turn [] w3 l u) i v hi=>b1.out u (aX.out.trans (V.below.mono aX.out.size)) i v hi);have b5:=uh (fun u l (V:Turn [] w3 l u)=>(au.out.trans (aX.out.mono au.out.size)).trans (V.below.mono (au.out.trans (aX.out.mono au.out.size)).size));have cb:=uh (And.intro aV aC);obtain⟨bd,bK⟩:=WZ bB.out;have aQ:=uh bK;have V0:=(r_ (C_ w3)).alloc (.cells #[pt sb,pt rb,.pointer none,.pointer none,.pointer none,.slice E cs.length G,.slice none 0 0,.slice none 0 0,.slice none 0 0] 60);clear aV aC aZ bK b1
   go_upto_region 5 with fail
   obtain⟨y,c1⟩:∃y,w3.heap.size=y:=⟨_,rfl⟩;rw[c1]at V0 ⊢;clear c1;generalize w3.alloc (.cells #[pt sb,pt rb,.pointer none,.pointer none,.pointer none,.slice E cs.length G,.slice none 0 0,.slice none 0 0,.slice none 0 0] 60)=w4 at*;have r:w4.drew.cell? (aD y 5)=some (.slice E cs.length G) /\ w4.drew.cell? (aD w.heap.size 3)=some (.slice ka kl.length kc):=⟨V0.drew.cell1 5,HC.out _ _ V0.drew 3 _ rfl⟩;have HV:=uh V0.drew;clear V0;refine F_ ?_;refine rG (S:=fun u=>u.cell? (aD y 5)=some (.slice E cs.length G) /\ u.cell? (aD w.heap.size 3)=some (.slice ka kl.length kc)) 11 ?_;generalize w4.drew=u0 at*;refine G2 0 44 r ?_;refine G2 1 45 r ?_;refine G2 2 46 r ?_;refine G2 3 47 r ?_;refine Jt 4 48 r (fun w a6=>a6.1) ?_;refine G2 5 49 r ?_;refine Jt 6 50 r (fun w a6=>a6.2) ?_;refine G5 7 (fun K J=>?_)
   go_simp
   refine(Sy u0 cs E ka G kc kl (HL.out _ _ HV.out) (c8.out _ (b5.out _ _ HV.out)) bd cm aQ.out cc.out).mono ?_;rintro e u1 ⟨wa,wc,lW,rfl,ay,TW⟩;have a0:=And.intro ((TW.below.cell (p:=(aD y 5)) (c_ _ _ r.1)).trans r.1) ((TW.below.cell (p:=(aD w.heap.size 3)) (c_ _ _ r.2)).trans r.2);have V1:=HV.out.grow TW;have ae:=uh ay;clear ay TW r HV;refine J.out _ _ a0 fun _=>?_;clear J K;simp only[Gb,G7,G6];refine G2 8 52 a0 ?_;refine G2 9 53 a0 ?_;have V1:=V1.perm (l2:=(y,.cells #[pt sb,pt rb,.pointer none,.pointer none,.pointer none,.slice E cs.length G,.slice none 0 0,.slice none 0 0,.slice none 0 0] 60)::lW) po;have q6:u1.cell? (aD y 6)=some (.slice none 0 0):=V1.cell1 6;have f6:=V1.free1 6;have V2:=V1.setCell 6 (.slice wa kl.length wc);have a1:=And.intro (V2.cell1 5) (HC.out _ _ V2 3 _ rfl);refine G5 10 (fun K J=>?_)
   go_simp
   have HV:=uh V2;refine J.out _ _ a1 fun _=>?_;clear J K a0 a1 V1 V2 q6 f6;simp only[Gb,G7,G6];refine P_ kr ?_ _;refine z_ ?_;generalize u1.setCell (aD y 6) (.slice wa kl.length wc)=u2 at*;have cr:(kl.map (JN (KE cs))).length=kl.length:=n_ ..;have bH:=uh (fun(A:List Nat) (hA:A=KE cs) v (hv:v∈hl.map (JN A))=>(by obtain⟨x,hx,rfl⟩:=U_.1 hv;exact RK (fun g hg=>by rw[hA]at hg;obtain⟨c,hc,rfl⟩:=U_.1 hg;exact aQ.out c (Kn hc).1) (bA.out x hx):v<18446744073709551616));have b7:=uh (fun(A:List Nat) (hA:A=KE cs) v (hv:v∈pl.map (JN A))=>(by obtain⟨x,hx,rfl⟩:=U_.1 hv;exact RK (fun g hg=>by rw[hA]at hg;obtain⟨c,hc,rfl⟩:=U_.1 hg;exact aQ.out c (Kn hc).1) (bC.out x hx):v<18446744073709551616))
   go_wp2_with fail
   refine(H5 u2).mono ?_;rintro e u3 ⟨rfl,TS⟩;have V3:=HV.out.grow TS;clear TS HV;generalize u2.heap.size=ac at*;have HV:=uh V3;clear V3
   go_wp2_with fail
   refine(WK u3 64 O (R:=[]) (C_ u3)).mono ?_;rintro e u4 ⟨hb,lh,rfl,a5,TH⟩;rw[p_]at TH;have V4:=HV.out.grow TH;have av:=uh a5;clear TH HV a5;have HV:=uh V4;clear V4
   go_wp2_with fail
   refine(jB u4).mono ?_;rintro e u5 ⟨pb,mb,om,rfl,ak,TP⟩;have b4:=uh ((HV.out.grow TP).perm (l2:=(ac,.cells #[.slice none 0 0,.slice none 0 0,iV 64] 201)::([]++((y,.cells #[pt sb,pt rb,.pointer none,.pointer none,.pointer none,.slice E cs.length G,.slice wa kl.length wc,.slice none 0 0,.slice none 0 0] 60)::(lW++(lh++[(pb,.cells #[.map (some mb)] 204),(mb,om)]))))) po);have br:=uh ak;clear TP HV ak;obtain⟨ks,bf⟩:∃ks,ks=kl.map (JN (KE cs)):=⟨_,rfl⟩;obtain⟨hs,be⟩:∃hs,hs=hl.map (JN (KE cs)):=⟨_,rfl⟩;obtain⟨ps,bh⟩:∃ps,ps=pl.map (JN (KE cs)):=⟨_,rfl⟩;have bN:ks.length=kl.length:=by rw[bf];exact n_ ..
   have aU:hs.length=hl.length:=(by rw[be];exact n_ ..);have ax:ps.length=pl.length:=(by rw[bh];exact n_ ..);rw[←bf]at ae;have aJ:=uh (And.intro be (bH.out _ rfl));have aK:=uh (And.intro bh (b7.out _ rfl));have b6:=uh (And.intro bN (And.intro aU ax));obtain⟨RS,ba⟩:∃RS,RS=(y,.cells #[pt sb,pt rb,.pointer none,.pointer none,.pointer none,.slice E cs.length G,.slice wa kl.length wc,.slice none 0 0,.slice none 0 0] 60)::(lW++(lh++[(pb,.cells #[.map (some mb)] 204),(mb,om)])):=⟨_,rfl⟩;rw[←ba]at b4;have bs:=uh ba;clear cr bH b7 bf be bh ba bN aU ax
   go_wp2_with fail
   go_loopw [13] (fun bn wr=>∃(i cw:Nat) (aw:Option Addr) (lw:List Blk),i <= kl.length /\ bn=iV i /\ Gh 36 1 aw (ks.take i).length cw (Gf (ks.take i)) lw /\ Turn [] w3 ((ac,.cells #[.slice aw (ks.take i).length cw,.slice none 0 0,iV 64] 201)::(lw++RS)) wr) (fun bn _=>kl.length-(intOf bn).toNat)
   case atStart=>exact⟨0,0,none,[],u_ _,by go_num,Zb _ _,b4.out⟩
   case round=>
    clear b4;obtain⟨i,cw,aw,lw,hi,rfl,hr,V⟩:=hrel
    have VX:Turn [] w3 ((y,.cells #[pt sb,pt rb,.pointer none,.pointer none,.pointer none,.slice E cs.length G,.slice wa kl.length wc,.slice none 0 0,.slice none 0 0] 60)::(lW++((ac,.cells #[.slice aw (ks.take i).length cw,.slice none 0 0,iV 64] 201)::(lw++(lh++[(pb,.cells #[.map (some mb)] 204),(mb,om)]))))) wr:=by
     have h:=V;rw[bs.out]at h;exact h.perm po
    have q6:wr.cell? (aD y 6)=some (.slice wa kl.length wc):=VX.cell1 6
    by_cases bQ:i<kl.length
    · have bg:(i:Int)<(kl.length:Int):=O
      obtain⟨v,hv⟩:∃v,ks[i]?= some v:=⟨ks[i]'(by have:=b6.out.1;omega),a_ _⟩;have aa:=ae.out.src (R:=((y,.cells #[pt sb,pt rb,.pointer none,.pointer none,.pointer none,.slice E cs.length G,.slice wa kl.length wc,.slice none 0 0,.slice none 0 0] 60)::((ac,.cells #[.slice aw (ks.take i).length cw,.slice none 0 0,iV 64] 201)::(lw++(lh++[(pb,.cells #[.map (some mb)] 204),(mb,om)]))))) (VX.has.perm po);obtain⟨bw,ap,rfl,-⟩:=aa.form (by rw[G8];have:=(m_.1 hv).1;omega);have qv:=aa.cell64 hv;have bY:ks.take (i+1)=ks.take i++[v]:=(by rw[Qr,hv];rfl);have HU:=uh (Pe wr ac aw cw (ks.take i) lw hr (by rw[Qh];omega) V v);have bt:=uh bY;clear hv bY aa VX V hr
      go_wp2_with fail
      refine HU.out.mono ?_;rintro e w8 ⟨rfl,cf,cg,ct,bW,V'⟩;have HX:=uh (And.intro bW V');clear bW V' HU q6 qv
      go_wp2_with fail
      go_roundw
      case rel=>exact⟨i+1,cg,cf,ct,by omega,by go_num,by rw[bt.out];exact HX.out.1,by rw[bt.out];exact HX.out.2⟩
      case measure=>simp[intOf];omega
    · obtain rfl:i=kl.length:=O
      have bT:¬((kl.length:Nat):Int)<(kl.length:Int):=O;have V6:Turn [] w3 ((y,.cells #[pt sb,pt rb,.pointer none,.pointer none,.pointer none,.slice E cs.length G,.slice wa kl.length wc,.slice none 0 0,.slice none 0 0] 60)::(lh++[(pb,.cells #[.map (some mb)] 204),(mb,om)])) wr:=(VX.perm (l2:=(lW++((ac,.cells #[.slice aw (ks.take kl.length).length cw,.slice none 0 0,iV 64] 201)::lw))++((y,.cells #[pt sb,pt rb,.pointer none,.pointer none,.pointer none,.slice E cs.length G,.slice wa kl.length wc,.slice none 0 0,.slice none 0 0] 60)::(lh++[(pb,.cells #[.map (some mb)] 204),(mb,om)]))) po).drop;clear V VX hr ae bs
      go_upto_region 16 with fail
      clear q6;obtain⟨M,bZ⟩:∃M,M=(.slice wa kl.length wc:Value):=⟨_,rfl⟩;rw[←bZ]at V6;clear bZ;have V6:=V6.perm (l2:=(y,.cells #[pt sb,pt rb,.pointer none,.pointer none,.pointer none,.slice E cs.length G,M,.slice none 0 0,.slice none 0 0] 60)::(lh++[(pb,.cells #[.map (some mb)] 204),(mb,om)])) po;have r:wr.drew.cell? (aD y 5)=some (.slice E cs.length G) /\ wr.drew.cell? (aD w.heap.size 4)=some (.slice ha hl.length hc):=⟨V6.drew.cell1 5,HC.out _ _ V6.drew 4 _ rfl⟩;have HV:=uh V6.drew;clear V6;refine F_ ?_;refine rG (S:=fun u=>u.cell? (aD y 5)=some (.slice E cs.length G) /\ u.cell? (aD w.heap.size 4)=some (.slice ha hl.length hc)) 8 ?_;generalize wr.drew=u0 at*;refine G2 0 100 r ?_;refine G2 1 101 r ?_;refine G2 2 102 r ?_;refine Jt 3 103 r (fun w a6=>a6.1) ?_;refine G2 4 104 r ?_;refine Jt 5 105 r (fun w a6=>a6.2) ?_;refine G5 6 (fun K J=>?_)
      go_simp
      refine(Sy u0 cs E ha G hc hl (HL.out _ _ HV.out) (c7.out _ (b5.out _ _ HV.out)) bd ck aQ.out bA.out).mono ?_;rintro e u1 ⟨cv,cy,lH,rfl,ay,TW⟩;have a0:=And.intro ((TW.below.cell (p:=(aD y 5)) (c_ _ _ r.1)).trans r.1) ((TW.below.cell (p:=(aD w.heap.size 4)) (c_ _ _ r.2)).trans r.2);have V1:=HV.out.grow TW;have ae:=uh ay;clear ay TW r HV;refine J.out _ _ a0 fun _=>?_;clear J K;simp only[Gb,G7,G6];refine G2 7 14 a0 ?_;refine P_ kr ?_ _;refine z_ ?_;clear a0;rw[←aJ.out.1]at ae;have aP:=uh (V1.perm (l2:=(y,.cells #[pt sb,pt rb,.pointer none,.pointer none,.pointer none,.slice E cs.length G,M,.slice none 0 0,.slice none 0 0] 60)::([]++(lh++(lH++[(pb,.cells #[.map (some mb)] 204),(mb,om)])))) po);clear V1;have aj:=uh (fun u Y (V:Turn [] w3 (lH++Y) u)=>ae.out.src (R:=Y) V.has);have c2:=uh True.intro;clear ae
      go_wp2_with fail
      have aU:=b6.out.2.1
      go_loopw [15] (fun Sk wr=>∃(i Z:Nat) (U:Option Addr) (lR N:List Blk),i <= hl.length /\ Sk=iV i /\ Gh 36 1 U (J9 (hs.take i)).length Z (Gf (J9 (hs.take i))) lR /\ JM hb (Ss (J9 (hs.take i))) N /\ Turn [] w3 ((y,.cells #[pt sb,pt rb,.pointer none,.pointer none,.pointer none,.slice E cs.length G,M,.slice U (J9 (hs.take i)).length Z,.slice none 0 0] 60)::(lR++(N++(lH++[(pb,.cells #[.map (some mb)] 204),(mb,om)])))) wr) (fun Sk _=>hl.length-(intOf Sk).toNat)
      case atStart=>exact⟨0,0,none,[],lh,u_ _,by go_num,Zb _ _,av.out,aP.out⟩
      case round=>
       clear aP av;obtain⟨i,Z,U,lR,N,hi,rfl,an,a5,V⟩:=hrel
       by_cases bQ:i<hl.length
       · have bg:(i:Int)<(hl.length:Int):=O
         obtain⟨v,hv⟩:∃v,hs[i]?= some v:=⟨hs[i]'O,a_ _⟩;have bm:=aJ.out.2 v (by rw[←aJ.out.1];exact q_ hv);have aa:=aj.out wr _ (V.perm (l2:=lH++((y,.cells #[pt sb,pt rb,.pointer none,.pointer none,.pointer none,.slice E cs.length G,M,.slice U (J9 (hs.take i)).length Z,.slice none 0 0] 60)::(lR++(N++[(pb,.cells #[.map (some mb)] 204),(mb,om)])))) po);obtain⟨bw,ap,rfl,-⟩:=aa.form (by rw[G8];have:=(m_.1 hv).1;omega);have qv:=aa.cell64 hv;have c6:=MJ hs i
         by_cases aM:v=0
         · subst aM
           have aA:=uh (R1 hv);have HX:=uh (And.intro an (And.intro a5 V));clear hv aa an a5 V;have qv:wr.cell? (aD bw (ap+i))=some (uV 0):=qv
           go_wp2_with fail
           refine(AQ wr hb).mono ?_;rintro e w8 ⟨rfl,hw⟩;rw[hw];clear hw w8 qv
           go_wp2_with fail
           go_roundw
           case rel=>exact⟨i+1,Z,U,lR,N,by omega,by go_num,by rw[aA.out];exact HX.out.1,by rw[aA.out];exact HX.out.2.1,by rw[aA.out];exact HX.out.2.2⟩
           case measure=>simp[intOf];omega
         · have a8:=uh (fun u Y (V:Turn [] w3 (lH++Y) u)=>(aj.out u Y V).cell64 hv)
           have a7:=uh (R2 hv aM);have h0:∀x∈J9 (hs.take i),x≠0:=fun x hx=>(Nh x hx).1;obtain⟨rs,aH⟩:∃rs,rs=J9 (hs.take i):=⟨_,rfl⟩;rw[←aH]at an a5 V a7 h0 c6;have aT:rs.length+1 <= maxLen:=by unfold maxLen;omega
           have bc:=ZX wr (b:=hb) (S:=Ss rs) (l:=N) (R:=(y,.cells #[pt sb,pt rb,.pointer none,.pointer none,.pointer none,.slice E cs.length G,M,.slice U rs.length Z,.slice none 0 0] 60)::(lR++(lH++[(pb,.cells #[.map (some mb)] 204),(mb,om)]))) a5 (V.has.perm po) (v:Int) O (fun s hs=>by
            unfold Ss at hs;rcases s_.1 hs with hs|hs
            · obtain⟨a,-,rfl⟩:=U_.1 hs
              show(1:Nat)<_
              omega
            · rw[Zp hs]
              show(0:Nat)<_
              omega) rs.length GR (CW (g_ _) O) rfl (fun j t hj ht=>by
              obtain⟨a,ha⟩:∃a,rs[j]?= some a:=⟨rs[j],a_ hj⟩;rw[YG ha]at ht
              cases ht
              have:=h0 a (q_ ha)
              show(a:Int)≠0
              omega)
           have aY:=uh bc;have bz:=uh (V.perm (l2:=N++((y,.cells #[pt sb,pt rb,.pointer none,.pointer none,.pointer none,.slice E cs.length G,M,.slice U rs.length Z,.slice none 0 0] 60)::(lR++(lH++[(pb,.cells #[.map (some mb)] 204),(mb,om)])))) po);have aR:=uh an;have b8:=uh aH;clear hv aa an a5 V bc aH h0
           go_wp2_with fail
           refine aY.out.mono ?_;rintro e w8 ⟨rfl,a4,a5,T8⟩;have a5:JM hb (Ss (rs++[v])) a4:=by rw[←EK O];exact a5
           have av:=uh a5;have ab:=uh ((bz.out.trans T8).perm (l2:=(y,.cells #[pt sb,pt rb,.pointer none,.pointer none,.pointer none,.slice E cs.length G,M,.slice U rs.length Z,.slice none 0 0] 60)::(lR++(a4++(lH++[(pb,.cells #[.map (some mb)] 204),(mb,om)])))) po);clear aY T8 bz a5 qv
           go_upto_region 22 with fail
           have r:=a8.out _ _ ((ab.out.drew).perm (l2:=lH++((y,.cells #[pt sb,pt rb,.pointer none,.pointer none,.pointer none,.slice E cs.length G,M,.slice U rs.length Z,.slice none 0 0] 60)::(lR++(a4++[(pb,.cells #[.map (some mb)] 204),(mb,om)])))) po);have cX:=ab.out.drew.cell1 7;have HA:=uh (ab.out.drew.alloc (.cells #[uV (v:Nat)] 36));have a0:=a8.out _ _ (HA.out.perm (l2:=lH++((w8.drew.heap.size,.cells #[uV (v:Nat)] 36)::(y,.cells #[pt sb,pt rb,.pointer none,.pointer none,.pointer none,.slice E cs.length G,M,.slice U rs.length Z,.slice none 0 0] 60)::(lR++(a4++[(pb,.cells #[.map (some mb)] 204),(mb,om)])))) po);have cA:=HA.out.has.cell (b:=y) (c:=#[pt sb,pt rb,.pointer none,.pointer none,.pointer none,.slice E cs.length G,M,.slice U rs.length Z,.slice none 0 0]) (e:=60) (f:=(0,0)) (by simp) 7;clear ab;refine F_ ?_;refine rG (S:=fun u=>u.cell? (aD bw (ap+i))=some (uV (v:Nat))) 14 ?_;generalize w8.drew=u0 at*;refine G2 0 124 r ?_;refine G2 1 125 r ?_;refine G2 2 126 r ?_;refine G2 3 127 r ?_;refine G2 5 129 r ?_;refine G2 6 130 r ?_;refine G2 7 131 r ?_;refine Jt 8 132 r (fun w a6=>a6) ?_
           refine Zf (rs:=[4,9]) kr (by simp) (H_ rfl (fun K J=>?_) (H_ rfl (fun K J=>?_) Zd))
           · go_simp
             refine J.out _ _ r fun _=>?_;clear J K;simp only[Gb,G7,G6];refine G5 9 (fun K J=>?_)
             go_simp
             refine J.out _ _ a0 fun _=>?_;clear J K cX cA r a0;simp only[Gb,G7,G6];refine G5 10 (fun K J=>?_);refine Xc rfl _ _ rfl GF rfl aR.out (R:=(u0.heap.size,.cells #[uV (v:Nat)] 36)::(y,.cells #[pt sb,pt rb,.pointer none,.pointer none,.pointer none,.slice E cs.length G,M,.slice U rs.length Z,.slice none 0 0] 60)::(a4++(lH++[(pb,.cells #[.map (some mb)] 204),(mb,om)]))) (HA.out.perm po).has rfl (news:=[uV (v:Nat)]) rfl (Qy (A_ _ _)) (by simp[Value.oneCell']) aT O ?_;intro a9 p9 l9 w9 ag V9 aF;have K5:=((HA.out.perm po).trans V9).perm (l2:=(y,.cells #[pt sb,pt rb,.pointer none,.pointer none,.pointer none,.slice E cs.length G,M,.slice U rs.length Z,.slice none 0 0] 60)::(l9++((a4++(lH++[(pb,.cells #[.map (some mb)] 204),(mb,om)]))++[(u0.heap.size,.cells #[uV (v:Nat)] 36)]))) po;have aB:=uh ag;have aG:=K5.cell1 7;have aE:=K5.free1 7;have a1:=a8.out _ _ (K5.perm (l2:=lH++((y,.cells #[pt sb,pt rb,.pointer none,.pointer none,.pointer none,.slice E cs.length G,M,.slice U rs.length Z,.slice none 0 0] 60)::(l9++((a4++[(pb,.cells #[.map (some mb)] 204),(mb,om)])++[(u0.heap.size,.cells #[uV (v:Nat)] 36)])))) po)
             have K6:Turn [] w3 ((y,.cells #[pt sb,pt rb,.pointer none,.pointer none,.pointer none,.slice E cs.length G,M,.slice a9 (rs.length+1) p9,.slice none 0 0] 60)::(l9++((a4++(lH++[(pb,.cells #[.map (some mb)] 204),(mb,om)]))++[(u0.heap.size,.cells #[uV (v:Nat)] 36)]))) (w9.setCell (aD y 7) (.slice a9 (rs.length+1) p9)):=K5.setCell 7 (.slice a9 (rs.length+1) p9);have af:=a8.out _ _ (K6.perm (l2:=lH++((y,.cells #[pt sb,pt rb,.pointer none,.pointer none,.pointer none,.slice E cs.length G,M,.slice a9 (rs.length+1) p9,.slice none 0 0] 60)::(l9++((a4++[(pb,.cells #[.map (some mb)] 204),(mb,om)])++[(u0.heap.size,.cells #[uV (v:Nat)] 36)])))) po);have az:=uh K6;refine J.out _ _ a1 fun _=>?_;clear J K V9 aF ag HA K5 K6;simp only[Gb,G7,G6];refine G2 11 135 a1 ?_;refine G2 12 136 a1 ?_;refine G5 13 (fun K J=>?_)
             go_simp
             refine J.out _ _ af fun _=>?_;clear J K aG aE a1 af;simp only[Gb,G7,G6];refine P_ kr ?_ _;refine z_ ?_;generalize w9.setCell (aD y 7) (.slice a9 (rs.length+1) p9)=w7 at*
             go_wp2_with fail
             go_roundw
             case rel=>exact⟨i+1,p9,a9,l9,a4,by omega,by go_num,by rw[a7.out,e_,Ny];exact aB.out,by rw[a7.out];exact av.out,by rw[a7.out,e_];exact(az.out.perm (l2:=((y,.cells #[pt sb,pt rb,.pointer none,.pointer none,.pointer none,.slice E cs.length G,M,.slice a9 (rs.length+1) p9,.slice none 0 0] 60)::(l9++(a4++(lH++[(pb,.cells #[.map (some mb)] 204),(mb,om)]))))++[(u0.heap.size,.cells #[uV (v:Nat)] 36)]) po).sub (x_ ..)⟩
             case measure=>simp[intOf];omega
           · go_simp
             refine J.out _ _ a0 fun _=>?_;clear J K cX r;simp only[Gb,G7,G6];refine G5 4 (fun K J=>?_)
             go_simp
             refine J.out _ _ a0 fun _=>?_;clear J K cA a0;simp only[Gb,G7,G6];refine G5 10 (fun K J=>?_);refine Xc rfl _ _ rfl GF rfl aR.out (R:=(u0.heap.size,.cells #[uV (v:Nat)] 36)::(y,.cells #[pt sb,pt rb,.pointer none,.pointer none,.pointer none,.slice E cs.length G,M,.slice U rs.length Z,.slice none 0 0] 60)::(a4++(lH++[(pb,.cells #[.map (some mb)] 204),(mb,om)]))) (HA.out.perm po).has rfl (news:=[uV (v:Nat)]) rfl (Qy (A_ _ _)) (by simp[Value.oneCell']) aT O ?_;intro a9 p9 l9 w9 ag V9 aF;have K5:=((HA.out.perm po).trans V9).perm (l2:=(y,.cells #[pt sb,pt rb,.pointer none,.pointer none,.pointer none,.slice E cs.length G,M,.slice U rs.length Z,.slice none 0 0] 60)::(l9++((a4++(lH++[(pb,.cells #[.map (some mb)] 204),(mb,om)]))++[(u0.heap.size,.cells #[uV (v:Nat)] 36)]))) po;have aB:=uh ag;have aG:=K5.cell1 7;have aE:=K5.free1 7;have a1:=a8.out _ _ (K5.perm (l2:=lH++((y,.cells #[pt sb,pt rb,.pointer none,.pointer none,.pointer none,.slice E cs.length G,M,.slice U rs.length Z,.slice none 0 0] 60)::(l9++((a4++[(pb,.cells #[.map (some mb)] 204),(mb,om)])++[(u0.heap.size,.cells #[uV (v:Nat)] 36)])))) po)
             have K6:Turn [] w3 ((y,.cells #[pt sb,pt rb,.pointer none,.pointer none,.pointer none,.slice E cs.length G,M,.slice a9 (rs.length+1) p9,.slice none 0 0] 60)::(l9++((a4++(lH++[(pb,.cells #[.map (some mb)] 204),(mb,om)]))++[(u0.heap.size,.cells #[uV (v:Nat)] 36)]))) (w9.setCell (aD y 7) (.slice a9 (rs.length+1) p9)):=K5.setCell 7 (.slice a9 (rs.length+1) p9);have af:=a8.out _ _ (K6.perm (l2:=lH++((y,.cells #[pt sb,pt rb,.pointer none,.pointer none,.pointer none,.slice E cs.length G,M,.slice a9 (rs.length+1) p9,.slice none 0 0] 60)::(l9++((a4++[(pb,.cells #[.map (some mb)] 204),(mb,om)])++[(u0.heap.size,.cells #[uV (v:Nat)] 36)])))) po);have az:=uh K6;refine J.out _ _ a1 fun _=>?_;clear J K V9 aF ag HA K5 K6;simp only[Gb,G7,G6];refine G2 11 135 a1 ?_;refine G2 12 136 a1 ?_;refine G5 13 (fun K J=>?_)
             go_simp
             refine J.out _ _ af fun _=>?_;clear J K aG aE a1 af;simp only[Gb,G7,G6];refine P_ kr ?_ _;refine z_ ?_;generalize w9.setCell (aD y 7) (.slice a9 (rs.length+1) p9)=w7 at*
             go_wp2_with fail
             go_roundw
             case rel=>exact⟨i+1,p9,a9,l9,a4,by omega,by go_num,by rw[a7.out,e_,Ny];exact aB.out,by rw[a7.out];exact av.out,by rw[a7.out,e_];exact(az.out.perm (l2:=((y,.cells #[pt sb,pt rb,.pointer none,.pointer none,.pointer none,.slice E cs.length G,M,.slice a9 (rs.length+1) p9,.slice none 0 0] 60)::(l9++(a4++(lH++[(pb,.cells #[.map (some mb)] 204),(mb,om)]))))++[(u0.heap.size,.cells #[uV (v:Nat)] 36)]) po).sub (x_ ..)⟩
             case measure=>simp[intOf];omega
       · obtain rfl:i=hl.length:=O
         have bT:¬((hl.length:Nat):Int)<(hl.length:Int):=O;rw[←aU,D_]at an a5 V;have cq:(J9 hs).length <= 60:=(by have:=MJ hs hs.length;rw[D_]at this;omega);obtain⟨rs,aH⟩:∃rs,rs=J9 hs:=⟨_,rfl⟩;rw[←aH]at an a5 V cq;have b8:=uh (fun x (hx:x∈rs)=>(by rw[aH]at hx;obtain⟨h1,h2⟩:=Nh x hx;exact⟨h1,aJ.out.2 x (by rw[←aJ.out.1];exact h2)⟩:x≠0 /\ x<18446744073709551616));have bD:=uh an;have av:=uh a5;have V6:Turn [] w3 ((y,.cells #[pt sb,pt rb,.pointer none,.pointer none,.pointer none,.slice E cs.length G,M,.slice U rs.length Z,.slice none 0 0] 60)::(lR++(N++[(pb,.cells #[.map (some mb)] 204),(mb,om)]))) wr:=(V.perm (l2:=lH++((y,.cells #[pt sb,pt rb,.pointer none,.pointer none,.pointer none,.slice E cs.length G,M,.slice U rs.length Z,.slice none 0 0] 60)::(lR++(N++[(pb,.cells #[.map (some mb)] 204),(mb,om)])))) po).drop;clear V an a5 aH aj c2 aJ aU
         go_upto_region 23 with fail
         have r:wr.drew.cell? (aD y 5)=some (.slice E cs.length G) /\ wr.drew.cell? (aD w.heap.size 5)=some (.slice pa pl.length pc):=⟨V6.drew.cell1 5,HC.out _ _ V6.drew 5 _ rfl⟩;have HV:=uh V6.drew;clear V6;refine F_ ?_;refine rG (S:=fun u=>u.cell? (aD y 5)=some (.slice E cs.length G) /\ u.cell? (aD w.heap.size 5)=some (.slice pa pl.length pc)) 8 ?_;generalize wr.drew=u0 at*;refine G2 0 137 r ?_;refine G2 1 138 r ?_;refine G2 2 139 r ?_;refine Jt 3 140 r (fun w a6=>a6.1) ?_;refine G2 4 141 r ?_;refine Jt 5 142 r (fun w a6=>a6.2) ?_;refine G5 6 (fun K J=>?_)
         go_simp
         refine(Sy u0 cs E pa G pc pl (HL.out _ _ HV.out) (c9.out _ (b5.out _ _ HV.out)) bd cn aQ.out bC.out).mono ?_;rintro e u1 ⟨cx,cz,lN,rfl,ay,TW⟩;have a0:=And.intro ((TW.below.cell (p:=(aD y 5)) (c_ _ _ r.1)).trans r.1) ((TW.below.cell (p:=(aD w.heap.size 5)) (c_ _ _ r.2)).trans r.2);have V1:=HV.out.grow TW;have ae:=uh ay;clear ay TW r HV;refine J.out _ _ a0 fun _=>?_;clear J K;simp only[Gb,G7,G6];refine G2 7 18 a0 ?_;refine P_ kr ?_ _;refine z_ ?_;clear a0;rw[←aK.out.1]at ae;have aP:=uh (V1.perm (l2:=(y,.cells #[pt sb,pt rb,.pointer none,.pointer none,.pointer none,.slice E cs.length G,M,.slice U rs.length Z,.slice none 0 0] 60)::([]++((mb,om)::(pb,.cells #[.map (some mb)] 204)::(lR++(N++lN))))) po);clear V1;have aj:=uh (fun u Y (V:Turn [] w3 (lN++Y) u)=>ae.out.src (R:=Y) V.has);clear ae
         go_wp2_with fail
         have ax:=b6.out.2.2
         go_loopw [19] (fun bp wr=>∃(i a3:Nat) (a2:Option Addr) (m:List (Int×Value)) (o:Obj) (lP:List Blk),i <= pl.length /\ bp=iV i /\ Kt .u64 m o /\ PinsOk m (J9 (ps.take i)) /\ Gh 36 1 a2 (J9 (ps.take i)).length a3 (Gf (J9 (ps.take i))) lP /\ Turn [] w3 ((y,.cells #[pt sb,pt rb,.pointer none,.pointer none,.pointer none,.slice E cs.length G,M,.slice U rs.length Z,.slice a2 (J9 (ps.take i)).length a3] 60)::(lP++((mb,o)::(pb,.cells #[.map (some mb)] 204)::(lR++(N++lN))))) wr) (fun bp _=>pl.length-(intOf bp).toNat)
         case atStart=>exact⟨0,0,none,[],om,[],u_ _,by go_num,br.out,PinsOk.nil,Zb _ _,aP.out⟩
         case round=>
          clear aP br;obtain⟨i,a3,a2,m,o,lP,hi,rfl,ak,ah,am,V⟩:=hrel;have bj:=MJ ps i
          by_cases bQ:i<pl.length
          · have bg:(i:Int)<(pl.length:Int):=O
            obtain⟨v,hv⟩:∃v,ps[i]?= some v:=⟨ps[i]'O,a_ _⟩;have bm:=aK.out.2 v (by rw[←aK.out.1];exact q_ hv);have aa:=aj.out wr _ (V.perm (l2:=lN++((y,.cells #[pt sb,pt rb,.pointer none,.pointer none,.pointer none,.slice E cs.length G,M,.slice U rs.length Z,.slice a2 (J9 (ps.take i)).length a3] 60)::(lP++((mb,o)::(pb,.cells #[.map (some mb)] 204)::(lR++N))))) po);obtain⟨bw,ap,rfl,-⟩:=aa.form (by rw[G8];have:=(m_.1 hv).1;omega);have qv:=aa.cell64 hv
            by_cases aM:v=0
            · subst aM
              have aA:=uh (R1 hv);have HX:=uh (And.intro ak (And.intro ah (And.intro am V)));clear hv aa am ak ah V;have qv:wr.cell? (aD bw (ap+i))=some (uV 0):=qv
              go_wp2_with fail
              refine(Au wr pb).mono ?_;rintro e w8 ⟨rfl,hw⟩;rw[hw];clear hw w8 qv
              go_wp2_with fail
              go_roundw
              case rel=>exact⟨i+1,a3,a2,m,o,lP,by omega,by go_num,HX.out.1,by rw[aA.out];exact HX.out.2.1,by rw[aA.out];exact HX.out.2.2.1,by rw[aA.out];exact HX.out.2.2.2⟩
              case measure=>simp[intOf];omega
            · have a8:=uh (fun u Y (V:Turn [] w3 (lN++Y) u)=>(aj.out u Y V).cell64 hv)
              have a7:=uh (R2 hv aM);have cp:(J9 (ps.take i)).length <= 60:=O;have cu:=ah.len;have aW:=uh (jA wr pb mb o m ak (ah.pv O) O (V.perm (l2:=(mb,o)::(pb,.cells #[.map (some mb)] 204)::((y,.cells #[pt sb,pt rb,.pointer none,.pointer none,.pointer none,.slice E cs.length G,M,.slice U rs.length Z,.slice a2 (J9 (ps.take i)).length a3] 60)::(lP++(lR++(N++lN))))) po) v aM);have b2:=uh (fun c=>ah.put (k:=v) (c:=c) bm);obtain⟨qs,aL⟩:∃qs,qs=J9 (ps.take i):=⟨_,rfl⟩;rw[←aL]at am a7 cp bj aW b2;have aT:qs.length+1 <= maxLen:=(by unfold maxLen;omega);have aR:=uh am;clear hv aa am ak V ah aL
              go_wp2_with fail
              refine aW.out.mono ?_;rintro e w8 ⟨rfl,c,o9,h1,h2,h3,bR,V8⟩;have bq:=uh bR;have b3:=uh (b2.out c h1 h2 h3);have ab:=uh (V8.perm (l2:=(y,.cells #[pt sb,pt rb,.pointer none,.pointer none,.pointer none,.slice E cs.length G,M,.slice U rs.length Z,.slice a2 qs.length a3] 60)::(lP++((mb,o9)::(pb,.cells #[.map (some mb)] 204)::(lR++(N++lN))))) po);clear aW b2 V8 h1 h2 h3 bR qv
              go_upto_region 28 with fail
              have r:=a8.out _ _ ((ab.out.drew).perm (l2:=lN++((y,.cells #[pt sb,pt rb,.pointer none,.pointer none,.pointer none,.slice E cs.length G,M,.slice U rs.length Z,.slice a2 qs.length a3] 60)::(lP++((mb,o9)::(pb,.cells #[.map (some mb)] 204)::(lR++N))))) po);have cX:=ab.out.drew.cell1 8;have HA:=uh (ab.out.drew.alloc (.cells #[uV (v:Nat)] 36));have a0:=a8.out _ _ (HA.out.perm (l2:=lN++((w8.drew.heap.size,.cells #[uV (v:Nat)] 36)::(y,.cells #[pt sb,pt rb,.pointer none,.pointer none,.pointer none,.slice E cs.length G,M,.slice U rs.length Z,.slice a2 qs.length a3] 60)::(lP++((mb,o9)::(pb,.cells #[.map (some mb)] 204)::(lR++N))))) po);have cA:=HA.out.has.cell (b:=y) (c:=#[pt sb,pt rb,.pointer none,.pointer none,.pointer none,.slice E cs.length G,M,.slice U rs.length Z,.slice a2 qs.length a3]) (e:=60) (f:=(0,0)) (by simp) 8;clear ab;refine F_ ?_;refine rG (S:=fun u=>u.cell? (aD bw (ap+i))=some (uV (v:Nat))) 14 ?_;generalize w8.drew=u0 at*;refine G2 0 157 r ?_;refine G2 1 158 r ?_;refine G2 2 159 r ?_;refine G2 3 160 r ?_;refine G2 5 162 r ?_;refine G2 6 163 r ?_;refine G2 7 164 r ?_;refine Jt 8 165 r (fun w a6=>a6) ?_
              refine Zf (rs:=[4,9]) kr (by simp) (H_ rfl (fun K J=>?_) (H_ rfl (fun K J=>?_) Zd))
              · go_simp
                refine J.out _ _ r fun _=>?_;clear J K;simp only[Gb,G7,G6];refine G5 9 (fun K J=>?_)
                go_simp
                refine J.out _ _ a0 fun _=>?_;clear J K cX cA r a0;simp only[Gb,G7,G6];refine G5 10 (fun K J=>?_);refine Xc rfl _ _ rfl GF rfl aR.out (R:=(u0.heap.size,.cells #[uV (v:Nat)] 36)::(y,.cells #[pt sb,pt rb,.pointer none,.pointer none,.pointer none,.slice E cs.length G,M,.slice U rs.length Z,.slice a2 qs.length a3] 60)::((mb,o9)::(pb,.cells #[.map (some mb)] 204)::(lR++(N++lN)))) (HA.out.perm po).has rfl (news:=[uV (v:Nat)]) rfl (Qy (A_ _ _)) (by simp[Value.oneCell']) aT O ?_;intro a9 p9 l9 w9 ag V9 aF;have K5:=((HA.out.perm po).trans V9).perm (l2:=(y,.cells #[pt sb,pt rb,.pointer none,.pointer none,.pointer none,.slice E cs.length G,M,.slice U rs.length Z,.slice a2 qs.length a3] 60)::(l9++(((mb,o9)::(pb,.cells #[.map (some mb)] 204)::(lR++(N++lN)))++[(u0.heap.size,.cells #[uV (v:Nat)] 36)]))) po;have aB:=uh ag;have aG:=K5.cell1 8;have aE:=K5.free1 8;have a1:=a8.out _ _ (K5.perm (l2:=lN++((y,.cells #[pt sb,pt rb,.pointer none,.pointer none,.pointer none,.slice E cs.length G,M,.slice U rs.length Z,.slice a2 qs.length a3] 60)::(l9++(((mb,o9)::(pb,.cells #[.map (some mb)] 204)::(lR++N))++[(u0.heap.size,.cells #[uV (v:Nat)] 36)])))) po)
                have K6:Turn [] w3 ((y,.cells #[pt sb,pt rb,.pointer none,.pointer none,.pointer none,.slice E cs.length G,M,.slice U rs.length Z,.slice a9 (qs.length+1) p9] 60)::(l9++(((mb,o9)::(pb,.cells #[.map (some mb)] 204)::(lR++(N++lN)))++[(u0.heap.size,.cells #[uV (v:Nat)] 36)]))) (w9.setCell (aD y 8) (.slice a9 (qs.length+1) p9)):=K5.setCell 8 (.slice a9 (qs.length+1) p9);have af:=a8.out _ _ (K6.perm (l2:=lN++((y,.cells #[pt sb,pt rb,.pointer none,.pointer none,.pointer none,.slice E cs.length G,M,.slice U rs.length Z,.slice a9 (qs.length+1) p9] 60)::(l9++(((mb,o9)::(pb,.cells #[.map (some mb)] 204)::(lR++N))++[(u0.heap.size,.cells #[uV (v:Nat)] 36)])))) po);have az:=uh K6;refine J.out _ _ a1 fun _=>?_;clear J K V9 aF ag HA K5 K6;simp only[Gb,G7,G6];refine G2 11 168 a1 ?_;refine G2 12 169 a1 ?_;refine G5 13 (fun K J=>?_)
                go_simp
                refine J.out _ _ af fun _=>?_;clear J K aG aE a1 af;simp only[Gb,G7,G6];refine P_ kr ?_ _;refine z_ ?_;generalize w9.setCell (aD y 8) (.slice a9 (qs.length+1) p9)=w7 at*
                go_wp2_with fail
                go_roundw
                case rel=>exact⟨i+1,p9,a9,_,o9,l9,by omega,by go_num,bq.out,by rw[a7.out];exact b3.out,by rw[a7.out,e_,Ny];exact aB.out,by rw[a7.out,e_];exact(az.out.perm (l2:=((y,.cells #[pt sb,pt rb,.pointer none,.pointer none,.pointer none,.slice E cs.length G,M,.slice U rs.length Z,.slice a9 (qs.length+1) p9] 60)::(l9++((mb,o9)::(pb,.cells #[.map (some mb)] 204)::(lR++(N++lN)))))++[(u0.heap.size,.cells #[uV (v:Nat)] 36)]) po).sub (x_ ..)⟩
                case measure=>simp[intOf];omega
              · go_simp
                refine J.out _ _ a0 fun _=>?_;clear J K cX r;simp only[Gb,G7,G6];refine G5 4 (fun K J=>?_)
                go_simp
                refine J.out _ _ a0 fun _=>?_;clear J K cA a0;simp only[Gb,G7,G6];refine G5 10 (fun K J=>?_);refine Xc rfl _ _ rfl GF rfl aR.out (R:=(u0.heap.size,.cells #[uV (v:Nat)] 36)::(y,.cells #[pt sb,pt rb,.pointer none,.pointer none,.pointer none,.slice E cs.length G,M,.slice U rs.length Z,.slice a2 qs.length a3] 60)::((mb,o9)::(pb,.cells #[.map (some mb)] 204)::(lR++(N++lN)))) (HA.out.perm po).has rfl (news:=[uV (v:Nat)]) rfl (Qy (A_ _ _)) (by simp[Value.oneCell']) aT O ?_;intro a9 p9 l9 w9 ag V9 aF;have K5:=((HA.out.perm po).trans V9).perm (l2:=(y,.cells #[pt sb,pt rb,.pointer none,.pointer none,.pointer none,.slice E cs.length G,M,.slice U rs.length Z,.slice a2 qs.length a3] 60)::(l9++(((mb,o9)::(pb,.cells #[.map (some mb)] 204)::(lR++(N++lN)))++[(u0.heap.size,.cells #[uV (v:Nat)] 36)]))) po;have aB:=uh ag;have aG:=K5.cell1 8;have aE:=K5.free1 8;have a1:=a8.out _ _ (K5.perm (l2:=lN++((y,.cells #[pt sb,pt rb,.pointer none,.pointer none,.pointer none,.slice E cs.length G,M,.slice U rs.length Z,.slice a2 qs.length a3] 60)::(l9++(((mb,o9)::(pb,.cells #[.map (some mb)] 204)::(lR++N))++[(u0.heap.size,.cells #[uV (v:Nat)] 36)])))) po)
                have K6:Turn [] w3 ((y,.cells #[pt sb,pt rb,.pointer none,.pointer none,.pointer none,.slice E cs.length G,M,.slice U rs.length Z,.slice a9 (qs.length+1) p9] 60)::(l9++(((mb,o9)::(pb,.cells #[.map (some mb)] 204)::(lR++(N++lN)))++[(u0.heap.size,.cells #[uV (v:Nat)] 36)]))) (w9.setCell (aD y 8) (.slice a9 (qs.length+1) p9)):=K5.setCell 8 (.slice a9 (qs.length+1) p9);have af:=a8.out _ _ (K6.perm (l2:=lN++((y,.cells #[pt sb,pt rb,.pointer none,.pointer none,.pointer none,.slice E cs.length G,M,.slice U rs.length Z,.slice a9 (qs.length+1) p9] 60)::(l9++(((mb,o9)::(pb,.cells #[.map (some mb)] 204)::(lR++N))++[(u0.heap.size,.cells #[uV (v:Nat)] 36)])))) po);have az:=uh K6;refine J.out _ _ a1 fun _=>?_;clear J K V9 aF ag HA K5 K6;simp only[Gb,G7,G6];refine G2 11 168 a1 ?_;refine G2 12 169 a1 ?_;refine G5 13 (fun K J=>?_)
                go_simp
                refine J.out _ _ af fun _=>?_;clear J K aG aE a1 af;simp only[Gb,G7,G6];refine P_ kr ?_ _;refine z_ ?_;generalize w9.setCell (aD y 8) (.slice a9 (qs.length+1) p9)=w7 at*
                go_wp2_with fail
                go_roundw
                case rel=>exact⟨i+1,p9,a9,_,o9,l9,by omega,by go_num,bq.out,by rw[a7.out];exact b3.out,by rw[a7.out,e_,Ny];exact aB.out,by rw[a7.out,e_];exact(az.out.perm (l2:=((y,.cells #[pt sb,pt rb,.pointer none,.pointer none,.pointer none,.slice E cs.length G,M,.slice U rs.length Z,.slice a9 (qs.length+1) p9] 60)::(l9++((mb,o9)::(pb,.cells #[.map (some mb)] 204)::(lR++(N++lN)))))++[(u0.heap.size,.cells #[uV (v:Nat)] 36)]) po).sub (x_ ..)⟩
                case measure=>simp[intOf];omega
          · obtain rfl:i=pl.length:=O
            have bT:¬((pl.length:Nat):Int)<(pl.length:Int):=O;rw[←ax,D_]at am ah V bj;obtain⟨qs,aL⟩:∃qs,qs=J9 ps:=⟨_,rfl⟩;rw[←aL]at am ah V bj;have cd:=uh (fun x (hx:x∈qs)=>(by rw[aL]at hx;obtain⟨h1,h2⟩:=Nh x hx;exact⟨h1,aK.out.2 x (by rw[←aK.out.1];exact h2)⟩:x≠0 /\ x<18446744073709551616));have HX:=uh (And.intro ak (And.intro ah am));have V6:Turn [] w3 ((y,.cells #[pt sb,pt rb,.pointer none,.pointer none,.pointer none,.slice E cs.length G,M,.slice U rs.length Z,.slice a2 qs.length a3] 60)::(lP++((mb,o)::(pb,.cells #[.map (some mb)] 204)::(lR++N)))) wr:=(V.perm (l2:=lN++((y,.cells #[pt sb,pt rb,.pointer none,.pointer none,.pointer none,.slice E cs.length G,M,.slice U rs.length Z,.slice a2 qs.length a3] 60)::(lP++((mb,o)::(pb,.cells #[.map (some mb)] 204)::(lR++N))))) po).drop;clear V am ak ah aL aj aK;have q2:=V6.cell1 2;have f2:=V6.free1 2;have bv:=uh V6;clear V6
            go_upto_region 30 with fail
            have V7:=bv.out.setCell 2 (pt ac);have q3:=V7.cell1 3;have f3:=V7.free1 3;have bx:=uh V7;clear V7 bv q2 f2;generalize wr.setCell (aD y 2) (pt ac)=y1 at*
            go_upto_region 31 with fail
            have V8:=bx.out.setCell 3 (pt hb);have q4:=V8.cell1 4;have f4:=V8.free1 4;have ab:=uh V8;clear V8 bx q3 f3;generalize y1.setCell (aD y 3) (pt hb)=y2 at*
            go_upto_region 32 with fail
            have V9:Turn [] w3 ((y,.cells #[pt sb,pt rb,pt ac,pt hb,pt pb,.slice E cs.length G,M,.slice U rs.length Z,.slice a2 qs.length a3] 60)::(lP++((mb,o)::(pb,.cells #[.map (some mb)] 204)::(lR++N)))) (y2.setCell (aD y 4) (pt pb)):=ab.out.setCell 4 (pt pb);clear ab q4 f4;generalize y2.setCell (aD y 4) (pt pb)=y3 at*;have aS:=V9.drew;clear V9;refine F_ ?_;refine rG (S:=fun u=>u.cell? (aD y 7)=some (.slice U rs.length Z)) 10 ?_;generalize y3.drew=u0 at*;have r:=aS.cell1 7;have bU:=av.out.pointed (R:=((y,.cells #[pt sb,pt rb,pt ac,pt hb,pt pb,.slice E cs.length G,M,.slice U rs.length Z,.slice a2 qs.length a3] 60)::(lP++((mb,o)::(pb,.cells #[.map (some mb)] 204)::lR)))) (aS.has.perm po)
            have bk:=Mf u0 _ (Ss rs) (by rw[SG O];omega) (fun s hs=>(by
             unfold Ss at hs;rcases s_.1 hs with hs|hs
             · obtain⟨a,-,rfl⟩:=U_.1 hs
               exact Yb _
             · rw[Zp hs]
               exact Int.le_refl _)) bU u0 (T_ _ _)
            rw[CV O (fun a ha=>(b8.out a ha).1)]at bk;have bE:=uh bk;have bF:=uh (fun u Y (V:Turn [] u0 Y u)=>(bD.out.src (R:=((y,.cells #[pt sb,pt rb,pt ac,pt hb,pt pb,.slice E cs.length G,M,.slice U rs.length Z,.slice a2 qs.length a3] 60)::(lP++((mb,o)::(pb,.cells #[.map (some mb)] 204)::N)))) (aS.has.perm po)).below V.below);have HV:=uh aS;clear aS bU bk;refine G2 0 182 r ?_;refine G2 1 183 r ?_;refine G2 3 185 r ?_;refine G2 4 186 r ?_;refine G2 5 187 r ?_;refine Jt 6 188 r (fun w a6=>a6) ?_;refine G5 2 (fun K J=>?_)
            go_simp
            refine bE.out.mono ?_;rintro e u1 ⟨xa,xc,lx,rfl,bX,Tx⟩;have a0:=(Tx.below.cell (p:=(aD y 7)) (c_ _ _ r)).trans r;have bG:=uh (Pf u1 rs rs xa xc U Z (bX.src (R:=[]) (by rw[p_];exact Tx.has)) (bF.out u1 _ Tx) O O);have bu:=uh (HV.out.call Tx.below);clear bX Tx bE bF HV r;refine J.out _ _ a0 fun _=>?_;clear J K;simp only[Gb,G7,G6];refine G5 7 (fun K J=>?_)
            go_simp
            refine bG.out.mono ?_;rintro e u2 ⟨rfl,b9⟩;have a1:=(b9.cell (p:=(aD y 7)) (c_ _ _ a0)).trans a0;have bL:decide (rs=rs)=true:=k_ rfl;rw[bL];have ca:=uh (bu.out.call b9);clear b9 bG bu a0 bL;refine J.out _ _ a1 fun _=>?_;clear J K;simp only[Gb,G7,G6];refine G2 8 2 a1 ?_;refine G2 9 3 a1 ?_;refine P_ kr ?_ _;refine z_ ?_;clear a1
            go_wp2_with fail
            refine f_ (E_ rfl _ _ _) rfl ?_;obtain⟨aV,ls,lr,cj,ch,-,T⟩:=cb.out;refine .inr ⟨y,sb,tb,rb,hb,pb,mb,w1,W,B,cs,rs,qs,m,rfl,au.out.trans (b0.out.mono au.out.size),Hb.out,bB.out,by omega,b8.out,by omega,cd.out,HX.out.2.1,?_⟩;exact⟨pt ac,M,E,U,a2,G,Z,a3,N,lL,lR,lP,ls,lr,o,cj,ch,av.out,HX.out.1,aV,bD.out,HX.out.2.2,(T.grow ca.out).perm po⟩
def JA (w1 w:World)(sb tb rb hd wb pb mb:Nat)(lao:Option Addr)(lcap:Nat)(L:List Ty)(W B Wr:List Nat)(rs:List Nat)(S:List Slot)(m:List (Int×Value))(X:List Blk):Prop:=
 ∃(ls lr lh lw:List Blk) (om:Obj),DA sb tb W B ls /\ Ks rb lao L.length lcap Wr lr /\ JM hd (Ss rs) lh /\ Js wb S lw /\ Kt .u64 m om /\
  Turn [] w1 (ls++(lr++(lh++(lw++((mb,om)::(pb,.cells #[.map (some mb)] 204)::X))))) w
section
variable {w1 w:World} {sb tb rb hd wb pb mb:Nat} {lao:Option Addr} {lcap:Nat} {L:List Ty} {W B Wr:List Nat} {rs:List Nat} {S:List Slot} {m:List (Int×Value)} {X:List Blk}
theorem JA.call {w':World}(h:JA w1 w sb tb rb hd wb pb mb lao lcap L W B Wr rs S m X)(G:Below w.heap.size w w'):JA w1 w' sb tb rb hd wb pb mb lao lcap L W B Wr rs S m X:=by
 obtain⟨N,M,J,U,V,h1,h2,r,y,E,T⟩:=h;exact⟨N,M,J,U,V,h1,h2,r,y,E,T.call G⟩
theorem JA.drew (h:JA w1 w sb tb rb hd wb pb mb lao lcap L W B Wr rs S m X):JA w1 w.drew sb tb rb hd wb pb mb lao lcap L W B Wr rs S m X:=by
 obtain⟨M,J,G,N,U,h1,h2,r,y,E,T⟩:=h;exact⟨M,J,G,N,U,h1,h2,r,y,E,T.drew⟩
theorem JA.below (h:JA w1 w sb tb rb hd wb pb mb lao lcap L W B Wr rs S m X):Below w1.heap.size w1 w:=by
 obtain⟨M,J,G,N,U,h1,h2,r,y,E,T⟩:=h;exact T.below
theorem JA.has (h:JA w1 w sb tb rb hd wb pb mb lao lcap L W B Wr rs S m X):Has w X:=by
 obtain⟨M,J,G,N,U,h1,h2,r,y,E,T⟩:=h;exact T.drop.drop.drop.drop.tail.tail.has
theorem JA.grow {w':World}{Z:List Blk}(h:JA w1 w sb tb rb hd wb pb mb lao lcap L W B Wr rs S m X)(r:Turn [] w Z w'):JA w1 w' sb tb rb hd wb pb mb lao lcap L W B Wr rs S m (Z++X):=by
 obtain⟨N,M,J,U,V,h1,h2,y,E,G,T⟩:=h;exact⟨N,M,J,U,V,h1,h2,y,E,G,(T.grow r).perm po⟩
theorem JA.sub {Y:List Blk}(h:JA w1 w sb tb rb hd wb pb mb lao lcap L W B Wr rs S m X)(s:Y.Sublist X):JA w1 w sb tb rb hd wb pb mb lao lcap L W B Wr rs S m Y:=by
 obtain⟨M,J,G,N,U,h1,h2,r,y,E,T⟩:=h;exact⟨M,J,G,N,U,h1,h2,r,y,E,T.sub ((Xy _).append ((Xy _).append ((Xy _).append ((Xy _).append ((s.cons_cons _).cons_cons _)))))⟩
theorem JA.turn {w':World}{Y Z:List Blk}(h:JA w1 w sb tb rb hd wb pb mb lao lcap L W B Wr rs S m (Y++X))(N:Turn Y w Z w'):JA w1 w' sb tb rb hd wb pb mb lao lcap L W B Wr rs S m (Z++X):=by
 obtain⟨G,E,y,J,M,h1,h2,U,V,h5,T⟩:=h;have r:=T.perm (l2:=Y++(G++(E++(y++(J++((mb,M)::(pb,.cells #[.map (some mb)] 204)::X)))))) po;exact⟨G,E,y,J,M,h1,h2,U,V,h5,(r.trans (N.more r.has)).perm po⟩
theorem JA.pl (h:JA w1 w sb tb rb hd wb pb mb lao lcap L W B Wr rs S m X):Gm w1 w sb tb rb lao lcap L W B Wr []:=by
 obtain⟨E,y,N,U,V,h1,h2,G,J,M,T⟩:=h;exact⟨E,y,h1,h2,(fun x r=>by cases r),T.sub ((Xy _).append ((Xy _).append (List.nil_sublist _)))⟩
theorem UN {rs:List Nat}:∀s∈Ss rs,0 <= s.addr /\ s.given <= 1:=fun s r=>by
 unfold Ss at r;rcases s_.1 r with r|r
 · obtain⟨a,-,rfl⟩:=U_.1 r
   exact⟨Yb _,g_ _⟩
 · rw[Zp r]
   exact⟨Int.le_refl _,u_ _⟩
end
end
end Go.Proofs.YtoaofpohakaliaaGreatDoor
namespace Go.Proofs.YtoaofpohakaliaaGreatDoor
open Go Go.RowKit
structure WCells (w:World)(b g:Nat)(S:List Slot):Prop where
 c0:w.cell? (aD b 0)=some (.slice (some (aD g 0)) S.length S.length)
 at_:∀i s,S[i]?= some s -> w.cell? (aD g (i*3))=some (iV s.st) /\ w.cell? (aD g (i*3+1))=some (uV s.addr) /\ w.cell? (aD g (i*3+2))=some (uV s.given)
 free:∀i,w.frozen? (aD g i)=false
 ne:g≠b
theorem N4 {w:World}{b g:Nat}{S:List Slot}{r:Array Value}{R:List Blk}(M:r.toList=S.flatMap Slot.vals)
  (h:Has w ([(b,.cells #[.slice (some (aD g 0)) S.length S.length] 211),(g,.cells r 223)]++R)):WCells w b g S:=by
 have G:(g,Obj.cells r 223 (0,0))∈[(b,Obj.cells #[.slice (some (aD g 0)) S.length S.length] 211 (0,0)),(g,Obj.cells r 223 (0,0))]++R:=by simp
 have y:∀i s j,S[i]?= some s -> j<3 -> w.cell? (aD g (i*3+j))=s.vals[j]? :=by
  intro i s j E N;rw[h.cell G,←Zj,M,Nk Slot.vals_length S i j N,E]
  rfl
 have J:(b,Obj.cells #[.slice (some (aD g 0)) S.length S.length] 211 (0,0))∈[(b,Obj.cells #[.slice (some (aD g 0)) S.length S.length] 211 (0,0)),(g,Obj.cells r 223 (0,0))]++R:=by simp
 refine⟨h.cell J 0,fun i s E=>⟨y i s 0 E O,y i s 1 E O,y i s 2 E O⟩,fun i=>h.free G i,?_⟩;have:=h.nd;intro e;subst e;simp at this
theorem NV {r:Array Value}{S:List Slot}(E:r.toList=S.flatMap Slot.vals)(i j:Nat)(J:j<3)(s y:Slot)(v:Value)(G:S[i]?= some s)(M:y.vals=s.vals.set j v):
  (r.setIfInBounds (i*3+j) v).toList=(S.set i y).flatMap Slot.vals:=by
 rw[Array.toList_setIfInBounds,E,Se Slot.vals_length S i j J s y v G M]
section
variable {b:Nat} {S:List Slot} {l R:List Blk}
theorem VQ (w:World)(J:Js b S l)(G:Has w (l++R))(i:Nat)(s:Slot)(r:S[i]?= some s):
  Calls prog 106 #[pt b,iV i] w fun e w'=>e=.returned (uV (wh i s.given)) /\ w=w':=by
 obtain⟨y,g,U,rfl,M⟩:=J;have W:=N4 M G;have V:i<S.length:=(m_.1 r).1;have N:(i:Int)<(S.length:Int):=O;obtain⟨c0,at_,-,-⟩:=W;obtain⟨a0,a1,a2⟩:=at_ i s r;have E:=y.small s (q_ r);have hl:=y.len;have Z:=Cu s.given i E O;clear at_ r
 go_enter func106,ntmps106
 go_wp2
 go_ret;exact⟨rfl,rfl⟩
end
end Go.Proofs.YtoaofpohakaliaaGreatDoor
namespace Go.Proofs.YtoaofpohakaliaaGreatDoor
open Go Go.RowKit
def LC:Slot:=⟨0,0,0⟩
section
variable {b:Nat} {S:List Slot} {l R:List Blk}
theorem WP:Elem prog 209 223 3 24 (.agg #[iV 0,uV 0,uV 0]):=Jm underlying209 kr rfl
theorem Bz (w:World)(m:Nat)(hm:m <= 4096)(Z:Has w R):
  Calls prog 43 #[iV m] w fun e w'=>∃b l',e=.returned (.tuple #[pt b,iV 0]) /\ Js b (List.replicate m LC) l' /\ Turn R w (l'++R) w':=by
 obtain⟨i,M,V,G,E⟩:=WP.info;have N:=fun W:World=>JU (P:=prog) 209 223 i _ WP.ht M V .i64 .i64 m (by rw[E];omega) O W;rw[G]at N;have Kv:(madeCells (Value.agg #[iV 0,uV 0,uV 0]).cells (m*3)).toList=(List.replicate m LC).flatMap Slot.vals:=Nz Slot.vals_length O LC m;generalize madeCells (Value.agg #[iV 0,uV 0,uV 0]).cells (m*3)=y at*;have T:=((r_ Z).alloc (.cells y 223)).alloc (.cells #[.slice (some (aD w.heap.size 0)) m m] 211);have r:=uh Kv;clear M V G E Kv
 go_enter func43,ntmps43
 go_wp2
 go_ret2;rw[Y_]at T;have U:WkOk (List.replicate m LC):=⟨by simpa using hm,fun s J=>by rw[Zp J];exact(by decide),fun s J=>by rw[Zp J];exact(by decide)⟩;exact⟨w.heap.size+1,[(w.heap.size+1,.cells #[.slice (some (aD w.heap.size 0)) m m] 211),(w.heap.size,.cells y 223)],rfl,⟨U,w.heap.size,y,by simp,r.out⟩,T⟩
end
end Go.Proofs.YtoaofpohakaliaaGreatDoor
namespace Go.Proofs.YtoaofpohakaliaaGreatDoor
open Go Go.RowKit
section
variable {b:Nat} {S:List Slot} {l R:List Blk}
theorem Ur (w:World)(r:Has w R)(s:Slot):
  Calls prog 105 #[.agg #[iV s.st,uV s.addr,uV s.given]] w fun e w'=>e=.returned (.bool (decide (s.st=0))) /\ Turn R w R w':=by
 have T:=((r_ r).alloc (.cells #[iV s.st,uV s.addr,uV s.given] 223)).tail
 by_cases h:s.st=0
 · have hd:decide (s.st=0)=true:=by simpa using h
   rw[hd,h];rw[h]at T;clear h hd
   go_enter func105,ntmps105
   go_wp2
   go_ret;exact⟨rfl,T⟩
 · have hd:decide (s.st=0)=false:=by simpa using h
   have y:((s.st:Int) == 0)=false:=(by rw[j_];omega);rw[hd];clear h hd
   go_enter func105,ntmps105
   go_wp2
   go_ret;exact⟨rfl,T⟩
def F8 (S:List Slot)(r:Int):Prop:=
 (∃i s,r=(i:Nat) /\ S[i]?= some s /\ s.st=0 /\ ∀(j:Nat) (t:Slot),j<i -> S[j]?= some t -> t.st≠0)∨(r= -1 /\ ∀(j:Nat) (t:Slot),S[j]?= some t -> t.st≠0)
def Be (S:List Slot)(L:List Blk)(w:World)(e:Ending)(w':World):Prop:=∃r,e=.returned (iV r) /\ F8 S r /\ Turn L w L w'
theorem XJ (w:World){g:Nat}{y:Array Value}(hl:S.length <= 4096)(hc:y.toList=S.flatMap Slot.vals)
  (hH:Has w ([(b,.cells #[.slice (some (aD g 0)) S.length S.length] 211),(g,.cells y 223)]++R)):
  Calls prog 104 #[.slice (some (aD g 0)) S.length S.length,.func (.func 105) #[] #[]] w (Be S ([(b,.cells #[.slice (some (aD g 0)) S.length S.length] 211),(g,.cells y 223)]++R) w):=by
 generalize hL:[(b,Obj.cells #[.slice (some (aD g 0)) S.length S.length] 211 (0,0)),(g,Obj.cells y 223 (0,0))]++R=L at*;have HL:=uh hL;clear hL
 go_enter func104,ntmps104
 go_wp2_with fail
 go_loopw [8] (fun i wr=>∃k:Nat,k <= S.length /\ i=iV k /\ (∀(j:Nat) (t:Slot),j<k -> S[j]?= some t -> t.st≠0) /\ Turn L w L wr) (fun i _=>S.length-(intOf i).toNat)
 case atStart=>exact⟨0,u_ _,rfl,fun j t hj=>absurd hj (Jn _),r_ hH⟩
 case round=>
  obtain⟨k,hk,rfl,hb,T⟩:=hrel;have N:=uh hb;clear hb
  by_cases a4:k<S.length
  · have a5:(k:Int)<(S.length:Int):=O
    obtain⟨s,V⟩:∃s,S[k]?= some s:=⟨S[k]'a4,a_ _⟩;have W:=N4 (b:=b) (g:=g) (R:=R) hc (by rw[HL.out];exact T.has);obtain⟨c0,at_,fr,ne⟩:=W;obtain⟨a0,a1,a2⟩:=at_ k s V;have Z:=uh V;clear at_ fr V c0
    by_cases r:s.st=0
    · have hd:decide (s.st=0)=true:=by simpa using r
      have Hd:=uh hd;have E:=uh r;clear hd r
      go_wp2_with (go_at_call 105;refine(Ur _ T.has s).mono ?_;rintro e w1 ⟨rfl,U⟩;rw[Hd.out])
      go_ret;exact⟨_,rfl,Or.inl ⟨k,s,rfl,Z.out,E.out,N.out⟩,T.trans U⟩
    · have hd:decide (s.st=0)=false:=by simpa using r
      have Hd:=uh hd;have E:=uh r;clear hd r
      go_wp2_with (go_at_call 105;refine(Ur _ T.has s).mono ?_;rintro e w1 ⟨rfl,U⟩;rw[Hd.out])
      go_roundw
      case rel=>
       refine⟨k+1,by omega,by go_num,fun j t hj J=>?_,T.trans U⟩
       by_cases a3:j=k
       · subst a3
         have:=Z.out.symm.trans J
         cases this
         exact E.out
       ·exact N.out j t O J
      case measure=>simp[intOf];omega
  · have G:∀(j:Nat) (t:Slot),S[j]?= some t -> t.st≠0:=fun j t J=>N.out j t (by have:=(m_.1 J).1;omega) J
    have M:=uh G;clear G
    go_wp2
    go_ret;exact⟨_,rfl,Or.inr ⟨rfl,M.out⟩,T⟩
theorem We {r:Array Value}(J:r.toList=S.flatMap Slot.vals)(i:Nat)(s:Slot)(G:S[i]?= some s)(st:Nat)(a:Int)(g:Nat):
  (((r.setIfInBounds (i*3) (iV st)).setIfInBounds (i*3+1) (uV a)).setIfInBounds (i*3+2) (uV g)).toList=(S.set i ⟨st,a,g⟩).flatMap Slot.vals:=by
 have y:i<S.length:=(m_.1 G).1;have h1:=NV J i 0 O s { s with st:=st } (iV st) G rfl;have h2:=NV h1 i 1 O { s with st:=st } { s with st:=st,addr:=a } (uV a) (Xu y) rfl;rw[List.set_set]at h2;have E:=NV h2 i 2 O { s with st:=st,addr:=a } ⟨st,a,g⟩ (uV g) (Xu y) rfl;rw[List.set_set]at E;exact E
def F9 (b:Nat)(S:List Slot)(a:Int)(l R:List Blk)(w:World)(e:Ending)(w':World):Prop:=
 (∃i s l',S[i]?= some s /\ s.st=0 /\ (∀(j:Nat) (t:Slot),j<i -> S[j]?= some t -> t.st≠0) /\ e=.returned (.tuple #[uV (wh i (s.given+1)),iV 0]) /\ Js b (S.set i ⟨1,a,s.given+1⟩) l' /\ Turn (l++R) w (l'++R) w')∨
 ((∀(j:Nat) (t:Slot),S[j]?= some t -> t.st≠0) /\ e=.returned (.tuple #[uV 0,iV 4]) /\ Turn (l++R) w (l++R) w')
theorem BA (w:World)(hS:Js b S l)(hH:Has w (l++R))(a:Int)(ha:a≠0)(ab:∀s∈S,s.given<4294967294):
  Calls prog 47 #[pt b,uV a] w (F9 b S a l R w):=by
 obtain⟨a3,g,E,rfl,V⟩:=hS;have hl:=a3.len;have ae:(a == 0)=false:=by rw[j_];exact ha
 have W:=N4 V hH;obtain⟨c0,-,-,af⟩:=W;have N:=XJ w hl V hH;generalize hL:[(b,Obj.cells #[.slice (some (aD g 0)) S.length S.length] 211 (0,0)),(g,Obj.cells E 223 (0,0))]++R=L at*;have U:=uh hL;have a6:=uh N;clear hL N ha
 go_enter func47,ntmps47
 go_wp2_with fail
 refine a6.out.mono ?_;rintro e w1 ⟨r,rfl,hr,T1⟩;clear c0;have W:=N4 (b:=b) (g:=g) (R:=R) V (by rw[U.out];exact T1.has);obtain⟨c0,at_,G,-⟩:=W;rcases hr with⟨i,s,rfl,M,a4,y⟩|⟨rfl,J⟩
 · obtain⟨a0,a1,a2⟩:=at_ i s M
   have f0:=G (i*3);have f1:=G (i*3+1);have f2:=G (i*3+2);have aa:i<S.length:=(m_.1 M).1;have ac:(i:Int)<(S.length:Int):=O;have hg:=ab s (q_ M);have Hi:=uh M;have a8:=uh a4;have Hf:=uh y;clear at_ G M a4 y
   go_wp2_with fail
   go_region
   all_goals go_wp2_with fail
   all_goals
    have a9:=We V i s Hi.out 1 a (s.given+1);have T2:=T1.perm (l2:=(g,.cells E 223)::((b,.cells #[.slice (some (aD g 0)) S.length S.length] 211)::R)) (by rw[←U.out];exact Yh fun c=>by simp;omega);have T3:=(((T2.setCell (i*3) (iV 1)).setCell (i*3+1) (uV a)).setCell (i*3+2) (uV ((s.given:Int)+1))).drew;have T4:=T3.perm (l2:=[(b,.cells #[.slice (some (aD g 0)) S.length S.length] 211),(g,.cells (((E.setIfInBounds (i*3) (iV 1)).setIfInBounds (i*3+1) (uV a)).setIfInBounds (i*3+2) (uV ((s.given:Int)+1))) 223)]++R) po;have a7:WkOk (S.set i ⟨1,a,s.given+1⟩):=a3.set i _ (by show s.given+1<4294967295;omega) (by show 1 <= 2;omega);have Z:Js b (S.set i ⟨1,a,s.given+1⟩) [(b,.cells #[.slice (some (aD g 0)) S.length S.length] 211),(g,.cells (((E.setIfInBounds (i*3) (iV 1)).setIfInBounds (i*3+1) (uV a)).setIfInBounds (i*3+2) (uV ((s.given:Int)+1))) 223)]:=Js.mk' (n:=S.length) a7 (by simp) a9;refine(VQ _ Z T4.has i ⟨1,a,s.given+1⟩ (Xu aa)).mono ?_
    rintro e w2 ⟨rfl,rfl⟩
    go_wp2
    go_ret2;refine Or.inl ⟨i,s,_,Hi.out,a8.out,Hf.out,rfl,Z,?_⟩;rw[U.out];exact T4
 · have a5:=uh J
   clear at_ G J
   go_wp2
   go_ret2;refine Or.inr ⟨a5.out,rfl,?_⟩;rw[U.out];exact T1
end
end Go.Proofs.YtoaofpohakaliaaGreatDoor
namespace Go.Proofs.YtoaofpohakaliaaGreatDoor
open Go Go.RowKit
def Ua (I:Nat -> Nat -> World -> Prop)(N:Nat)(e:Ending)(w':World):Prop:=e=.returned (.tuple #[]) /\ ∃k,k <= N /\ I N k w'
section
variable {b:Nat} {S:List Slot} {l R:List Blk}
theorem WU (f:FuncId)(ef:∀args w,(callFunc f args).run prog w=.ok (.enter f args) w)(y:Array Value)(b g N:Nat)(hN:N <= 4096)(I:Nat -> Nat -> World -> Prop)
  (r:∀i k W,I i k W -> W.cell? (aD b 0)=some (.slice (some (aD g 0)) N N))
  (V:∀i k W,i<N -> I i k W -> ∃st:Nat,W.cell? (aD g (i*3))=some (iV st) /\ (st=0 -> I (i+1) k W) /\
    (st≠0 -> k <= i -> Calls prog f (#[iV k,iV i,.pointer (some (aD g (i*3)))]++y) W fun e W'=>e=.returned (.tuple #[]) /\ I (i+1) (k+1) W'))
  (w:World)(h0:I 0 0 w):
  Calls prog 120 #[pt b,.func (.func f) #[] y] w (Ua I N):=by
 have G:=uh r;have a1:=uh V;have c0:=r 0 0 w h0;clear r V
 go_enter func120,ntmps120
 go_wp2_with fail
 go_loopw [4,13] (fun kv iv wr=>∃k i:Nat,k <= i /\ i <= N /\ iv=iV i /\ kv=iV k /\ I i k wr) (fun _ iv _=>N-(intOf iv).toNat)
 case atStart=>exact⟨0,0,g_ _,u_ _,rfl,rfl,h0⟩
 case round=>
  clear c0 h0;obtain⟨k,i,M,a6,rfl,rfl,J⟩:=hrel
  by_cases a3:i<N
  · have a4:(i:Int)<(N:Int):=O
    have c0:=G.out i k wr J;obtain⟨st,hc,hz,U⟩:=a1.out i k wr a3 J;have Hz:=uh hz;have a0:=uh U;clear hz U J
    by_cases E:st=0
    · have Z:=uh E
      rw[E]at hc;clear E
      go_wp2
      go_roundw
      case rel=>exact⟨k,i+1,by omega,by omega,by go_num,rfl,Hz.out Z.out⟩
      case measure=>simp[intOf];omega
    · have hb:((st:Int) == 0)=false:=by rw[j_];omega
      have a5:((st:Int) != 0)=true:=(by rw[Qe];omega);have Z:=uh E;clear E
      go_wp2_with (go_at_fn f;refine(a0.out Z.out M).mono ?_;rintro e w' ⟨rfl,a2⟩)
      go_roundw
      case rel=>exact⟨k+1,i+1,by omega,by omega,by go_num,by go_num,a2⟩
      case measure=>simp[intOf];omega
  · obtain rfl:i=N:=O
    go_wp2
    go_end0;exact⟨rfl,k,M,J⟩
def cnt (S:List Slot):Nat:=(S.filter fun s=>s.st != 0).length
theorem Mp {k:Nat}{s:Slot}(h:S[k]?= some s)(r:s.st=0):cnt (S.take (k+1))=cnt (S.take k):=by
 rw[cnt,Qr,h];simp[cnt,r]
theorem Mq {k:Nat}{s:Slot}(h:S[k]?= some s)(r:s.st≠0):cnt (S.take (k+1))=cnt (S.take k)+1:=by
 rw[cnt,Qr,h];simp[cnt,r]
end
end Go.Proofs.YtoaofpohakaliaaGreatDoor
namespace Go.Proofs.YtoaofpohakaliaaGreatDoor
open Go Go.RowKit
def RM (ws:List Int):List Value:=ws.map (Value.int .u64)
theorem Us (r:List Int)(v:Int):RM (r++[v])=RM r++[uV v]:=by simp[RM]
theorem PQ:Elem prog 24 36 1 8 (uV 0):=Jm underlying24 kr rfl
def Lm (S:List Slot):List Int:=(S.filter fun s=>s.st != 0).map Slot.addr
theorem Sv {S:List Slot}{k:Nat}{s:Slot}(h:S[k]?= some s)(r:s.st=0):Lm (S.take (k+1))=Lm (S.take k):=by
 rw[Lm,Qr,h];simp[Lm,r]
theorem Sx {S:List Slot}{k:Nat}{s:Slot}(h:S[k]?= some s)(r:s.st≠0):Lm (S.take (k+1))=Lm (S.take k)++[s.addr]:=by
 rw[Lm,Qr,h];simp[Lm,r]
section
variable {b:Nat} {S:List Slot} {l R:List Blk}
abbrev Mk (B:Nat)(a:Option Addr)(n p:Nat):Blk:=(B,.cells #[.slice a n p] 24)
def X9 (B:Nat)(n:Nat)(xs:List Int)(v:Int)(L:List Blk)(w0:World)(e:Ending)(w':World):Prop:=
 e=.returned (.tuple #[]) /\ ∃a p lr,Gh 36 1 a (n+1) p (RM (xs++[v])) lr /\ Turn L w0 (Mk B a (n+1) p::(lr++L)) w'
theorem UZ (w0 w:World)(L:List Blk)(B:Nat)(a:Option Addr)(n p:Nat)(xs:List Int)(r:List Blk)(v:Int)(x y:Int)(g i:Nat)(hr:Gh 36 1 a n p (RM xs) r)(T:Turn L w0 (Mk B a n p::(r++L)) w)
  (hn:n <= 100000)(ha:w.cell? (aD g (i*3+1))=some (uV v)):
  Calls prog 122 #[iV x,iV y,.pointer (some (aD g (i*3))),pt B] w (X9 B n xs v L w0):=by
 have J:Mk B a n p∈Mk B a n p::(r++L):=d_ ..;have c0:=T.has.cell J 0;have f0:=T.has.free J 0;have a1:=T.has.lt (b:=B) (by simp);have a2:=World.new_ne w (aD B 0) c0;have a0:=World.new_ne w (aD g (i*3+1)) ha;have N:=((T.alloc (.cells #[uV v] 36)).drew).perm (l2:=r++((w.heap.size,.cells #[uV v] 36)::Mk B a n p::L)) po;have U:n+1 <= maxLen:=by unfold maxLen;omega
 have V:(n+1)*8 <= 140737488355328:=O;clear J
 go_enter func122,ntmps122
 go_wp2
 go_region_law ((refine Xc (by rfl) _ _ (by rfl) PQ (by rfl) hr N.has (by rfl) (news:=[uV v]) (by rfl) (Qy (A_ _ _)) (by simp[Value.oneCell']) U V ?_;intro G M l' w1 Z T1 a3;have E:=(N.trans T1).perm (l2:=Mk B a n p::((w.heap.size,.cells #[uV v] 36)::(l'++L))) po;have d0:=E.has.cell (b:=B) (d_ ..) 0;have e0:=E.has.free (b:=B) (d_ ..) 0))
 all_goals go_wp2
 all_goals
  go_end0;refine⟨rfl,G,M,l',by rw[Us];exact Z,?_⟩;exact(((E.setCell 0 (.slice G (n+1) M)).perm (l2:=(w.heap.size,.cells #[uV v] 36)::(Mk B G (n+1) M::(l'++L))) (Yh fun c=>by simp[Mk];omega)).tail)
def DD (S:List Slot)(L:List Blk)(w:World)(e:Ending)(w':World):Prop:=
 ∃a p lr,e=.returned (.slice a (cnt S) p) /\ Gh 36 1 a (cnt S) p (RM (Lm S)) lr /\ Turn L w (lr++L) w'
theorem Ad (w:World)(hS:Js b S l)(hH:Has w (l++R)):
  Calls prog 64 #[pt b] w (DD S (l++R) w):=by
 obtain⟨a5,g,a3,rfl,hc⟩:=hS;have hl:=a5.len;have T0:=(r_ hH).alloc (.cells #[.slice none 0 0] 24);have ef:=enters_of func122 kr rfl;generalize hL:[(b,Obj.cells #[.slice (some (aD g 0)) S.length S.length] 211 (0,0)),(g,Obj.cells a3 223 (0,0))]++R=L at*;have HL:=uh hL;clear hL
 have y:∀W:World,Turn L w (Mk w.heap.size none 0 0::L) W -> Calls prog 120 #[pt b,.func (.func 122) #[] #[pt w.heap.size]] W
   (Ua (fun i k W=>k=cnt (S.take i) /\ ∃a p r,Gh 36 1 a k p (RM (Lm (S.take i))) r /\ Turn L w (Mk w.heap.size a k p::(r++L)) W) S.length):=by
  intro W T;refine WU _ ef #[pt w.heap.size] b g S.length hl _ ?_ ?_ W ⟨rfl,none,0,[],Zb _ _,T⟩
  · rintro i k W ⟨-,a,p,r,-,T⟩
    exact(N4 (b:=b) (g:=g) (R:=R) hc (by rw[HL.out];exact T.tail.drop.has)).c0
  · rintro i k W hi ⟨Z,a,p,r,J,T⟩
    obtain⟨s,M⟩:∃s,S[i]?= some s:=⟨S[i]'hi,a_ _⟩;have Wc:=N4 (b:=b) (g:=g) (R:=R) hc (by rw[HL.out];exact T.tail.drop.has);obtain⟨a0,a1,a2⟩:=Wc.at_ i s M;refine⟨s.st,a0,fun E=>⟨by rw[Mp M E];exact Z,a,p,r,by rw[Sv M E];exact J,T⟩,fun E a9=>?_⟩;refine(UZ w W L w.heap.size a k p (Lm (S.take i)) r s.addr k i g i J T O a1).mono ?_;rintro e w' ⟨rfl,a',p',a7,a6,T'⟩;refine⟨rfl,by rw[Mq M E,Z],a',p',a7,by rw[Sx M E];exact a6,T'⟩
 have N:=uh y;clear y ef
 go_enter func64,ntmps64
 go_wp2_with fail
 refine(N.out _ T0).mono ?_;rintro e w1 ⟨rfl,k,Z,G,a,p,r,J,U⟩;rw[Xp (g_ _)]at G J;have a4:=U.has.cell (b:=w.heap.size) (d_ ..) 0;have a8:=U.has.free (b:=w.heap.size) (d_ ..) 0;have T2:=(U.setCell 0 (.slice a k p)).tail;have V:=uh G;clear G U
 go_wp2
 refine f_ (v:=.slice a k p) ?_ rfl ?_
 ·simp[results,results64,go_sem,a4]
 · refine⟨a,p,r,by rw[V.out],?_,T2⟩
   rw[←V.out];exact J
end
end Go.Proofs.YtoaofpohakaliaaGreatDoor
namespace Go.Proofs.YtoaofpohakaliaaGreatDoor
open Go Go.RowKit
section
variable {b:Nat} {S:List Slot} {l R:List Blk}
theorem DV (w:World)(hS:Js b S l)(hH:Has w (l++R))(a:Int)(ha:a≠0)(Z:∀s∈S,s.given<4294967294)(i:Nat)(s:Slot)(G:S[i]?= some s)(y:s.st=0)(hf:∀(j:Nat) (t:Slot),j<i -> S[j]?= some t -> t.st≠0):
  Calls prog 47 #[pt b,uV a] w fun e w'=>e=.returned (.tuple #[uV (wh i (s.given+1)),iV 0]) /\ ∃l',Js b (S.set i ⟨1,a,s.given+1⟩) l' /\ Turn (l++R) w (l'++R) w':=by
 refine(BA w hS hH a ha Z).mono ?_;rintro e w' (⟨M,s',l',r,J,U,rfl,N,T⟩|⟨E,-,-⟩)
 · have V:M=i:=by
     rcases Nat.lt_trichotomy M i with h|h|h
     ·exact absurd J (hf M s' h r)
     ·exact h
     ·exact absurd y (U i s h G)
   subst V;have a0:=G.symm.trans r
   cases a0
   exact⟨rfl,l',N,T⟩
 ·exact absurd y (E i s G)
end
end Go.Proofs.YtoaofpohakaliaaGreatDoor
namespace Go.Proofs.YtoaofpohakaliaaGreatDoor
section
open Go Go.RowKit
theorem EM:Elem prog 143 115 1 8 (uV 0):=Jm underlying143 kr rfl
def VP (S:List Slot)(k:Nat):List Int:=(List.range k).filterMap fun i=>match S[i]? with|some s=>if s.st=0 then none else some (wh i s.given)|none=>none
theorem SN {S:List Slot}{k:Nat}{s:Slot}(h:S[k]?= some s)(r:s.st=0):VP S (k+1)=VP S k:=by
 unfold VP;rw[Yk,List.filterMap_append];simp[h,r]
theorem SP {S:List Slot}{k:Nat}{s:Slot}(h:S[k]?= some s)(r:s.st≠0):VP S (k+1)=VP S k++[wh k s.given]:=by
 unfold VP;rw[Yk,List.filterMap_append];simp[h,r]
abbrev Uq (B:Nat)(a:Option Addr)(n p:Nat):Blk:=(B,.cells #[.slice a n p] 143)
theorem FV (w0 w:World)(J L:List Blk)(B y:Nat)(a pb:Option Addr)(n p:Nat)(xs:List Int)(r:List Blk)(v x i:Int)(sl:Value)(hr:Gh 115 1 a n p (RM xs) r)(T:Turn J w0 (Uq B a n p::(r++L)) w)
  (hn:n <= 100000)(Z:((y,.cells #[.pointer pb] 43):Blk)∈L)(V:Calls prog 106 #[.pointer pb,iV i] w.drew fun e w'=>e=.returned (uV v) /\ w.drew=w'):
  Calls prog 121 #[iV x,iV i,sl,pt B,pt y] w fun e w'=>e=.returned (.tuple #[]) /\ ∃a p r,Gh 115 1 a (n+1) p (RM (xs++[v])) r /\ Turn J w0 (Uq B a (n+1) p::(r++L)) w':=by
 have TD:=T.drew;have c0:=T.has.cell (b:=B) (c:=#[.slice a n p]) (e:=143) (f:=(0,0)) (by simp) 0;have c1:w.cell? (aD y 0)=some (.pointer pb):=T.has.cell (b:=y) (c:=#[.pointer pb]) (e:=43) (f:=(0,0)) (by simp only[t_,s_];exact .inr (.inr Z)) 0;have f0:=T.has.free (b:=B) (c:=#[.slice a n p]) (e:=143) (by simp) 0;have a3:=World.new_ne w (aD B 0) c0;have a2:=World.new_ne w (aD y 0) c1;have ca:(w.alloc (.cells #[uV v] 115)).cell? (aD B 0)=some (.slice a n p):=(T.alloc (.cells #[uV v] 115)).has.cell (b:=B) (c:=#[.slice a n p]) (e:=143) (f:=(0,0)) (by simp) 0;have M:=((T.alloc (.cells #[uV v] 115)).drew).perm (l2:=r++((w.heap.size,.cells #[uV v] 115)::Uq B a n p::L)) po;have U:n+1 <= maxLen:=by unfold maxLen;omega
 have a0:(n+1)*8 <= 140737488355328:=O;have Hr:=uh hr;have HF:=uh V;have E:=uh M;clear hr T V TD M Z
 go_enter func121,ntmps121
 go_wp2
 go_region_law (first
  | (go_simp;go_at_call 106;refine HF.out.mono ?_;rintro e w' ⟨rfl,rfl⟩)
  | (refine Xc (by rfl) _ _ (by rfl) EM (by rfl) Hr.out E.out.has (by rfl) (news:=[uV v]) (by rfl) (Qy (A_ _ _)) (by simp[Value.oneCell']) U a0 ?_;intro N p9 l9 w1 a1 T1 a4;have G:=(E.out.trans T1).perm (l2:=Uq B a n p::(l9++((w.heap.size,.cells #[uV v] 115)::L))) po;have d0:=G.has.cell (b:=B) (d_ ..) 0;have e0:=G.has.free (b:=B) (d_ ..) 0))
 all_goals go_wp2
 all_goals
  go_end0;refine⟨rfl,N,p9,l9,by rw[Us];exact a1,?_⟩;exact(G.setCell 0 (.slice N (n+1) p9)).sub (by simp)
section
variable {b:Nat} {S:List Slot} {l R:List Blk}
def Bd (S:List Slot)(L:List Blk)(w:World)(e:Ending)(w':World):Prop:=
 ∃a p lr,e=.returned (.slice a (cnt S) p) /\ Gh 115 1 a (cnt S) p (RM (VP S S.length)) lr /\ Turn L w (lr++L) w'
theorem Ae (w:World)(hS:Js b S l)(hH:Has w (l++R)):
  Calls prog 63 #[pt b] w (Bd S (l++R) w):=by
 have a5:=hS;obtain⟨a7,g,a4,rfl,hc⟩:=hS;have hl:=a7.len;have T0:=((r_ hH).alloc (.cells #[pt b] 43)).alloc (.cells #[.slice none 0 0] 143);rw[Y_]at T0;have q9:=T0.cell2 0;have ef:=enters_of func121 kr rfl;generalize hL:[(b,Obj.cells #[.slice (some (aD g 0)) S.length S.length] 211 (0,0)),(g,Obj.cells a4 223 (0,0))]++R=L at*;have Z:=uh hL;clear hL
 have y:∀W:World,Turn L w (Uq (w.heap.size+1) none 0 0::((w.heap.size,.cells #[pt b] 43)::L)) W -> Calls prog 120 #[pt b,.func (.func 121) #[] #[pt (w.heap.size+1),pt w.heap.size]] W
   (Ua (fun i k W=>k=cnt (S.take i) /\ ∃a p r,Gh 115 1 a k p (RM (VP S i)) r /\ Turn L w (Uq (w.heap.size+1) a k p::(r++((w.heap.size,.cells #[pt b] 43)::L))) W) S.length):=by
  intro W T;refine WU _ ef #[pt (w.heap.size+1),pt w.heap.size] b g S.length hl _ ?_ ?_ W ⟨rfl,none,0,[],Zb _ _,T⟩
  · rintro i k W ⟨-,a,p,r,-,T⟩
    exact(N4 (b:=b) (g:=g) (R:=R) hc (by rw[Z.out];exact T.tail.drop.tail.has)).c0
  · rintro i k W hi ⟨hk,a,p,r,U,T⟩
    obtain⟨s,E⟩:∃s,S[i]?= some s:=⟨S[i]'hi,a_ _⟩;have Wc:=N4 (b:=b) (g:=g) (R:=R) hc (by rw[Z.out];exact T.tail.drop.tail.has);obtain⟨a0,a1,a2⟩:=Wc.at_ i s E;refine⟨s.st,a0,fun J=>⟨by rw[Mp E J];exact hk,a,p,r,by rw[SN E J];exact U,T⟩,fun J ab=>?_⟩
    refine(FV w W L ((w.heap.size,.cells #[pt b] 43)::L) (w.heap.size+1) w.heap.size a (some (aD b 0)) k p (VP S i) r (wh i s.given) k i (.pointer (some (aD g (i*3)))) U T O (d_ ..)
     (VQ W.drew a5 (R:=R) (by rw[Z.out];exact T.drew.tail.drop.tail.has) i s E)).mono ?_
    rintro e w' ⟨rfl,a',p',a9,a8,T'⟩;exact⟨rfl,by rw[Mq E J,hk],a',p',a9,by rw[SP E J];exact a8,T'⟩
 have N:=uh y;have a3:=uh T0;clear y ef
 go_enter func63,ntmps63
 go_wp2_with fail
 refine(N.out _ a3.out).mono ?_;rintro e w1 ⟨rfl,k,hk,M,a,p,r,U,G⟩;rw[Xp (g_ _)]at M;have a6:=G.has.cell (b:=w.heap.size+1) (d_ ..) 0;have aa:=G.has.free (b:=w.heap.size+1) (d_ ..) 0;have T2:=(G.setCell 0 (.slice a k p)).tail.drop.tail;have T3:=((G.setCell 0 (.slice a k p)).tail).sub (l2:=r++L) (by simp);have V:=uh M;clear M G T2
 go_wp2
 refine f_ (v:=.slice a k p) ?_ rfl ?_
 ·simp[results,results63,go_sem,a6]
 · refine⟨a,p,r,by rw[V.out],?_,T3⟩
   rw[←V.out];exact U
end
theorem Turn.free {L A:List Blk}{w w':World}(h:Turn L w (A++L) w')(E:Has w L):Turn [] w A w':=by
 have y:=h.has.nd;rw[GN,Yt]at y;refine⟨h.os,h.tape,h.output,h.size,h.has.sub (x_ ..),fun b r=>?_,fun b r _=>h.keeps E b r⟩;rcases h.new b (by rw[GN];exact s_.2 (.inl r))with h1|h1
 ·exact absurd rfl (y.2.2 b r b h1)
 ·exact .inr h1
theorem Has.later {L:List Blk}{w w':World}(r:Has w L)(E:Below w.heap.size w w'):Has w' L:=
 ⟨r.nd,fun b o y=>(E.block b (Qk (r.own b o y))).trans (r.own b o y)⟩
def Bf (S:List Slot):List (Nat×Nat):=((VP S S.length).map Int.toNat).zip ((Lm S).map Int.toNat)
theorem ZA {xs:List Int}(r:∀x∈xs,0 <= x):RM xs=Gf (xs.map Int.toNat):=by
 unfold RM Gf;rw[Zv];refine Jh fun x y=>?_
 show uV x=uV (x.toNat:Int)
 rw[Yx (r x y)]
theorem DQ (S:List Slot)(k:Nat):∀x∈VP S k,0 <= x:=by
 intro x r;unfold VP at r;obtain⟨i,-,h⟩:=List.mem_filterMap.1 r
 split at h
 · split at h
   ·cases h
   · cases h
     unfold wh;exact Yb _
 ·cases h
theorem Sz (S:List Slot):∀k,k <= S.length -> (VP S k).length=cnt (S.take k)
 | 0,_=>by simp[VP,cnt]
 | k+1,hk=>by
  obtain⟨s,y⟩:∃s,S[k]?= some s:=⟨S[k]'O,a_ _⟩;have E:=Sz S k O
  by_cases r:s.st=0
  ·rw[SN y r,Mp y r,E]
  · rw[SP y r,Mq y r,e_,E]
    rfl
theorem UX (S:List Slot):(Bf S).map (·.1)=(VP S S.length).map Int.toNat:=by
 unfold Bf;refine List.map_fst_zip ?_;rw[n_,n_,Sz S _ (g_ _),D_];unfold Lm cnt;rw[n_];exact g_ _
theorem UW (S:List Slot):(Bf S).map (·.2)=(Lm S).map Int.toNat:=by
 unfold Bf;refine List.map_snd_zip ?_;rw[n_,n_,Sz S _ (g_ _),D_];unfold Lm cnt;rw[n_];exact g_ _
theorem VT (w:World)(b:Nat)(S:List Slot)(l:List Blk)(J:Js b S l)(G:Has w l)(E:∀s∈S,0 <= s.addr):Jz 64 36 (some (aD b 0)) w ((Bf S).map (·.2)):=fun w' M=>by
 have r:Has w' (l++[]):=by rw[p_];exact G.later M
 refine(Ad w' J r).mono ?_;rintro e w2 ⟨a,p,Z,rfl,y,T⟩;have N:((Bf S).map (·.2)).length=cnt S:=by rw[UW,n_];unfold Lm cnt;rw[n_]
 rw[ZA (fun x V=>by obtain⟨s,U,rfl⟩:=U_.1 V;exact E s (Ym.1 U).1),←UW]at y;rw[N];exact⟨a,p,Z,rfl,y,T.free r⟩
theorem VU (w:World)(b:Nat)(S:List Slot)(l:List Blk)(G:Js b S l)(E:Has w l):Jz 63 115 (some (aD b 0)) w ((Bf S).map (·.1)):=fun w' J=>by
 have r:Has w' (l++[]):=by rw[p_];exact E.later J
 refine(Ae w' G r).mono ?_;rintro e U ⟨a,p,N,rfl,y,T⟩;have M:((Bf S).map (·.1)).length=cnt S:=by rw[UX,n_,Sz S _ (g_ _),D_]
 rw[ZA (DQ S _),←UX]at y;rw[M];exact⟨a,p,N,rfl,y,T.free r⟩
theorem D8 {α:Type}{f:α -> List Value}{sz:Nat}(r:∀a,(f a).length=sz)(E:0<sz){S:List α}{i:Nat}(J:i<S.length)(y:α):
  (∀j,j<sz -> ((S.set i y).flatMap f)[i*sz+j]?= (f y)[j]?) /\ ∀p,p<i*sz∨i*sz+sz <= p -> ((S.set i y).flatMap f)[p]?= (S.flatMap f)[p]? :=by
 refine⟨fun j M=>?_,fun p N=>?_⟩
 · rw[TC r _ i j M,Xu J]
   rfl
 · have h1:p=p/sz*sz+p%sz:=by rw[Nat.mul_comm];exact(Nat.div_add_mod p sz).symm
   have h2:=Nat.mod_lt p E
   have G:i≠p/sz:=by
    rintro rfl;omega
   rw[h1,TC r _ _ _ h2,TC r _ _ _ h2,Je G]
theorem Gh.over {e:TypeId}{size g n cap:Nat}{xs:List Value}{r:Array Value}(h:Gh e size (some (aD g 0)) n cap xs [(g,.cells r e (0,0))]){o:Nat}{vs y:List Value}(hl:y.length=n*size)(ho:o+vs.length <= n*size)
  (J:∀j,j<vs.length -> y[o+j]?= vs[j]?)(G:∀j,j<o∨o+vs.length <= j -> y[j]?= xs[j]?):Gh e size (some (aD g 0)) n cap y [(g,.cells (J8 r o vs) e (0,0))]:=by
 obtain⟨h1,h2,U,E⟩:=h;rcases E with⟨E,-⟩|⟨g',N,E,V,Z,h7⟩
 ·cases E
 · cases E;cases V
   refine⟨hl,h2,U,.inr ⟨g,_,rfl,rfl,by rw[NP];exact Z,?_⟩⟩;have a1:n*size <= cap*size:=Nat.mul_le_mul_right _ h2;refine Xq fun j=>?_
   by_cases M:j<n*size
   · rw[Xr M,Zj]
     by_cases a0:o <= j /\ j<o+vs.length
     · obtain⟨k,rfl⟩:∃k,j=o+k:=⟨j-o,by omega⟩
       rw[Ng vs r o k O O,J k O]
     · rw[Lb vs r o j O,G j O]
       exact M5 h7 j M
   ·rw[Qb (by rw[Qh];omega),Qb O]
theorem Gh.lays {α:Type}{f:α -> List Value}{sz:Nat}(r:∀a,(f a).length=sz)(M:0<sz){e:TypeId}{g cap:Nat}{G:Array Value}{S:List α}(h:Gh e sz (some (aD g 0)) S.length cap (S.flatMap f) [(g,.cells G e (0,0))]){i:Nat}(J:i<S.length)(y:α):
  Gh e sz (some (aD g 0)) (S.set i y).length cap ((S.set i y).flatMap f) [(g,.cells (J8 G (i*sz) (f y)) e (0,0))]:=by
 have h2:=D8 r M J y;have N:i*sz+sz <= S.length*sz:=by rw[←Nat.succ_mul];exact Nat.mul_le_mul_right _ J
 rw[Qn];refine h.over (by rw[LL r,Qn]) (by rw[r];exact N) (fun j E=>h2.1 j (by rw[r]at E;exact E)) (fun j E=>h2.2 j (by rw[r]at E;exact E))
abbrev Bp:=Bool×Nat×Nat
def RN (s:Bp):List Value:=[.bool s.1,uV s.2.1,uV s.2.2]
theorem Nr (s:Bp):(RN s).length=3:=rfl
theorem YM:Elem prog 215 227 3 24 (.agg #[.bool false,uV 0,uV 0]):=Jm underlying215 kr rfl
theorem P7:(prog.info? 227).map (·.size)=some 3:=by kernel_rfl
theorem DX (S:List Bp):∀u∈S.flatMap RN,u.oneCell'=true:=by
 intro u r;obtain⟨s,-,h⟩:=List.mem_flatMap.1 r;simp only[RN,t_,Zu,or_false]at h;rcases h with rfl|rfl|rfl<;>rfl
def Uj (b:Nat)(S:List Bp)(l:List Blk):Prop:=S.length <= 4096 /\ ∃(ao:Option Addr) (cap:Nat) (lr:List Blk),l=(b,.cells #[.slice ao S.length cap] 217)::lr /\ Gh 227 3 ao S.length cap (S.flatMap RN) lr
theorem g5 (w:World)(b:Nat)(S:List Bp)(l R:List Blk)(hI:Uj b S l)(hH:Has w (l++R))(i:Nat)(hi:i<S.length)(y:Bp):
  Calls prog 107 #[pt b,iV i,.agg (RN y).toArray] w fun e w'=>e=.returned (.tuple #[]) /\ ∃l',Uj b (S.set i y) l' /\ Turn (l++R) w (l'++R) w':=by
 obtain⟨a4,ao,cap,lr,rfl,V⟩:=hI;have Z:=P7;have T0:=(r_ hH).alloc (.cells (RN y).toArray 227);have q0:=T0.has.cell (b:=b) (c:=#[.slice ao S.length cap]) (e:=217) (f:=(0,0)) (by simp) 0;have hS:=V.src (R:=[(b,.cells #[.slice ao S.length cap] 217)]++((w.heap.size,.cells (RN y).toArray 227)::R)) (T0.perm po).has;have HT:=uh T0;have HS:=uh hS;have a3:=uh a4;have a7:=uh (by rw[Qn]:(S.set i y).length=S.length);have a8:S.length <= maxLen:=by unfold maxLen;omega
 have a0:=Yn (cs:=RN y) (by simp[RN,Value.oneCell']);obtain⟨G,r,E⟩:=y;simp only[RN]at HT q0 a0 ⊢;clear T0 hS V hH
 go_enter func107,ntmps107
 go_wp2_with (first
  | (at_builtin;refine Qv rfl _ _ rfl YM rfl rfl (Zb _ _) (R:=(w.heap.size,.cells #[.bool G,uV r,uV E] 227)::(b,.cells #[.slice ao S.length cap] 217)::(lr++R)) (HT.out.perm po).has HS.out (DX S) O O ?_;intro a9 p9 l9 w4 M V9;rw[Q_,L_]at M;simp only[Q_];obtain⟨g,U,rfl,rfl,aa,-⟩:=M.some_of O;have ab:=M.2.1;have N:=uh (((HT.out.perm po).trans V9).perm (l2:=(g,.cells U 227 (0,0))::(w.heap.size,.cells #[.bool G,uV r,uV E] 227)::(b,.cells #[.slice ao S.length cap] 217)::(lr++R)) po);have a6:=uh M;have a1:=N.out.range2;have a2:w4.there g (i*3) 3:=N.out.has.there (d_ ..) _ _ O;clear V9 M q0)
  | (show lW 227;refine J_ rfl 227 _ rfl w.heap.size 0 rfl [.bool G,uV r,uV E] _ a1 underlying227 rfl Z ?_;clear a1)
  | (show sW 227;refine h_ rfl 227 _ _ rfl g (i*3) #[.bool G,uV r,uV E] rfl rfl a2 Z a0 ?_;have J:=uh (Turn.setCells [.bool G,uV r,uV E] (i*3) U _ N.out);have J:=uh J.out.rot3;have q5:=J.out.cell1 0;have f5:=J.out.free1 0;clear a2 N;generalize w4.setCells g (i*3) [.bool G,uV r,uV E]=w5 at*;have a5:=uh (J.out.setCell 0 (.slice (some (aD g 0)) S.length p9)))
  | fail)
 go_end0;refine⟨rfl,(b,.cells #[.slice (some (aD g 0)) S.length p9] 217)::[(g,.cells (J8 U (i*3) [.bool G,uV r,uV E]) 227)],⟨by rw[Qn];exact a3.out,some (aD g 0),p9,_,by rw[Qn];rfl,Gh.lays Nr (by decide) a6.out hi (G,r,E)⟩,?_⟩;exact(a5.out.perm (l2:=((w.heap.size,.cells #[.bool G,uV r,uV E] 227)::lr)++(((b,.cells #[.slice (some (aD g 0)) S.length p9] 217)::[(g,.cells (J8 U (i*3) [.bool G,uV r,uV E]) 227)])++R)) po).drop
def Ex (a:Nat):Bp:=(true,a,1)
def Mb (ks:List Nat):List Bp:=ks.map Ex++List.replicate (64-ks.length) (false,0,0)
theorem MA {ks:List Nat}(h:ks.length <= 64):(Mb ks).length=64:=by
 unfold Mb;rw[e_,n_,W_];omega
theorem SB {ks:List Nat}{i a:Nat}(h:ks[i]?= some a):(Mb ks)[i]?= some (Ex a):=by
 unfold Mb;rw[Qz (by rw[n_];exact(m_.1 h).1),G_,h]
 rfl
theorem ZJ {ks:List Nat}{i:Nat}(h:ks.length <= i)(h2:i<64):(Mb ks)[i]?= some (false,0,0):=by
 unfold Mb;rw[Qg (by rw[n_];exact h),n_,Xz,v_ O]
theorem BV {ks:List Nat}(h:ks.length<64)(a:Nat):(Mb ks).set ks.length (Ex a)=Mb (ks++[a]):=by
 unfold Mb;rw[List.set_append_right _ _ (by rw[n_];exact g_ _),n_,Jc];obtain⟨n,r⟩:∃n,64-ks.length=n+1:=⟨63-ks.length,by omega⟩;rw[r,List.replicate_succ,Xf,Za,e_];rw[show 64-(ks.length+[a].length)=n by simp;omega];simp
theorem Uj.hd {b:Nat}{S:List Bp}{l R:List Blk}{w:World}(y:Uj b S l)(r:Has w (l++R)):∃ao cap,w.cell? (aD b 0)=some (.slice ao S.length cap):=by
 obtain⟨E,ao,cap,J,rfl,G⟩:=y;exact⟨ao,cap,r.cell (b:=b) (c:=#[.slice ao S.length cap]) (e:=217) (f:=(0,0)) (by simp) 0⟩
theorem Uj.at2 {b:Nat}{S:List Bp}{l:List Blk}(G:Uj b S l)(E:0<S.length):∃(g o cap:Nat),∀(w:World) (R:List Blk),Has w (l++R) -> w.cell? (aD b 0)=some (.slice (some (aD g o)) S.length cap) /\ ∀i s,S[i]?= some s -> w.rangeAt g (o+i*3) (RN s):=by
 obtain⟨M,ao,cap,U,rfl,r⟩:=G;obtain⟨g,N,rfl,-,-,-⟩:=r.some_of E;exact⟨g,0,cap,fun w R y=>⟨y.cell (b:=b) (c:=#[.slice (some (aD g 0)) S.length cap]) (e:=217) (f:=(0,0)) (by simp) 0,fun i s J=>Src.fm (f:=RN) Nr (r.src (R:=(b,.cells #[.slice (some (aD g 0)) S.length cap] 217)::R) (y.perm po)) J⟩⟩
theorem Uj.at_ {b:Nat}{S:List Bp}{l R:List Blk}{w:World}(J:Uj b S l)(y:Has w (l++R)){i:Nat}{s:Bp}(G:S[i]?= some s):∃(g o cap:Nat),w.cell? (aD b 0)=some (.slice (some (aD g o)) S.length cap) /\ w.rangeAt g (o+i*3) (RN s):=by
 obtain⟨M,ao,cap,U,rfl,r⟩:=J;have E:=r.src (R:=(b,.cells #[.slice ao S.length cap] 217)::R) (y.perm po);have N:=(m_.1 G).1;obtain⟨g,o,rfl,-⟩:=E.form (by rw[LL Nr];omega);exact⟨g,o,cap,y.cell (b:=b) (c:=#[.slice (some (aD g o)) S.length cap]) (e:=217) (f:=(0,0)) (by simp) 0,Src.fm (f:=RN) Nr E G⟩
theorem FG (w:World)(b:Nat)(ks:List Nat)(J:ks.length <= 64)(l R:List Blk)(y:Uj b (Mb ks) l)(r:Has w (l++R))(i:Nat)(G:i<ks.length):
  Calls prog 108 #[pt b,iV i] w fun e w'=>e=.returned (uV (4294967296+i:Nat)) /\ w'=w:=by
 obtain⟨g,o,cap,M,E⟩:=y.at_ r (SB (a_ G));rw[MA J]at M;have q1:w.cell? (aD g (o+i*3+2))=some (uV 1):=E 2 _ rfl;have V:IntKind.u64.wrap 4294967296=4294967296:=by decide
 have U:(i:Int)<64:=O;have N:IntKind.u64.wrap (i:Int)=(i:Int):=by rw[IntKind.wrap_u64];omega
 have Z:IntKind.u64.wrap (4294967296+(i:Int))=((4294967296+i:Nat):Int):=by rw[IntKind.wrap_u64];omega
 clear E y r
 go_enter func108,ntmps108
 go_wp2
 go_ret;exact⟨rfl,rfl⟩
theorem Z3 (w:World)(b:Nat):Calls prog 48 #[pt b,uV 0] w fun e w'=>e=.returned (.tuple #[uV 0,iV 2]) /\ w'=w:=by
 go_enter func48,ntmps48
 go_wp2_with fail
 refine f_ (E_ rfl _ _ _) rfl ?_;exact⟨rfl,rfl⟩
theorem j3 (w:World)(b:Nat)(ks:List Nat)(hk:ks.length<64)(h0:∀a∈ks,a≠0)(l R:List Blk)(hI:Uj b (Mb ks) l)(hH:Has w (l++R))(a:Nat)(ha:a≠0):
  Calls prog 48 #[pt b,uV a] w fun e w'=>(∃r,e=.returned (.tuple #[r,iV 0])) /\ ∃l',Uj b (Mb (ks++[a])) l' /\ Turn (l++R) w (l'++R) w':=by
 have a4:((a:Int) == 0)=false:=by rw[j_];omega
 have HI:=uh hI;have HT:=uh (r_ hH);have H0:=uh h0;have N:=uh (MA (ks:=ks) O);have U:=uh (fun(w':World) (G:Has w' (l++R))=>g5 w' b (Mb ks) l R hI G ks.length (by rw[MA O];exact hk) (Ex a));rw[BV hk]at U;have HD:=uh (fun(w':World) (l':List Blk) (y:Uj b (Mb (ks++[a])) l') (G:Has w' (l'++R))=>FG w' b (ks++[a]) (by rw[e_];simp;omega) l' R y G ks.length (by rw[e_];simp));clear hI hH h0
 go_enter func48,ntmps48
 go_wp2_with fail
 go_loopw [6] (fun v6 wr=>∃i:Nat,i <= ks.length /\ v6=iV i /\ Turn (l++R) w (l++R) wr) (fun v6 _=>64-(intOf v6).toNat)
 case atStart=>exact⟨0,u_ _,by go_num,HT.out⟩
 case round=>
  clear HT;obtain⟨i,hi,rfl,V⟩:=hrel;have a3:(i:Int)<64:=O;have Z:=uh V
  by_cases a1:i<ks.length
  · obtain⟨x,hx⟩:∃x,ks[i]?= some x:=⟨ks[i],a_ a1⟩
    have a2:=H0.out x (q_ hx);obtain⟨g,o,cap,q0,E⟩:=HI.out.at_ V.has (SB hx);rw[N.out]at q0;have q1:=E 0 _ rfl;rw[Zs]at q1
    skip
    clear E V hx a2
    go_wp2
    go_roundw
    case rel=>exact⟨i+1,by omega,by go_num,Z.out⟩
    case measure=>simp[intOf];omega
  · obtain rfl:i=ks.length:=O
    obtain⟨g,o,cap,q0,E⟩:=HI.out.at_ V.has (ZJ (g_ _) hk);rw[N.out]at q0;have q1:=E 0 _ rfl;rw[Zs]at q1;have q2:wr.cell? (aD g (o+ks.length*3+2))=some (uV 0):=E 2 _ rfl;have a5:IntKind.u64.wrap (0+1)=1:=(by decide);have a6:IntKind.u64.wrap 1=1:=(by decide);have M:=uh (U.out wr V.has);clear E V U
    go_wp2_with fail
    refine M.out.mono ?_;rintro e w5 ⟨rfl,l',y,J⟩;have HX:=uh (And.intro y (Z.out.trans J));have a0:=uh (HD.out w5 l' y J.has);clear y J M Z HD
    go_wp2_with (first
     | (go_at_call 108;refine a0.out.mono ?_;rintro e w' ⟨rfl,hw⟩;rw[hw];clear hw w')
     | fail)
    refine f_ (E_ rfl _ _ _) rfl ?_;exact⟨⟨_,rfl⟩,l',HX.out.1,HX.out.2⟩
theorem AB (w:World)(m:Nat)(Z:m <= 4096){R:List Blk}(U:Has w R):
  Calls prog 45 #[iV m] w fun e w'=>∃b l',e=.returned (pt b) /\ Uj b (List.replicate m (false,0,0)) l' /\ Turn R w (l'++R) w':=by
 obtain⟨i,J,N,G,E⟩:=YM.info;have M:=fun W:World=>JU (P:=prog) 215 227 i _ YM.ht J N .i64 .i64 m (by rw[E];omega) O W;rw[G]at M;have Kv:(madeCells (Value.agg #[.bool false,uV 0,uV 0]).cells (m*3)).toList=(List.replicate m (false,0,0)).flatMap RN:=Nz Nr O (false,0,0) m;generalize madeCells (Value.agg #[.bool false,uV 0,uV 0]).cells (m*3)=y at*;have T:=((r_ U).alloc (.cells y 227)).alloc (.cells #[.slice (some (aD w.heap.size 0)) m m] 217);have r:=uh Kv;clear J N G E Kv
 go_enter func45,ntmps45
 go_wp2
 go_ret;rw[Y_]at T;refine⟨w.heap.size+1,(w.heap.size+1,.cells #[.slice (some (aD w.heap.size 0)) m m] 217)::[(w.heap.size,.cells y 227)],rfl,⟨by rw[W_];exact Z,_,m,_,by rw[W_],?_⟩,T⟩;have V:y.size=m*3:=by rw[←Yy,r.out,LL Nr,W_]
 have h:=Gh.lit (e:=227) (size:=3) w.heap.size y m V (by unfold maxLen;omega);rw[r.out]at h;rw[W_];exact h
theorem gv (w:World){R:List Blk}(r:Has w R):
  Calls prog 45 #[iV 64] w fun e w'=>∃b l',e=.returned (pt b) /\ Uj b (Mb []) l' /\ Turn R w (l'++R) w':=AB w 64 O r
def Sk (s:HSlot):List Value:=[uV s.addr,uV s.given]
theorem Rg (s:HSlot):(Sk s).length=2:=rfl
theorem YN:Elem prog 212 219 2 16 (.agg #[uV 0,uV 0]):=Jm underlying212 kr rfl
theorem P8:(prog.info? 219).map (·.size)=some 2:=by kernel_rfl
theorem DY (S:List HSlot):∀u∈S.flatMap Sk,u.oneCell'=true:=by
 intro u r;obtain⟨s,-,h⟩:=List.mem_flatMap.1 r;simp only[Sk,t_,Zu,or_false]at h;rcases h with rfl|rfl<;>rfl
def VJ (b:Nat)(S:List HSlot)(l:List Blk):Prop:=S.length <= 4096 /\ ∃(ao:Option Addr) (cap:Nat) (lr:List Blk),l=(b,.cells #[.slice ao S.length cap] 214)::lr /\ Gh 219 2 ao S.length cap (S.flatMap Sk) lr
theorem g6 (w:World)(b:Nat)(S:List HSlot)(l R:List Blk)(hI:VJ b S l)(hH:Has w (l++R))(i:Nat)(hi:i<S.length)(y:HSlot):
  Calls prog 102 #[pt b,iV i,.agg (Sk y).toArray] w fun e w'=>e=.returned (.tuple #[]) /\ ∃l',VJ b (S.set i y) l' /\ Turn (l++R) w (l'++R) w':=by
 obtain⟨a4,ao,cap,lr,rfl,U⟩:=hI;have V:=P8;have Z:=(r_ hH).alloc (.cells (Sk y).toArray 219);have q0:=Z.has.cell (b:=b) (c:=#[.slice ao S.length cap]) (e:=214) (f:=(0,0)) (by simp) 0;have hS:=U.src (R:=[(b,.cells #[.slice ao S.length cap] 214)]++((w.heap.size,.cells (Sk y).toArray 219)::R)) (Z.perm po).has;have HT:=uh Z;have HS:=uh hS;have a3:=uh a4;have a7:=uh (by rw[Qn]:(S.set i y).length=S.length);have a8:S.length <= maxLen:=by unfold maxLen;omega
 have a0:=Yn (cs:=Sk y) (by simp[Sk,Value.oneCell']);obtain⟨E,r⟩:=y;simp only[Sk]at HT q0 a0 ⊢;clear Z hS U hH
 go_enter func102,ntmps102
 go_wp2_with (first
  | (at_builtin;refine Qv rfl _ _ rfl YN rfl rfl (Zb _ _) (R:=(w.heap.size,.cells #[uV r,uV E] 219)::(b,.cells #[.slice ao S.length cap] 214)::(lr++R)) (HT.out.perm po).has HS.out (DY S) O O ?_;intro a9 p9 l9 w4 J V9;rw[Q_,L_]at J;simp only[Q_];obtain⟨g,N,rfl,rfl,aa,-⟩:=J.some_of O;have ab:=J.2.1;have M:=uh (((HT.out.perm po).trans V9).perm (l2:=(g,.cells N 219 (0,0))::(w.heap.size,.cells #[uV r,uV E] 219)::(b,.cells #[.slice ao S.length cap] 214)::(lr++R)) po);have a6:=uh J;have a1:=M.out.range2;have a2:w4.there g (i*2) 2:=M.out.has.there (d_ ..) _ _ O;clear V9 J q0)
  | (show lW 219;refine J_ rfl 219 _ rfl w.heap.size 0 rfl [uV r,uV E] _ a1 underlying219 rfl V ?_;clear a1)
  | (show sW 219;refine h_ rfl 219 _ _ rfl g (i*2) #[uV r,uV E] rfl rfl a2 V a0 ?_;have G:=uh (Turn.setCells [uV r,uV E] (i*2) N _ M.out);have G:=uh G.out.rot3;have q5:=G.out.cell1 0;have f5:=G.out.free1 0;clear a2 M;generalize w4.setCells g (i*2) [uV r,uV E]=w5 at*;have a5:=uh (G.out.setCell 0 (.slice (some (aD g 0)) S.length p9)))
  | fail)
 go_end0;refine⟨rfl,(b,.cells #[.slice (some (aD g 0)) S.length p9] 214)::[(g,.cells (J8 N (i*2) [uV r,uV E]) 219)],⟨by rw[Qn];exact a3.out,some (aD g 0),p9,_,by rw[Qn];rfl,Gh.lays Rg (by decide) a6.out hi ⟨E,r⟩⟩,?_⟩;exact(a5.out.perm (l2:=((w.heap.size,.cells #[uV r,uV E] 219)::lr)++(((b,.cells #[.slice (some (aD g 0)) S.length p9] 214)::[(g,.cells (J8 N (i*2) [uV r,uV E]) 219)])++R)) po).drop
def Ey (a:Nat):HSlot:=⟨1,(a:Int)⟩
def Mc (ks:List Nat):List HSlot:=ks.map Ey++List.replicate (64-ks.length) GR
theorem N9 {ks:List Nat}(h:ks.length <= 64):(Mc ks).length=64:=by
 unfold Mc;rw[e_,n_,W_];omega
theorem SC {ks:List Nat}{i a:Nat}(h:ks[i]?= some a):(Mc ks)[i]?= some (Ey a):=by
 unfold Mc;rw[Qz (by rw[n_];exact(m_.1 h).1),G_,h]
 rfl
theorem Ve {ks:List Nat}{i:Nat}(h:ks.length <= i)(h2:i<64):(Mc ks)[i]?= some GR:=by
 unfold Mc;rw[Qg (by rw[n_];exact h),n_,Xz,v_ O]
theorem BW {ks:List Nat}(h:ks.length<64)(a:Nat):(Mc ks).set ks.length (Ey a)=Mc (ks++[a]):=by
 unfold Mc;rw[List.set_append_right _ _ (by rw[n_];exact g_ _),n_,Jc];obtain⟨n,r⟩:∃n,64-ks.length=n+1:=⟨63-ks.length,by omega⟩;rw[r,List.replicate_succ,Xf,Za,e_];rw[show 64-(ks.length+[a].length)=n by simp;omega];simp
theorem VJ.hd {b:Nat}{S:List HSlot}{l R:List Blk}{w:World}(y:VJ b S l)(r:Has w (l++R)):∃ao cap,w.cell? (aD b 0)=some (.slice ao S.length cap):=by
 obtain⟨E,ao,cap,J,rfl,G⟩:=y;exact⟨ao,cap,r.cell (b:=b) (c:=#[.slice ao S.length cap]) (e:=214) (f:=(0,0)) (by simp) 0⟩
theorem VJ.at_ {b:Nat}{S:List HSlot}{l R:List Blk}{w:World}(J:VJ b S l)(y:Has w (l++R)){i:Nat}{s:HSlot}(G:S[i]?= some s):∃(g o cap:Nat),w.cell? (aD b 0)=some (.slice (some (aD g o)) S.length cap) /\ w.rangeAt g (o+i*2) (Sk s):=by
 obtain⟨M,ao,cap,U,rfl,r⟩:=J;have E:=r.src (R:=(b,.cells #[.slice ao S.length cap] 214)::R) (y.perm po);have N:=(m_.1 G).1;obtain⟨g,o,rfl,-⟩:=E.form (by rw[LL Rg];omega);exact⟨g,o,cap,y.cell (b:=b) (c:=#[.slice (some (aD g o)) S.length cap]) (e:=214) (f:=(0,0)) (by simp) 0,Src.fm (f:=Sk) Rg E G⟩
theorem FH (w:World)(b:Nat)(ks:List Nat)(J:ks.length <= 64)(l R:List Blk)(y:VJ b (Mc ks) l)(r:Has w (l++R))(i:Nat)(G:i<ks.length):
  Calls prog 103 #[pt b,iV i] w fun e w'=>e=.returned (uV (4294967296+i:Nat)) /\ w'=w:=by
 obtain⟨g,o,cap,M,E⟩:=y.at_ r (SC (a_ G));rw[N9 J]at M;have q1:w.cell? (aD g (o+i*2+1))=some (uV 1):=E 1 _ rfl;have V:IntKind.u64.wrap 4294967296=4294967296:=by decide
 have U:(i:Int)<64:=O;have N:IntKind.u64.wrap (i:Int)=(i:Int):=by rw[IntKind.wrap_u64];omega
 have Z:IntKind.u64.wrap (4294967296+(i:Int))=((4294967296+i:Nat):Int):=by rw[IntKind.wrap_u64];omega
 clear E y r
 go_enter func103,ntmps103
 go_wp2
 go_ret;exact⟨rfl,rfl⟩
theorem j4 (w:World)(b:Nat)(ks:List Nat)(hk:ks.length<64)(h0:∀a∈ks,a≠0)(l R:List Blk)(hI:VJ b (Mc ks) l)(hH:Has w (l++R))(a:Nat)(ha:a≠0):
  Calls prog 46 #[pt b,uV a] w fun e w'=>(∃r,e=.returned (.tuple #[r,iV 0])) /\ ∃l',VJ b (Mc (ks++[a])) l' /\ Turn (l++R) w (l'++R) w':=by
 have a4:((a:Int) == 0)=false:=by rw[j_];omega
 have HI:=uh hI;have HT:=uh (r_ hH);have H0:=uh h0;have U:=uh (N9 (ks:=ks) O);have Z:=uh (fun(w':World) (G:Has w' (l++R))=>g6 w' b (Mc ks) l R hI G ks.length (by rw[N9 O];exact hk) (Ey a));rw[BW hk]at Z;have HD:=uh (fun(w':World) (l':List Blk) (y:VJ b (Mc (ks++[a])) l') (G:Has w' (l'++R))=>FH w' b (ks++[a]) (by rw[e_];simp;omega) l' R y G ks.length (by rw[e_];simp));clear hI hH h0
 go_enter func46,ntmps46
 go_wp2_with fail
 go_loopw [6] (fun v6 wr=>∃i:Nat,i <= ks.length /\ v6=iV i /\ Turn (l++R) w (l++R) wr) (fun v6 _=>64-(intOf v6).toNat)
 case atStart=>exact⟨0,u_ _,by go_num,HT.out⟩
 case round=>
  clear HT;obtain⟨i,hi,rfl,V⟩:=hrel;have a3:(i:Int)<64:=O;have HV:=uh V
  by_cases a1:i<ks.length
  · obtain⟨x,hx⟩:∃x,ks[i]?= some x:=⟨ks[i],a_ a1⟩
    have a2:=H0.out x (q_ hx);obtain⟨g,o,cap,q0,E⟩:=HI.out.at_ V.has (SC hx);rw[U.out]at q0;have M:=E 0 _ rfl;rw[Zs]at M;replace M:wr.cell? (aD g (o+i*2))=some (uV (x:Nat)):=M;have k1:(((x:Nat):Int) == 0)=false:=(by rw[j_];omega);clear E V hx a2
    go_wp2
    go_roundw
    case rel=>exact⟨i+1,by omega,by go_num,HV.out⟩
    case measure=>simp[intOf];omega
  · obtain rfl:i=ks.length:=O
    obtain⟨g,o,cap,q0,E⟩:=HI.out.at_ V.has (Ve (g_ _) hk);rw[U.out]at q0;have M:=E 0 _ rfl;rw[Zs]at M;have q2:wr.cell? (aD g (o+ks.length*2+1))=some (uV 0):=E 1 _ rfl;have a5:IntKind.u64.wrap (0+1)=1:=(by decide);have a6:IntKind.u64.wrap 1=1:=(by decide);have N:=uh (Z.out wr V.has);clear E V Z
    go_wp2_with fail
    refine N.out.mono ?_;rintro e w5 ⟨rfl,l',y,J⟩;have HX:=uh (And.intro y (HV.out.trans J));have a0:=uh (HD.out w5 l' y J.has);clear y J N HV HD
    go_wp2_with (first
     | (go_at_call 103;refine a0.out.mono ?_;rintro e w' ⟨rfl,hw⟩;rw[hw];clear hw w')
     | fail)
    refine f_ (E_ rfl _ _ _) rfl ?_;exact⟨⟨_,rfl⟩,l',HX.out.1,HX.out.2⟩
theorem AC (w:World)(m:Nat)(Z:m <= 4096){R:List Blk}(U:Has w R):
  Calls prog 44 #[iV m] w fun e w'=>∃b l',e=.returned (pt b) /\ VJ b (List.replicate m GR) l' /\ Turn R w (l'++R) w':=by
 obtain⟨i,J,N,G,E⟩:=YN.info;have M:=fun W:World=>JU (P:=prog) 212 219 i _ YN.ht J N .i64 .i64 m (by rw[E];omega) O W;rw[G]at M;have Kv:(madeCells (Value.agg #[uV 0,uV 0]).cells (m*2)).toList=(List.replicate m GR).flatMap Sk:=Nz Rg O GR m;generalize madeCells (Value.agg #[uV 0,uV 0]).cells (m*2)=y at*;have T:=((r_ U).alloc (.cells y 219)).alloc (.cells #[.slice (some (aD w.heap.size 0)) m m] 214);have r:=uh Kv;clear J N G E Kv
 go_enter func44,ntmps44
 go_wp2
 go_ret;rw[Y_]at T;refine⟨w.heap.size+1,(w.heap.size+1,.cells #[.slice (some (aD w.heap.size 0)) m m] 214)::[(w.heap.size,.cells y 219)],rfl,⟨by rw[W_];exact Z,_,m,_,by rw[W_],?_⟩,T⟩;have V:y.size=m*2:=by rw[←Yy,r.out,LL Rg,W_]
 have h:=Gh.lit (e:=219) (size:=2) w.heap.size y m V (by unfold maxLen;omega);rw[r.out]at h;rw[W_];exact h
theorem gx (w:World){R:List Blk}(r:Has w R):
  Calls prog 44 #[iV 64] w fun e w'=>∃b l',e=.returned (pt b) /\ VJ b (Mc []) l' /\ Turn R w (l'++R) w':=AC w 64 O r
end
section
open Go Go.RowKit Go.IntWalk
def RZ (n:Nat):List Nat:=(List.range n).map fun i=>4294967296+i
theorem UM (k:Nat):Gf (RZ (k+1))=Gf (RZ k)++[uV (4294967296+k:Nat)]:=by
 unfold RZ Gf;rw[Yk];simp
theorem WR:Elem prog 140 89 1 8 (uV 0):=Jm underlying140 kr rfl
theorem PB (w:World)(b:Nat)(ks:List Nat)(hk:ks.length <= 64)(h0:∀a∈ks,a≠0)(l R:List Blk)(hI:VJ b (Mc ks) l)(hH:Has w (l++R)):
  Calls prog 71 #[pt b] w fun e w'=>∃ao cap r,e=.returned (.slice ao ks.length cap) /\ Gh 89 1 ao ks.length cap (Gf (RZ ks.length)) r /\ Turn (l++R) w (r++(l++R)) w':=by
 have HI:=uh hI;have HT:Hid (Turn (l++R) w ([]++(l++R)) w):=uh (r_ hH);have H0:=uh h0;have J:=uh (N9 (ks:=ks) hk);clear hI hH h0
 go_enter func71,ntmps71
 go_wp2_with fail
 go_loopw [3,4] (fun v3 v4 wr=>∃(i k:Nat) (M:Option Addr) (Z:Nat) (r:List Blk),i <= 64 /\ k <= i /\ k <= ks.length /\ (i<ks.length -> k=i) /\ (ks.length <= i -> k=ks.length) /\ v4=iV i /\ v3=.slice M k Z /\ Gh 89 1 M k Z (Gf (RZ k)) r /\ Turn (l++R) w (r++(l++R)) wr) (fun _ v4 _=>64-(intOf v4).toNat)
 case atStart=>exact⟨0,0,none,0,[],by omega,by omega,by omega,by omega,by omega,by go_num,rfl,Zb _ _,HT.out⟩
 case round=>
  clear HT;obtain⟨i,k,M,Z,r,hi,ac,ae,a8,aa,rfl,rfl,G,V⟩:=hrel;have E:=uh G;have HV:=uh V
  by_cases a6:i<64
  · have a1:(i:Int)<64:=O
    by_cases N:i<ks.length
    · obtain rfl:k=i:=a8 N
      obtain⟨x,hx⟩:∃x,ks[k]?= some x:=⟨ks[k],a_ N⟩;have af:=H0.out x (q_ hx);obtain⟨g,o,cap,q0,U⟩:=HI.out.at_ (R:=r++R) (V.has.perm po) (SC hx);rw[J.out]at q0;have y:=U 0 _ rfl;rw[Zs]at y;replace y:wr.cell? (aD g (o+k*2))=some (uV (x:Nat)):=y;have k1:(((x:Nat):Int) != 0)=true:=(by rw[Qe];omega);have HN:=uh (UM k);have a5:k+1 <= maxLen:=(by unfold maxLen;omega);have a7:(k+1)*8 <= 140737488355328:=O;have HD:=uh (FH wr b ks hk l (r++R) HI.out (V.has.perm po) k N);clear U V G hx
      go_wp2_with (first
       | (go_at_call 103;refine HD.out.mono ?_;rintro e w' ⟨rfl,hw⟩;rw[hw];clear hw w')
       | (at_builtin;have T6:=uh (HV.out.alloc (.cells #[uV (4294967296+k:Nat)] 89));refine K_ rfl _ _ rfl WR rfl E.out (R:=(wr.heap.size,.cells #[uV (4294967296+k:Nat)] 89)::(l++R)) (T6.out.perm po).has rfl (news:=[uV (4294967296+k:Nat)]) rfl (Qy (A_ _ _)) (by simp[Value.oneCell']) a5 a7 ?_;intro a9 p9 l9 w8 a0 V9 ab;have a2:=uh (((T6.out.perm po).trans V9).perm (l2:=(wr.heap.size,.cells #[uV (4294967296+k:Nat)] 89)::(l9++(l++R))) po);have a4:=uh a0;clear V9 a0 ab)
       | fail)
      go_roundw
      case rel=>exact⟨k+1,k+1,a9,p9,l9,by omega,by omega,by omega,by omega,by omega,by go_num,rfl,by rw[HN.out];exact a4.out,a2.out.tail⟩
      case measure=>simp[intOf];omega
    · obtain⟨g,o,cap,q0,U⟩:=HI.out.at_ (R:=r++R) (V.has.perm po) (Ve O a6)
      rw[J.out]at q0;have y:=U 0 _ rfl;rw[Zs]at y;replace y:wr.cell? (aD g (o+i*2))=some (uV 0):=y;clear U V G
      go_wp2
      go_roundw
      case rel=>exact⟨i+1,k,M,Z,r,by omega,by omega,by omega,by omega,by omega,by go_num,rfl,E.out,HV.out⟩
      case measure=>simp[intOf];omega
  · have a1:¬(i:Int)<64:=O
    obtain rfl:k=ks.length:=aa O;obtain⟨ao,cap,q0⟩:=HI.out.hd (R:=r++R) (V.has.perm po);rw[J.out]at q0;clear G V
    go_wp2
    go_ret;exact⟨M,Z,rfl,r,by first|exact E.out|(have h:=E.out;rw[D_]at h;exact h),HV.out⟩
theorem Pn (w:World)(b:Nat)(ks:List Nat)(hk:ks.length <= 64)(h0:∀a∈ks,a≠0)(l R:List Blk)(hI:VJ b (Mc ks) l)(hH:Has w (l++R)):
  Calls prog 72 #[pt b] w fun e w'=>∃ao cap r,e=.returned (.slice ao ks.length cap) /\ Gh 36 1 ao ks.length cap (Gf ks) r /\ Turn (l++R) w (r++(l++R)) w':=by
 have HI:=uh hI;have HT:Hid (Turn (l++R) w ([]++(l++R)) w):=uh (r_ hH);have H0:=uh h0;have J:=uh (N9 (ks:=ks) hk);clear hI hH h0
 go_enter func72,ntmps72
 go_wp2_with fail
 go_loopw [3,4] (fun v3 v4 wr=>∃(i k:Nat) (M:Option Addr) (U:Nat) (r:List Blk),i <= 64 /\ k <= i /\ k <= ks.length /\ (i<ks.length -> k=i) /\ (ks.length <= i -> k=ks.length) /\ v4=iV i /\ v3=.slice M k U /\ Gh 36 1 M k U (Gf (ks.take k)) r /\ Turn (l++R) w (r++(l++R)) wr) (fun _ v4 _=>64-(intOf v4).toNat)
 case atStart=>exact⟨0,0,none,0,[],by omega,by omega,by omega,by omega,by omega,by go_num,rfl,Zb _ _,HT.out⟩
 case round=>
  clear HT;obtain⟨i,k,M,U,r,hi,ae,af,aa,ab,rfl,rfl,G,V⟩:=hrel;have E:=uh G;have HV:=uh V
  by_cases a7:i<64
  · have a2:(i:Int)<64:=O
    by_cases a0:i<ks.length
    · obtain rfl:k=i:=aa a0
      obtain⟨x,hx⟩:∃x,ks[k]?= some x:=⟨ks[k],a_ a0⟩;have ag:=H0.out x (q_ hx);obtain⟨g,o,cap,Z,N⟩:=HI.out.at_ (R:=r++R) (V.has.perm po) (SC hx);rw[J.out]at Z;have y:=N 0 _ rfl;rw[Zs]at y;replace y:wr.cell? (aD g (o+k*2))=some (uV (x:Nat)):=y;have k1:(((x:Nat):Int) != 0)=true:=(by rw[Qe];omega);have HN:=uh (by rw[Qr,hx,Option.toList_some];simp[Gf]:Gf (ks.take (k+1))=Gf (ks.take k)++[uV (x:Nat)]);have a6:k+1 <= maxLen:=(by unfold maxLen;omega);have a8:(k+1)*8 <= 140737488355328:=O;clear N V G hx
      go_wp2_with (first
       | (at_builtin;have T6:=uh (HV.out.alloc (.cells #[uV (x:Nat)] 36));refine K_ rfl _ _ rfl GF rfl E.out (R:=(wr.heap.size,.cells #[uV (x:Nat)] 36)::(l++R)) (T6.out.perm po).has rfl (news:=[uV (x:Nat)]) rfl (Qy (A_ _ _)) (by simp[Value.oneCell']) a6 a8 ?_;intro a9 p9 l9 w8 a1 V9 ac;have a4:=uh (((T6.out.perm po).trans V9).perm (l2:=(wr.heap.size,.cells #[uV (x:Nat)] 36)::(l9++(l++R))) po);have a5:=uh a1;clear V9 a1 ac)
       | fail)
      go_roundw
      case rel=>exact⟨k+1,k+1,a9,p9,l9,by omega,by omega,by omega,by omega,by omega,by go_num,rfl,by rw[HN.out];exact a5.out,a4.out.tail⟩
      case measure=>simp[intOf];omega
    · obtain⟨g,o,cap,Z,N⟩:=HI.out.at_ (R:=r++R) (V.has.perm po) (Ve O a7)
      rw[J.out]at Z;have y:=N 0 _ rfl;rw[Zs]at y;replace y:wr.cell? (aD g (o+i*2))=some (uV 0):=y;clear N V G
      go_wp2
      go_roundw
      case rel=>exact⟨i+1,k,M,U,r,by omega,by omega,by omega,by omega,by omega,by go_num,rfl,E.out,HV.out⟩
      case measure=>simp[intOf];omega
  · have a2:¬(i:Int)<64:=O
    obtain rfl:k=ks.length:=ab O;obtain⟨ao,cap,Z⟩:=HI.out.hd (R:=r++R) (V.has.perm po);rw[J.out]at Z;clear G V
    go_wp2
    go_ret;exact⟨M,U,rfl,r,by first|exact E.out|(have h:=E.out;rw[D_]at h;exact h),HV.out⟩
theorem AU:Elem prog 143 115 1 8 (uV 0):=Jm underlying143 kr rfl
theorem ZC (w:World)(b:Nat)(ks:List Nat)(hk:ks.length <= 64)(h0:∀a∈ks,a≠0)(l R:List Blk)(hI:Uj b (Mb ks) l)(hH:Has w (l++R)):
  Calls prog 127 #[pt b] w fun e w'=>∃ao cap r,e=.returned (.slice ao ks.length cap) /\ Gh 3 1 ao ks.length cap (J7 (List.range ks.length)) r /\ Turn (l++R) w (r++(l++R)) w':=by
 have HI:=uh hI;have HT:Hid (Turn (l++R) w ([]++(l++R)) w):=uh (r_ hH);have H0:=uh h0;have J:=uh (MA (ks:=ks) hk);clear hI hH h0
 go_enter func127,ntmps127
 go_wp2_with fail
 go_loopw [3,4] (fun v3 v4 wr=>∃(i k:Nat) (M:Option Addr) (U:Nat) (r:List Blk),i <= 64 /\ k <= i /\ k <= ks.length /\ (i<ks.length -> k=i) /\ (ks.length <= i -> k=ks.length) /\ v4=iV i /\ v3=.slice M k U /\ Gh 3 1 M k U (J7 (List.range k)) r /\ Turn (l++R) w (r++(l++R)) wr) (fun _ v4 _=>64-(intOf v4).toNat)
 case atStart=>exact⟨0,0,none,0,[],by omega,by omega,by omega,by omega,by omega,by go_num,rfl,Zb _ _,HT.out⟩
 case round=>
  clear HT;obtain⟨i,k,M,U,r,hi,ae,af,aa,ab,rfl,rfl,G,V⟩:=hrel;have E:=uh G;have HV:=uh V
  by_cases a7:i<64
  · have a2:(i:Int)<64:=O
    by_cases a0:i<ks.length
    · obtain rfl:k=i:=aa a0
      obtain⟨x,hx⟩:∃x,ks[k]?= some x:=⟨ks[k],a_ a0⟩;have ag:=H0.out x (q_ hx);obtain⟨g,o,cap,Z,N⟩:=HI.out.at_ (R:=r++R) (V.has.perm po) (SB hx);rw[J.out]at Z;have y:=N 0 _ rfl;rw[Zs]at y;replace y:wr.cell? (aD g (o+k*3))=some (.bool true):=y;have HN:=uh (by rw[Yk,GS];rfl:J7 (List.range (k+1))=J7 (List.range k)++[iV (k:Nat)]);have a6:k+1 <= maxLen:=(by unfold maxLen;omega);have a8:(k+1)*8 <= 140737488355328:=O;clear N V G hx
      go_wp2_with (first
       | (at_builtin;have T6:=uh (HV.out.alloc (.cells #[iV (k:Nat)] 3));refine K_ rfl _ _ rfl L4 rfl E.out (R:=(wr.heap.size,.cells #[iV (k:Nat)] 3)::(l++R)) (T6.out.perm po).has rfl (news:=[iV (k:Nat)]) rfl (Qy (A_ _ _)) (by simp[Value.oneCell']) a6 a8 ?_;intro a9 p9 l9 w8 a1 V9 ac;have a4:=uh (((T6.out.perm po).trans V9).perm (l2:=(wr.heap.size,.cells #[iV (k:Nat)] 3)::(l9++(l++R))) po);have a5:=uh a1;clear V9 a1 ac)
       | fail)
      go_roundw
      case rel=>exact⟨k+1,k+1,a9,p9,l9,by omega,by omega,by omega,by omega,by omega,by go_num,rfl,by rw[HN.out];exact a5.out,a4.out.tail⟩
      case measure=>simp[intOf];omega
    · obtain⟨g,o,cap,Z,N⟩:=HI.out.at_ (R:=r++R) (V.has.perm po) (ZJ O a7)
      rw[J.out]at Z;have y:=N 0 _ rfl;rw[Zs]at y;replace y:wr.cell? (aD g (o+i*3))=some (.bool false):=y;clear N V G
      go_wp2
      go_roundw
      case rel=>exact⟨i+1,k,M,U,r,by omega,by omega,by omega,by omega,by omega,by go_num,rfl,E.out,HV.out⟩
      case measure=>simp[intOf];omega
  · have a2:¬(i:Int)<64:=O
    obtain rfl:k=ks.length:=ab O;obtain⟨ao,cap,Z⟩:=HI.out.hd (R:=r++R) (V.has.perm po);rw[J.out]at Z;clear G V
    go_wp2
    go_ret;exact⟨M,U,rfl,r,by first|exact E.out|(have h:=E.out;rw[D_]at h;exact h),HV.out⟩
theorem PA (w:World)(b:Nat)(ks:List Nat)(hk:ks.length <= 64)(h0:∀a∈ks,a≠0)(l R:List Blk)(hI:Uj b (Mb ks) l)(hH:Has w (l++R)):
  Calls prog 74 #[pt b] w fun e w'=>∃ao cap r,e=.returned (.slice ao ks.length cap) /\ Gh 115 1 ao ks.length cap (Gf (RZ ks.length)) r /\ Turn (l++R) w (r++(l++R)) w':=by
 have HI:=uh hI;have ac:=uh (MA (ks:=ks) hk);have U:=uh (ZC w b ks hk h0 l R hI hH);clear hI hH h0
 go_enter func74,ntmps74
 go_wp2_with fail
 refine U.out.mono ?_;rintro e w1 ⟨ta,tp,lt,rfl,a1,T1⟩;have HT:Hid (Turn (l++R) w ([]++(lt++(l++R))) w1):=uh T1;have Z:=uh a1;clear U a1 T1
 go_wp2_with fail
 go_loopw [3,5] (fun v3 v5 wr=>∃(k:Nat) (J:Option Addr) (M:Nat) (r:List Blk),k <= ks.length /\ v5=iV k /\ v3=.slice J k M /\ Gh 115 1 J k M (Gf (RZ k)) r /\ Turn (l++R) w (r++(lt++(l++R))) wr) (fun _ v5 _=>ks.length-(intOf v5).toNat)
 case atStart=>exact⟨0,none,0,[],u_ _,by go_num,rfl,Zb _ _,HT.out⟩
 case round=>
  clear HT;obtain⟨k,J,M,r,ae,rfl,rfl,G,V⟩:=hrel;have y:=uh G;have HV:=uh V
  by_cases E:k<ks.length
  · have ab:(k:Int)<(ks.length:Int):=O
    have aa:(k:Int)<64:=O;obtain⟨x,hx⟩:∃x,ks[k]?= some x:=⟨ks[k],a_ E⟩;obtain⟨tb,tq,rfl,-⟩:=(Z.out.src (R:=r++(l++R)) (V.has.perm po)).form (by rw[GX,Xe];omega)
    have N:=uh (fun(W':World) (a2:List Blk) (V:Turn (l++R) w (a2++(lt++(l++R))) W')=>(by
     obtain⟨b',o',he,hc⟩:=(Z.out.src (R:=a2++(l++R)) (V.has.perm po)).form (by rw[GX,Xe];omega)
     cases he
     exact hc k _ (by unfold J7;rw[G_,Yv E];rfl):W'.cell? (aD tb (tq+k))=some (iV (k:Nat))))
    have HN:=uh (UM k);have a6:k+1 <= maxLen:=(by unfold maxLen;omega);have a7:(k+1)*8 <= 140737488355328:=O;have q5:=N.out wr r V;have HD:=uh (FG wr b ks hk l (r++(lt++R)) HI.out (V.has.perm po) k E);clear V G hx N
    go_wp2_with (first
     | (go_at_call 108;refine HD.out.mono ?_;rintro e w' ⟨rfl,hw⟩;rw[hw];clear hw w')
     | (at_builtin;have T6:=uh (HV.out.alloc (.cells #[uV (4294967296+k:Nat)] 115));refine K_ rfl _ _ rfl AU rfl y.out (R:=(wr.heap.size,.cells #[uV (4294967296+k:Nat)] 115)::(lt++(l++R))) (T6.out.perm po).has rfl (news:=[uV (4294967296+k:Nat)]) rfl (Qy (A_ _ _)) (by simp[Value.oneCell']) a6 a7 ?_;intro a9 p9 l9 w8 a0 V9 a8;have a4:=uh (((T6.out.perm po).trans V9).perm (l2:=(wr.heap.size,.cells #[uV (4294967296+k:Nat)] 115)::(l9++(lt++(l++R)))) po);have a5:=uh a0;clear V9 a0 a8)
     | fail)
    go_roundw
    case rel=>exact⟨k+1,a9,p9,l9,by omega,by go_num,rfl,by rw[HN.out];exact a5.out,a4.out.tail⟩
    case measure=>simp[intOf];omega
  · obtain rfl:k=ks.length:=O
    have af:¬((ks.length:Nat):Int)<(ks.length:Int):=O;clear G V
    go_wp2
    go_ret;exact⟨J,M,rfl,r,by first|exact y.out|(have h:=y.out;rw[D_]at h;exact h),(HV.out.perm (l2:=lt++(r++(l++R))) po).drop⟩
theorem Pm (w:World)(b:Nat)(ks:List Nat)(hk:ks.length <= 64)(h0:∀a∈ks,a≠0)(l R:List Blk)(hI:Uj b (Mb ks) l)(hH:Has w (l++R)):
  Calls prog 75 #[pt b] w fun e w'=>∃ao cap y,e=.returned (.slice ao ks.length cap) /\ Gh 36 1 ao ks.length cap (Gf ks) y /\ Turn (l++R) w (y++(l++R)) w':=by
 have HI:=uh hI;have a4:=uh (MA (ks:=ks) hk);have a0:=uh (ZC w b ks hk h0 l R hI hH);clear hI hH h0
 go_enter func75,ntmps75
 go_wp2_with fail
 refine a0.out.mono ?_;rintro e w1 ⟨ta,tp,lt,rfl,aa,T1⟩;have HT:Hid (Turn (l++R) w ([]++(lt++(l++R))) w1):=uh T1;have a2:=uh aa;clear a0 aa T1
 go_wp2_with fail
 go_loopw [3,5] (fun v3 v5 wr=>∃(k:Nat) (a3:Option Addr) (p3:Nat) (y:List Blk),k <= ks.length /\ v5=iV k /\ v3=.slice a3 k p3 /\ Gh 36 1 a3 k p3 (Gf (ks.take k)) y /\ Turn (l++R) w (y++(lt++(l++R))) wr) (fun _ v5 _=>ks.length-(intOf v5).toNat)
 case atStart=>exact⟨0,none,0,[],u_ _,by go_num,rfl,Zb _ _,HT.out⟩
 case round=>
  clear HT;obtain⟨k,a3,p3,y,an,rfl,rfl,Z,V⟩:=hrel;have N:=uh Z;have HV:=uh V
  by_cases a7:k<ks.length
  · have am:(k:Int)<(ks.length:Int):=O
    have ak:(k:Int)<64:=O;obtain⟨x,hx⟩:∃x,ks[k]?= some x:=⟨ks[k],a_ a7⟩;obtain⟨tb,tq,rfl,-⟩:=(a2.out.src (R:=y++(l++R)) (V.has.perm po)).form (by rw[GX,Xe];omega)
    have ac:=uh (fun(W':World) (E:List Blk) (V:Turn (l++R) w (E++(lt++(l++R))) W')=>(by
     obtain⟨b',o',he,hc⟩:=(a2.out.src (R:=E++(l++R)) (V.has.perm po)).form (by rw[GX,Xe];omega)
     cases he
     exact hc k _ (by unfold J7;rw[G_,Yv a7];rfl):W'.cell? (aD tb (tq+k))=some (iV (k:Nat))))
    have HN:=uh (by rw[Qr,hx,Option.toList_some];simp[Gf]:Gf (ks.take (k+1))=Gf (ks.take k)++[uV (x:Nat)]);have ag:k+1 <= maxLen:=(by unfold maxLen;omega);have ah:(k+1)*8 <= 140737488355328:=O;obtain⟨g,o,cap,a6⟩:=HI.out.at2 (by rw[a4.out];omega);have ab:=uh a6
    have M:=uh (fun(W':World) (E:List Blk) (V:Turn (l++R) w (E++(lt++(l++R))) W')=>(by
     have h:=ab.out W' (E++(lt++R)) (V.has.perm po);rw[a4.out]at h;exact⟨h.1,ac.out W' E V,h.2 k _ (SB hx) 1 _ rfl⟩:W'.cell? (aD b 0)=some (.slice (some (aD g o)) 64 cap) /\ W'.cell? (aD tb (tq+k))=some (iV (k:Nat)) /\ W'.cell? (aD g (o+k*3+1))=some (uV (x:Nat))))
    clear V Z hx a6
    go_wp2_with fail
    have r:=M.out _ _ HV.out.drew;have ae:=uh HV.out.drew;clear HV;refine F_ ?_;refine rG (S:=fun W'=>W'.cell? (aD b 0)=some (.slice (some (aD g o)) 64 cap) /\ W'.cell? (aD tb (tq+k))=some (iV (k:Nat)) /\ W'.cell? (aD g (o+k*3+1))=some (uV (x:Nat))) 15 ?_;generalize wr.drew=w5 at*;have T6:=uh (ae.out.alloc (.cells #[uV (x:Nat)] 36));have a5:=M.out _ ((w5.heap.size,.cells #[uV (x:Nat)] 36)::y) T6.out;refine G2 0 14 r ?_;refine G2 1 15 r ?_;refine G2 2 16 r ?_;refine G2 3 17 r ?_;refine Jt 4 18 r (fun w J=>J.1) ?_;refine G2 5 19 r ?_;refine G2 6 20 r ?_;refine G2 7 21 r ?_;refine Jt 8 22 r (fun w J=>J.2.1) ?_;refine G2 9 23 r ?_;refine G2 10 24 r ?_;refine Jt 11 25 r (fun w J=>J.2.2) ?_;refine G5 12 (fun K G=>?_)
    go_simp
    refine G.out _ _ a5 fun _=>?_;clear G K r a5;simp only[Gb,G7,G6];refine G5 13 (fun K G=>?_);refine Xc rfl _ _ rfl GF rfl N.out (R:=(w5.heap.size,.cells #[uV (x:Nat)] 36)::(lt++(l++R))) (T6.out.perm po).has rfl (news:=[uV (x:Nat)]) rfl (Qy (A_ _ _)) (by simp[Value.oneCell']) ag ah ?_;intro a9 p9 l9 w8 a8 V9 aj;have a1:=uh (((T6.out.perm po).trans V9).perm (l2:=(w5.heap.size,.cells #[uV (x:Nat)] 36)::(l9++(lt++(l++R)))) po);have af:=uh a8;have U:=M.out _ _ a1.out.tail;refine G.out _ _ U fun _=>?_;clear G K V9 a8 aj;simp only[Gb,G7,G6];refine G5 14 (fun K G=>?_)
    go_simp
    refine G.out _ _ U fun _=>?_;clear G K U;simp only[Gb,G7,G6];refine P_ kr ?_ _;refine z_ ?_
    go_wp2
    go_roundw
    case rel=>exact⟨k+1,a9,p9,l9,by omega,by go_num,rfl,by rw[HN.out];exact af.out,a1.out.tail⟩
    case measure=>simp[intOf];omega
  · obtain rfl:k=ks.length:=O
    have ap:¬((ks.length:Nat):Int)<(ks.length:Int):=O;clear Z V
    go_wp2
    go_ret;exact⟨a3,p3,rfl,y,by first|exact N.out|(have h:=N.out;rw[D_]at h;exact h),(HV.out.perm (l2:=lt++(y++(l++R))) po).drop⟩
end
section
open Go Go.RowKit
def NH (rs:List Nat):List Slot:=rs.map (fun a=>⟨1,(a:Int),1⟩)++List.replicate (64-rs.length) LC
theorem DU {rs:List Nat}(h:rs.length <= 64):(NH rs).length=64:=by
 unfold NH;rw[e_,n_,W_];omega
theorem Bx {rs:List Nat}{i a:Nat}(h:rs[i]?= some a):(NH rs)[i]?= some ⟨1,(a:Int),1⟩:=by
 unfold NH;rw[Qz (by rw[n_];exact(m_.1 h).1),G_,h]
 rfl
theorem By {rs:List Nat}{i:Nat}(h:rs.length <= i)(h2:i<64):(NH rs)[i]?= some LC:=by
 unfold NH;rw[Qg (by rw[n_];exact h),n_,Xz,v_ O]
theorem DT {rs:List Nat}(h:rs.length<64)(a:Nat):(NH rs).set rs.length ⟨1,(a:Int),1⟩=NH (rs++[a]):=by
 unfold NH;rw[List.set_append_right _ _ (by rw[n_];exact g_ _),n_,Jc];obtain⟨n,r⟩:∃n,64-rs.length=n+1:=⟨63-rs.length,by omega⟩;rw[r,List.replicate_succ,Xf,Za,e_];rw[show 64-(rs.length+[a].length)=n by simp;omega];simp
theorem Ac (rs:List Nat):Lm (NH rs)=rs.map (fun a:Nat=>(a:Int)):=by
 unfold Lm NH;rw[Xv,List.filter_eq_self.2 (fun s r=>by obtain⟨a,-,rfl⟩:=U_.1 r;rfl),List.filter_eq_nil_iff.2 (fun s r=>by rw[Zp r];decide),p_,Zv]
 rfl
theorem Z9 {rs:List Nat}:∀k,k <= 64 -> VP (NH rs) k=(List.range (min k rs.length)).map fun i=>((4294967296+i:Nat):Int)
 | 0,_=>by simp[VP]
 | k+1,hk=>by
  have y:=Z9 (rs:=rs) k O
  by_cases r:k<rs.length
  · obtain⟨a,E⟩:∃a,rs[k]?= some a:=⟨rs[k],a_ r⟩
    rw[SP (Bx E) (Nat.one_ne_zero),y,show min k rs.length=k by omega,show min (k+1) rs.length=k+1 by omega,Yk,Za];simp[wh]
  ·rw[SN (By O O) rfl,y,show min k rs.length=min (k+1) rs.length by omega]
def zl (rs:List Nat):List (Nat×Nat):=rs.zipIdx.map fun x=>(4294967296+x.2,x.1)
theorem RE (rs:List Nat):(zl rs).length=rs.length:=by simp[zl]
theorem XD (rs:List Nat):(zl rs).map (·.1)=RZ rs.length:=by
 unfold zl RZ;rw[Zv];refine Xq fun i=>?_;rw[G_,G_,List.getElem?_zipIdx]
 by_cases r:i<rs.length
 · rw[Yv r,a_ r]
   simp
 · rw[Qb (l:=List.range _) (by rw[Xe];omega),Qb (l:=rs) O]
   rfl
theorem US (rs:List Nat):(zl rs).map (·.2)=rs:=by
 unfold zl;rw[Zv];exact List.zipIdx_map_fst 0 rs
theorem DS {rs:List Nat}(h:rs.length <= 64):Bf (NH rs)=zl rs:=by
 have h1:(Bf (NH rs)).map (·.1)=(zl rs).map (·.1):=by
  rw[UX,DU h,Z9 64 (g_ _),XD,show min 64 rs.length=rs.length by omega,Zv]
  rfl
 have h2:(Bf (NH rs)).map (·.2)=(zl rs).map (·.2):=by
  rw[UW,Ac,US,Zv];exact(Jh fun x _=>rfl).trans (List.map_id rs)
 refine Xq fun i=>?_;have r:=Qu (fun l=>l[i]?) h1;have y:=Qu (fun l=>l[i]?) h2;simp only[G_]at r y
 revert r y
 cases (Bf (NH rs))[i]? <;>cases (zl rs)[i]? <;>simp
 rintro E G;exact Prod.ext E G
theorem PK {rs:List Nat}(h:rs.length <= 64)(r:∀a∈rs,a≠0):Rx (Ss rs)=zl rs:=ZW h r
theorem Fa {rs:List Nat}(h:∀v∈rs,v<18446744073709551616):∀x∈zl rs,x.2<18446744073709551616:=fun x r=>h _ (by
 have h1:x.2∈(zl rs).map (·.2):=U_.2 ⟨x,r,rfl⟩
 rwa [US]at h1)
theorem Af (w:World)(b:Nat):Calls prog 47 #[pt b,uV 0] w fun e w'=>e=.returned (.tuple #[uV 0,iV 2]) /\ w'=w:=by
 go_enter func47,ntmps47
 go_wp2_with fail
 refine f_ (E_ rfl _ _ _) rfl ?_;exact⟨rfl,rfl⟩
theorem FW (w:World)(b:Nat)(ks:List Nat)(r:ks.length<64)(l R:List Blk)(J:Js b (NH ks) l)(G:Has w (l++R))(a:Nat)(U:a≠0):
  Calls prog 47 #[pt b,uV a] w fun e w'=>∃v l',e=.returned (.tuple #[uV v,iV 0]) /\ Js b (NH (ks++[a])) l' /\ Turn (l++R) w (l'++R) w':=by
 refine(DV w J G a O (fun s y=>?_) ks.length LC (By (g_ _) r) rfl (fun j t M E=>?_)).mono ?_
 · unfold NH at y
   rcases s_.1 y with h|h
   · obtain⟨x,-,rfl⟩:=U_.1 h
     show(1:Nat)<_
     omega
   · rw[Zp h]
     decide
 · obtain⟨x,N⟩:∃x,ks[j]?= some x:=⟨ks[j],a_ M⟩
   rw[Bx N]at E
   cases E
   exact Nat.one_ne_zero
 · rintro e w' ⟨rfl,l',h1,T⟩
   have h2:=DT r a;rw[show LC.given+1=1 from rfl,h2]at h1;exact⟨_,l',rfl,h1,T⟩
end
section
open Go Go.RowKit Go.IntWalk
theorem Ub {f y:Nat -> Bool}{L:List Ty}{W:List Nat}{cs:List Ce}{en:Nat}(h:∀g,g<W.length/2 -> f g=y g)(M:en <= W.length/2)(E G J:List (Nat×Nat))(r:Int):Ke f L W cs en E G J r=Ke y L W cs en E G J r:=by
 unfold Ke Jy Lk;rw[S4 fun g N=>h g O]
theorem VM {f:Nat -> Bool}{L:List Ty}{W B:List Nat}{cs:List Ce}{en:Nat}(N:WdIn L W B)(J:Chain L W 0 cs en)(M:Ky L W en){y E G:List (Nat×Nat)}(h1:y.length <= 65536)(h2:E.length <= 65536)(h3:G.length <= 65536)(r:Int):(Ke f L W cs en y E G r).length <= 4000000000:=by
 have U:=MT N J M f;have V:=M0 cs cs.length;have Z:=MF 3 cs y;have a4:=MF 4 cs E;have a5:=RW cs G;have a6:=U6 r (W.length/2);have a7:=J.len;have a8:=M.le;have a9:=N.few;unfold Ke
 split
 · simp only[e_,n_]
   omega
 · rw[n_]
   omega
theorem BE (w:World)(b:Nat)(ks:List Nat)(U:ks.length <= 64)(J:∀a∈ks,a≠0)(l:List Blk)(N:VJ b (Mc ks) l)(M:Has w l):
  Jz 71 89 (some (aD b 0)) w ((zl ks).map (·.1)) /\ Jz 72 36 (some (aD b 0)) w ((zl ks).map (·.2)):=by
 have V:(RZ ks.length).length=ks.length:=by unfold RZ;rw[n_,Xe]
 rw[XD,US];refine⟨fun w' y=>?_,fun w' y=>?_⟩
 · have r:Has w' (l++[]):=by rw[p_];exact M.later y
   refine(PB w' b ks U J l [] N r).mono ?_;rintro e Z ⟨a,p,G,rfl,E,T⟩;rw[V];exact⟨a,p,G,rfl,E,T.free r⟩
 · have r:Has w' (l++[]):=by rw[p_];exact M.later y
   refine(Pn w' b ks U J l [] N r).mono ?_;rintro e Z ⟨a,p,G,rfl,E,T⟩;exact⟨a,p,G,rfl,E,T.free r⟩
theorem BD (w:World)(b:Nat)(ks:List Nat)(U:ks.length <= 64)(J:∀a∈ks,a≠0)(l:List Blk)(N:Uj b (Mb ks) l)(M:Has w l):
  Jz 74 115 (some (aD b 0)) w ((zl ks).map (·.1)) /\ Jz 75 36 (some (aD b 0)) w ((zl ks).map (·.2)):=by
 have V:(RZ ks.length).length=ks.length:=by unfold RZ;rw[n_,Xe]
 rw[XD,US];refine⟨fun w' y=>?_,fun w' y=>?_⟩
 · have r:Has w' (l++[]):=by rw[p_];exact M.later y
   refine(PA w' b ks U J l [] N r).mono ?_;rintro e Z ⟨a,p,G,rfl,E,T⟩;rw[V];exact⟨a,p,G,rfl,E,T.free r⟩
 · have r:Has w' (l++[]):=by rw[p_];exact M.later y
   refine(Pm w' b ks U J l [] N r).mono ?_;rintro e Z ⟨a,p,G,rfl,E,T⟩;exact⟨a,p,G,rfl,E,T.free r⟩
section
variable {w1 w:World} {sb tb rb hd wb pb mb:Nat} {lao:Option Addr} {lcap:Nat} {L:List Ty} {W B Wr:List Nat} {rs:List Nat} {S:List Slot} {m:List (Int×Value)} {X:List Blk}
theorem QR {cs:List Ce}{W':List Nat}(y:PlBase w1 tb L lao lcap)(r:Pl L W B cs)(E:W'.length=W.length)(G:∀v∈W',v<18446744073709551616):WdIn L W' B:=by
 have h1:=r.good.small;have h2:=r.good.few;exact⟨by omega,G,y.ty,by omega,r.bu,by rw[E];exact r.bl⟩
theorem Q0 (V:PlBase w1 tb L lao lcap)(h:JA w1 w sb tb rb hd wb pb mb lao lcap L W B Wr rs S m X)(hf:W.length <= 65536):∃a G bb J r E y,SbAt w sb a G tb bb W B J r E y L:=by
 obtain⟨E,y,N⟩:=V.tab;obtain⟨ls,lr,⟨a,G,bb,Z,lb,U,rfl⟩,hR,hX,T⟩:=h.pl;have hA:=Rh T N V.fields hf;obtain⟨J,r,M⟩:=U.at_ (R:=G0 a G W Z++(G1 sb a tb bb::(lr++[]))) (T.has.perm po);exact⟨a,G,bb,J,r,E,y,hA,T.has.cell (b:=sb) (c:=#[pt a,pt tb,pt bb]) (e:=129) (f:=(0,0)) (by simp[G1]) 2,M⟩
theorem EX (h:JA w1 w sb tb rb hd wb pb mb lao lcap L W B Wr rs S m X)(hf:W.length <= 65536){a:Nat}(hc:w.cell? (aD sb 0)=some (pt a))(i v:Nat)(hi:i<W.length):
  Calls prog 16 #[pt a,iV i,uV v] w fun e w'=>e=.returned (iV 0) /\ JA w1 w' sb tb rb hd wb pb mb lao lcap L (W.set i v) B Wr rs S m X:=by
 obtain⟨ls,N,M,U,V,⟨r,G,bb,n,lb,y,rfl⟩,h2,h3,h4,h5,T⟩:=h;have E:=T.perm (l2:=G0 r G W n++(G1 sb r tb bb::(lb++(N++(M++(U++((mb,V)::(pb,.cells #[.map (some mb)] 204)::X))))))) po;have J:w.cell? (aD sb 0)=some (pt r):=E.has.cell (b:=sb) (c:=#[pt r,pt tb,pt bb]) (e:=129) (f:=(0,0)) (by simp[G1]) 0;rw[hc]at J
 cases J
 refine(VH w E hf i v hi).mono ?_;rintro e w' ⟨rfl,n',Z⟩;exact⟨rfl,_,N,M,U,V,⟨a,G,bb,n',lb,by rw[Qn];exact y,rfl⟩,h2,h3,h4,h5,Z.perm po⟩
theorem Q3 (h:JA w1 w sb tb rb hd wb pb mb lao lcap L W B Wr rs S m X):∃a,w.cell? (aD sb 0)=some (pt a):=by
 obtain⟨N,M,⟨a,y,bb,E,lb,r,rfl⟩,G,J,T⟩:=h.pl;exact⟨a,T.has.cell (b:=sb) (c:=#[pt a,pt tb,pt bb]) (e:=129) (f:=(0,0)) (by simp[G1]) 0⟩
theorem EW {cs:List Ce}{en:Nat}{ks ps y:List Nat}(hb:PlBase w1 tb L lao lcap)(hI:WdIn L W B)(hC:Chain L W 0 cs en)(hE:Ky L W en)(h:JA w1 w sb tb rb hd wb pb mb lao lcap L W B Wr rs (NH ks) m X)(hl:rs.length <= 64)(h0:∀v∈rs,v≠0 /\ v<18446744073709551616)
  (a8:ks.length <= 64)(a7:∀v∈ks,v<18446744073709551616)(hm:PinsOk m ps)(ae:ps.length <= 200)(hy:Kk m y)(U:Option Addr)(E:Int)(a4:XA w U E)(G:List Br)(hG:G=Ke (Gv B) L W cs en (zl rs) (y.map fun v=>(v,v)) (zl ks) E):
  Calls prog 17 #[pt sb,pt hd,pt wb,pt pb,.pointer U] w fun e w'=>∃ao cap l,e=.returned (.tuple #[.slice ao G.length cap,iV 0]) /\
   Gh 39 5 ao G.length cap (Nm G) l /\ Turn [] w l w':=by
 obtain⟨a,aw,bb,bo,a2,ab,a3,hA⟩:=Q0 hb h hI.few;obtain⟨ls,lr,lh,N,Z,h1,h2,h3,h4,h5,T⟩:=h;have ac:=hm.len;have hz:=PK hl (fun v J=>(h0 v J).1);have aa:=DS a8;have a0:=h3.pointed (R:=ls++(lr++(N++((mb,Z)::(pb,.cells #[.map (some mb)] 204)::X)))) (T.has.perm po);have a1:Has w N:=(T.has.perm (l':=N++(ls++(lr++(lh++((mb,Z)::(pb,.cells #[.map (some mb)] 204)::X))))) po).left;have a9:U9 w pb mb m:=⟨T.has.cell (b:=pb) (c:=#[.map (some mb)]) (e:=204) (f:=(0,0)) (by simp) 0,Z,T.has.own mb Z (by simp),h5⟩;have af:y.length <= 4096:=hy.2.2.1
 have V:∀x∈y,x<18446744073709551616:=fun x M=>by
  obtain⟨p,hp,he⟩:=U_.1 ((hy.2.2.2 x).1 M);have:=(hm.keys p hp).2;omega
 have a6:(y.map fun v=>(v,v)).map (·.2)=y:=by rw[Zv];exact List.map_id _
 have a5:∀s∈NH ks,0 <= s.addr:=fun s r=>by
  unfold NH at r;rcases s_.1 r with r|r
  · obtain⟨a,-,rfl⟩:=U_.1 r
    exact Yb _
  · rw[Zp r]
    exact Int.le_refl _
 have t1:=Mf w _ (Ss rs) (by rw[SG hl];omega) (fun s r=>(UN s r).1) a0;have t2:=N7 w _ (Ss rs) (by rw[SG hl];omega) (fun s r=>by have:=(UN s r).2;omega) a0;have t3:=VV w pb mb m y a9 hm.keys O hy;have t4:=VT w wb (NH ks) N h4 a1 a5;have t5:=VU w wb (NH ks) N h4 a1;rw[hz]at t1 t2;rw[aa]at t4 t5;rw[←a6]at t3;exact j0 w sb a aw tb bb bo a2 ab a3 L cs en hA hI hC hE (some (aD hd 0)) (some (aD wb 0)) (some (aD pb 0)) (zl rs) (zl ks) (y.map fun v=>(v,v)) (Fa fun v J=>(h0 v J).2) (Fa a7) (fun x M=>by obtain⟨v,J,rfl⟩:=U_.1 M;exact V v J) (by rw[RE];omega) (by rw[RE];omega) (by rw[n_];omega) (fun x M=>by obtain⟨v,J,rfl⟩:=U_.1 M;rfl) t1 t2 t3 t4 t5 U E a4 G hG
end
theorem Wq (w:World){W:List Nat}(ao:Option Addr)(cap:Nat)(hS:Src w ao W.length cap 1 (u64s W))(hf:W.length <= 65536)(hu:∀v∈W,v<18446744073709551616)(L:List Ty)(az:∀t∈L,TyIn t)(hL:L.length <= 1000)(ak:Option Addr)(ae:Nat)(ay:Src w ak L.length ae 3 (tys L))
  (cs:List Ce)(en:Nat)(hC:Chain L W 0 cs en)(hE:Ky L W en):
  Calls prog 68 #[.slice ao W.length cap,.slice ak L.length ae] w fun e w'=>∃ax am l,e=.returned (.tuple #[.slice ax cs.length am,iV en]) /\ Gh 127 5 ax cs.length am (ces cs) l /\ Turn [] w l w':=by
 have a5:=Gr;have ag:=uh (fun w' (hB:Below w.heap.size w w') (g:Int)=>CR w' ao cap (hS.below hB) hf hu g);have a7:=uh (fun w' (hB:Below w.heap.size w w') h hi=>D9 w' L az hL ak ae (ay.below hB) h hi);have aK:((W.length:Int)).tdiv 2=((W.length/2:Nat):Int):=GC _ 2;have au:(W.length:Int)/2=((W.length/2:Nat):Int):=O;have af:=hC.len;have aF:=hE.le;have aj:=uh (fun(g:Nat) (h:Hd) (hs:∀h,¬JH L W g h) (hh:JX W g=some h)=>(fun hb=>hs h (Ut hh hb.1 hb.2):¬(Ka L h=0 /\ g+h.size <= W.length/2)));have HE:=uh hE;have hn:=uh (C_ w);have HC:=uh hC;obtain⟨z,hz⟩:∃z:Nat,W.length/2=z:=⟨_,rfl⟩;unfold Ky at HE;rw[hz]at aK au aF HE aj;have b3:z <= 32768:=O;clear hS ay hu az hC hE hz
 go_enter func68,ntmps68
 go_wp2_with fail
 go_loopw [6,7] (fun v6 v7 wr=>∃(pre Z:List Ce) (g:Nat) (a6:Option Addr) (p6:Nat) (lr:List Blk),cs=pre++Z /\ v7=iV g /\ v6=.slice a6 pre.length p6 /\ Chain L W g Z en /\ Gh 127 5 a6 pre.length p6 (ces pre) lr /\ Turn [] w lr wr) (fun _ v7 _=>z+1-(intOf v7).toNat)
 case atStart=>exact⟨[],cs,0,none,0,[],rfl,rfl,rfl,HC.out,Zb _ _,r_ hn.out⟩
 case round=>
  clear HC hn;obtain⟨pre,Z,g,a6,p6,lr,ab,rfl,rfl,aB,ah,T⟩:=hrel
  cases Z with
  | nil=>
   obtain rfl:g=en:=aB;rw[p_]at ab;subst ab;have HT:=uh T;have Hr:=uh ah;clear T ah af;rcases HE.out with aT|⟨aE,ap⟩
   · have b1:¬(g:Int)<(z:Int):=O
     clear aT
     go_wp2
     refine f_ (E_ rfl _ _ _) rfl ?_;exact⟨a6,p6,rfl,lr,Hr.out,HT.out⟩
   · have k4:(g:Int)<(z:Int):=O
     have J:=uh (ag.out wr HT.out.below g)
     cases hh:JX W g with
     | none=>
      have aW:=LF hh;rw[hh]at J;simp only[Jj]at J;generalize K0 W g=er at*;have aY:(er != 0)=true:=Qe.2 aW;obtain⟨x0,aJ⟩:∃x,AM=x:=⟨_,rfl⟩;rw[aJ]at J;clear aJ;obtain⟨y,E,G,r⟩:=x0;have a1:=GP ⟨y,E,G,r⟩;simp only at a1;clear ap hh aE a7 ag
      go_wp2_with fail
      refine J.out.mono ?_;rintro e w1 ⟨rfl,a0⟩;have T2:=(HT.out.call a0).alloc zH;have a2:(w1.alloc zH).there w1.heap.size 0 4:=T2.there1;have M:=uh (T2.laid [yV y,iV E,iV G,iV r] rfl);have V:=M.out.range1;clear T2 a0 HT J
      go_upto_region 5 with(first
       | (show sW 125;refine h_ rfl 125 _ _ rfl _ 0 #[yV y,iV E,iV G,iV r] rfl rfl a2 a5 a1 ?_;clear a2)
       | fail)
      go_wp2
      refine f_ (E_ rfl _ _ _) rfl ?_;exact⟨a6,p6,lr,rfl,Hr.out,M.out.tail⟩
     | some h=>
      obtain⟨hm,aU,aV,aC⟩:=L8 hh;have a8:=aj.out g h ap hh;rw[hh,aC]at J;simp only[Zc]at J;have a4:=uh (fun w' (hB:Below w.heap.size w w')=>a7.out w' hB h (M8 hm));generalize Ka L h=fe at*;have aM:=hm.2.1;obtain⟨y,E,G,r⟩:=h;have a1:=GP ⟨y,E,G,r⟩;simp only at a1 a8 aM;clear ap hh aE aU aV hm aC a7 ag aj
      go_wp2_with fail
      refine J.out.mono ?_;rintro e w1 ⟨rfl,a0⟩;have T2:=(HT.out.call a0).alloc zH;have a2:(w1.alloc zH).there w1.heap.size 0 4:=T2.there1;have M:=uh (T2.laid [yV y,iV E,iV G,iV r] rfl);have V:=M.out.range1;clear T2 a0 HT J
      go_wp2_with (first
       | (show sW 125;refine h_ rfl 125 _ _ rfl _ 0 #[yV y,iV E,iV G,iV r] rfl rfl a2 a5 a1 ?_;clear a2)
       | (show lW 125;refine Xb 125 _ rfl (by rfl) w1.heap.size 0 rfl [yV y,iV E,iV G,iV r] _ V underlying125 rfl a5 ?_;clear V)
       | fail)
      refine(a4.out _ M.out.below).mono ?_;rintro e w2 ⟨rfl,aa⟩;have U:=uh (M.out.call aa);have c3:=U.out.cell1 3;clear M aa a4
      by_cases aG:fe=0
      · subst aG
        have aZ:¬g+r <= z:=fun h=>a8 ⟨rfl,h⟩;have k1:IntKind.i64.wrap ((z:Int)-(g:Int))=(z:Int)-(g:Int):=i64_in _ O;have k3:((z:Int)-(g:Int))<(r:Int):=O;have k2:decide (((z:Int)-(g:Int))<(r:Int))=true:=k_ k3;clear a8
        go_wp2
        refine f_ (E_ rfl _ _ _) rfl ?_;exact⟨a6,p6,lr,rfl,Hr.out,U.out.tail⟩
      · have b0:(fe != 0)=true:=Qe.2 aG
        clear a8
        go_wp2
        refine f_ (E_ rfl _ _ _) rfl ?_;exact⟨a6,p6,lr,rfl,Hr.out,U.out.tail⟩
  | cons c Z=>
   obtain⟨N,h⟩:=c;obtain⟨aA,ac,a3⟩:=aB;simp only at aA ac a3;subst aA;have aL:=ac.pos;have av:N+h.size <= z:=Qf a3.le aF;obtain⟨e1,e2,e3,e4⟩:=L6 ac;have an:=ac.2.1.1;have J:=uh (ag.out wr T.below N);rw[e1,e2]at J;have a4:=uh (fun w' (hB:Below w.heap.size w w')=>a7.out w' hB h (M8 an));rw[e3]at a4;have b2:pre.length <= z:=(by rw[ab,e_,B_]at af;omega);have aQ:pre.length+1 <= maxLen:=(by unfold maxLen;omega);have aR:(pre.length+1)*40 <= 140737488355328:=O;have HT:=uh T;have Hr:=uh ah;have aq:=uh a3;have aN:=uh ab;clear T ah a3 ab ac e1 e2 e3 af;obtain⟨y,E,G,r⟩:=h;simp only at aL av;have a1:=GP ⟨y,E,G,r⟩;simp only at a1;have k1:IntKind.i64.wrap ((z:Int)-(N:Int))=(z:Int)-(N:Int):=i64_in _ O;have k2:decide (((z:Int)-(N:Int))<(r:Int))=false:=b_ O;have k3:¬((z:Int)-(N:Int))<(r:Int):=O;have k4:(N:Int)<(z:Int):=O;clear an e4
   go_wp2_with fail
   refine J.out.mono ?_;rintro e w1 ⟨rfl,a0⟩;simp only[Zc];have T2:=(HT.out.call a0).alloc zH;have a2:(w1.alloc zH).there w1.heap.size 0 4:=T2.there1;have M:=uh (T2.laid [yV y,iV E,iV G,iV r] rfl);have V:=M.out.range1;clear T2 a0 HT J
   go_wp2_with (first
    | (show sW 125;refine h_ rfl 125 _ _ rfl _ 0 #[yV y,iV E,iV G,iV r] rfl rfl a2 a5 a1 ?_;clear a2)
    | (show lW 125;refine Xb 125 _ rfl (by rfl) w1.heap.size 0 rfl [yV y,iV E,iV G,iV r] _ V underlying125 rfl a5 ?_;clear V)
    | fail)
   refine(a4.out _ M.out.below).mono ?_;rintro e w2 ⟨rfl,aa⟩;have U:=uh (M.out.call aa);have c3:=U.out.cell1 3;have V:=U.out.range1;clear M aa a4
   go_upto_region 7 with fail
   have aS:∀u∈([iV N,yV y,iV E,iV G,iV r]:List Value),u.oneCell'=true:=by simp[Value.oneCell']
   go_wp2_with (first
    | (show lW 125;refine J_ rfl 125 _ rfl w1.heap.size 0 rfl [yV y,iV E,iV G,iV r] _ V underlying125 rfl a5 ?_;clear V)
    | (at_builtin;refine K_ rfl _ _ rfl Vz rfl Hr.out (R:=[(w2.heap.size,.cells #[iV N,yV y,iV E,iV G,iV r] 127),(w1.heap.size,.cells #[yV y,iV E,iV G,iV r] 125)]) ((U.out.alloc (.cells #[iV N,yV y,iV E,iV G,iV r] 127)).perm po).has rfl (news:=[iV N,yV y,iV E,iV G,iV r]) rfl (Qy (A_ _ _)) aS aQ aR ?_;intro a9 p9 l9 w4 aH V4 aX;have V5:=uh (((U.out.alloc (.cells #[iV N,yV y,iV E,iV G,iV r] 127)).perm (l2:=lr++[(w2.heap.size,.cells #[iV N,yV y,iV E,iV G,iV r] 127),(w1.heap.size,.cells #[yV y,iV E,iV G,iV r] 125)]) po).trans V4);have aP:=uh aH;have d3:=V5.out.has.cell (b:=w1.heap.size) (c:=#[yV y,iV E,iV G,iV r]) (e:=125) (f:=(0,0)) (by simp) 3;clear aH V4 aX c3 U)
    | fail)
   go_roundw
   case rel=>exact⟨pre++[(N,⟨y,E,G,r⟩)],Z,N+r,a9,p9,l9,by rw[aN.out,Qq];rfl,by go_num,by rw[e_];rfl,aq.out,by rw[e_,Ra];exact aP.out,V5.out.sub (x_ l9 _)⟩
   case measure=>simp[intOf];omega
theorem Vm {cs:List Ce}{g i:Nat}{c:Ce}(h:cs[i]?= some c):g∈ats (cs.take (i+1))↔g∈ats (cs.take i)∨(c.2.tag=1 /\ c.1=g):=by
 rw[Np h,s_]
 by_cases r:c.2.tag=1
 · rw[v_ r,Qa]
   exact⟨fun h=>h.imp id (fun h=>⟨r,h.symm⟩),fun h=>h.imp id (fun h=>h.2.symm)⟩
 · rw[y_ r]
   exact⟨fun h=>h.imp id (fun h=>by cases h),fun h=>h.imp id (fun h=>absurd h.1 r)⟩
theorem Y4 {cs:List Ce}{g i:Nat}{c:Ce}(h:cs[i]?= some c)(y:c.2.tag=1)(r:c.1=g):g∈ats cs:=by
 rw[Rs];exact⟨c,Nf (q_ h) y,r⟩
theorem jX (w:World)(cs:List Ce)(ca:Option Addr)(cc:Nat)(hS:Src w ca cs.length cc 5 (ces cs))(hl:cs.length <= 65536)(g:Nat):
  Calls prog 174 #[.slice ca cs.length cc,iV g] w fun e w'=>e=.returned (.bool (decide (g∈ats cs))) /\ Below w.heap.size w w':=by
 have HS:=uh (fun w' (hk:Below w.heap.size w w')=>hS.below hk);clear hS
 go_enter func174,ntmps174
 go_wp2_with fail
 go_loopw [5] (fun Z wr=>∃(i:Nat),i <= cs.length /\ Z=iV i /\ g∉ats (cs.take i) /\ Below w.heap.size w wr) (fun Z _=>cs.length-(intOf Z).toNat)
 case atStart=>exact⟨0,u_ _,by go_num,by simp[ats,objs],T_ _ _⟩
 case round=>
  obtain⟨i,hi,rfl,J,y⟩:=hrel
  by_cases a0:i<cs.length
  · have a1:(i:Int)<(cs.length:Int):=O
    obtain⟨c,N⟩:∃c,cs[i]?= some c:=⟨cs[i],a_ a0⟩;have E:=HS.out wr y;obtain⟨b,off,rfl,-⟩:=E.form (by rw[GW];omega);have M:wr.rangeAt b (off+i*5) [iV c.1,yV c.2.tag,iV c.2.typ,iV c.2.len,iV c.2.size]:=E.ce N;have q0:=M 0 _ rfl;rw[Zs]at q0;have q1:=M 1 _ rfl;have HN:=uh (Vm (g:=g) N);have HM:=uh (Y4 (g:=g) N);have r:=uh y;have Hn:=uh J;clear E M N y J
    by_cases G:c.1=g
    · have k0:(((c.1:Nat):Int) == (g:Int))=true:=by rw[Qx];omega
      by_cases U:c.2.tag=1
      · have k1:(((c.2.tag:Nat):Int) == 1)=true:=by rw[Qx];omega
        have Hd:=uh (k_ (HM.out U G));clear G U
        go_wp2
        go_ret;exact⟨by first|(rw[Hd.out];done)|(rw[Hd.out];rfl)|simp[Hd.out],r.out⟩
      · have k1:(((c.2.tag:Nat):Int) == 1)=false:=by rw[j_];omega
        have V:Hid (g∉ats (cs.take (i+1))):=uh (fun h=>(HN.out.1 h).elim Hn.out (fun h=>U h.1));clear G U
        go_wp2
        go_roundw
        case rel=>exact⟨i+1,by omega,by go_num,V.out,r.out⟩
        case measure=>simp[intOf];omega
    · have k0:(((c.1:Nat):Int) == (g:Int))=false:=by rw[j_];omega
      have V:Hid (g∉ats (cs.take (i+1))):=uh (fun h=>(HN.out.1 h).elim Hn.out (fun h=>G h.2));clear G
      go_wp2
      go_roundw
      case rel=>exact⟨i+1,by omega,by go_num,V.out,r.out⟩
      case measure=>simp[intOf];omega
  · obtain rfl:i=cs.length:=O
    have a2:¬((cs.length:Nat):Int)<(cs.length:Int):=O;rw[D_]at J;have Hd:=uh (b_ J);have r:=uh y;clear J y
    go_wp2
    go_ret;exact⟨by first|(rw[Hd.out];done)|(rw[Hd.out];rfl)|simp[Hd.out],r.out⟩
theorem QQ (w:World)(v:Nat)(Z:v<18446744073709551616):Calls prog 222 #[uV v] w fun e w'=>e=.returned (.tuple #[iV (if 1048576 <= v /\ v<1114112 then((v-1048576:Nat):Int)else 0),.bool (decide (1048576 <= v /\ v<1114112))]) /\ w'=w:=by
 by_cases h1:v<1048576
 · have G:decide ((v:Int)<1048576)=true:=k_ O
   have J:decide (v<1048576)=true:=k_ h1;have r:¬(1048576 <= v /\ v<1114112):=O;rw[y_ r,b_ r];clear r h1
   go_enter func222,ntmps222
   go_wp2
   refine f_ (E_ rfl _ _ _) rfl ?_;exact⟨rfl,rfl⟩
 · have G:decide ((v:Int)<1048576)=false:=b_ O
   have J:decide (v<1048576)=false:=b_ h1;have E:IntKind.u64.wrap ((v:Int)-1048576)=((v-1048576:Nat):Int):=by rw[IntKind.wrap_u64];omega
   by_cases h2:v<1114112
   · have r:1048576 <= v /\ v<1114112:=O
     rw[v_ r,k_ r];obtain⟨u,y⟩:∃u,v-1048576=u:=⟨_,rfl⟩;have V:u<65536:=O;have M:decide ((1114112:Int) <= (v:Int))=false:=b_ O;have N:decide (1114112 <= v)=false:=b_ O;have U:IntKind.i64.wrap (u:Int)=(u:Int):=i64_in _ O;rw[y]at E ⊢;clear y r h1 h2
     go_enter func222,ntmps222
     go_wp2
     refine f_ (E_ rfl _ _ _) rfl ?_;exact⟨rfl,rfl⟩
   · have r:¬(1048576 <= v /\ v<1114112):=O
     rw[y_ r,b_ r];obtain⟨u,y⟩:∃u,v-1048576=u:=⟨_,rfl⟩;have M:decide ((1114112:Int) <= (v:Int))=true:=k_ O;have N:decide (1114112 <= v)=true:=k_ O;rw[y]at E;clear y r h1 h2
     go_enter func222,ntmps222
     go_wp2
     refine f_ (E_ rfl _ _ _) rfl ?_;exact⟨rfl,rfl⟩
theorem BF (w:World)(cs:List Ce)(ca:Option Addr)(cc:Nat)(hS:Src w ca cs.length cc 5 (ces cs))(hl:cs.length <= 65536)(v:Nat)(hv:v<18446744073709551616):
  Calls prog 176 #[.slice ca cs.length cc,uV v] w fun e w'=>e=.returned (iV (NT (ats cs) v)) /\ Below w.heap.size w w':=by
 have y:=uh (QQ w v hv);have HS:=uh (fun(w':World) (hk:Below w.heap.size w w') (g:Nat)=>jX w' cs ca cc (hS.below hk) hl g);generalize ats cs=A at*;clear hS
 by_cases h1:1048576 <= v /\ v<1114112
 · rw[v_ h1,k_ h1]at y
   obtain⟨u,E⟩:∃u,v-1048576=u:=⟨_,rfl⟩;have a2:u<65536:=O;have U:((u:Int)).tmod 2=((u%2:Nat):Int):=Mz _ 2;have V:((u:Int))%2=((u%2:Nat):Int):=O;have Z:((u:Int)).tdiv 2=((u/2:Nat):Int):=GC _ 2;have a0:((u:Int))/2=((u/2:Nat):Int):=O
   by_cases h2:u%2=0
   · obtain⟨d,hd⟩:∃d,u/2=d:=⟨_,rfl⟩
     by_cases J:d∈A
     · have r:NT A v=(d:Int):=by unfold NT;rw[E,hd,v_ ⟨h1.1,h1.2,by omega,J⟩]
       have M:=uh (HS.out w (T_ _ _) d);rw[k_ J]at M;rw[r];rw[E]at y;rw[hd]at Z a0;rw[h2]at U V;clear r hd E h1 J h2
       go_enter func176,ntmps176
       go_wp2_with fail
       refine y.out.mono ?_;rintro e w2 ⟨rfl,G⟩;subst G
       go_wp2_with fail
       refine M.out.mono ?_;rintro e w3 ⟨rfl,N⟩
       go_wp2_with fail
       go_ret;exact⟨rfl,N⟩
     · have r:NT A v= -1:=by unfold NT;rw[E,hd,y_ (fun h=>J h.2.2.2)]
       have M:=uh (HS.out w (T_ _ _) d);rw[b_ J]at M;rw[r];rw[E]at y;rw[hd]at Z a0;rw[h2]at U V;clear r hd E h1 J h2
       go_enter func176,ntmps176
       go_wp2_with fail
       refine y.out.mono ?_;rintro e w2 ⟨rfl,G⟩;subst G
       go_wp2_with fail
       refine M.out.mono ?_;rintro e w3 ⟨rfl,N⟩
       go_wp2_with fail
       go_ret;exact⟨rfl,N⟩
   · have r:NT A v= -1:=by unfold NT;rw[y_ (fun h=>by omega)]
     have a1:u%2=1:=O;rw[r];rw[E]at y;rw[a1]at U V;clear r E h1 h2 a1
     go_enter func176,ntmps176
     go_wp2_with fail
     refine y.out.mono ?_;rintro e w2 ⟨rfl,G⟩;subst G
     go_wp2_with fail
     go_ret;exact⟨rfl,T_ _ _⟩
 · rw[y_ h1,b_ h1]at y
   have r:NT A v= -1:=(by unfold NT;rw[y_ (fun h=>h1 ⟨h.1,h.2.1⟩)]);rw[r];clear r h1
   go_enter func176,ntmps176
   go_wp2_with fail
   refine y.out.mono ?_;rintro e w2 ⟨rfl,G⟩;subst G
   go_wp2_with fail
   go_ret;exact⟨rfl,T_ _ _⟩
theorem Ak (w:World)(t:Ty)(M:TyIn t)(n:Nat)(N:t.err n≠0):
  Calls prog 209 #[K7 t,iV n] w fun e w'=>e=.returned (.tuple #[.slice none 0 0,iV (t.err n)]) /\ Below w.heap.size w w':=by
 have r:=uh (fun W=>Vg W t M n);rw[y_ N]at r;generalize t.err n=U at*;have J:=(r_ (C_ w)).alloc (.cells #[yV t.kind,iV t.words,uV t.mask] 79);have E:=uh J.below;clear J M;obtain⟨k,m,mk⟩:=t
 go_enter func209,ntmps209
 go_wp2_with fail
 refine(r.out _).mono ?_;rintro e V ⟨rfl,y⟩;have G:=uh (E.out.trans (y.mono E.out.size));clear y E
 go_wp2_with fail
 refine f_ (E_ rfl _ _ _) rfl ?_;exact⟨rfl,G.out⟩
def Kg (t:Ty)(n:Nat):List Nat:=if t.err n=0 then t.refs n else []
theorem Et (w:World)(t:Ty)(y:TyIn t)(n:Nat):
  Calls prog 209 #[K7 t,iV n] w fun e w'=>∃ao cap l E,e=.returned (.tuple #[.slice ao (Kg t n).length cap,iV E]) /\ Gh 3 1 ao (Kg t n).length cap (J7 (Kg t n)) l /\ Turn [] w l w':=by
 unfold Kg
 by_cases r:t.err n=0
 · rw[v_ r]
   exact(Fv w t y n r).mono fun e w' ⟨ao,cap,l,h1,h2,G⟩=>⟨ao,cap,l,0,h1,h2,G⟩
 · rw[y_ r]
   exact(Ak w t y n r).mono fun e w' ⟨h1,h2⟩=>⟨none,0,[],_,h1,Zb _ _,Ze (C_ w) h2⟩
theorem DZ {L:List Ty}(r:∀t∈L,TyIn t)(y:Int):TyIn (tyAt L y):=by
 unfold tyAt
 cases h:Kc L y with
 | none=>exact⟨by decide,by decide,by decide,by decide⟩
 | some t=>exact r t (by obtain⟨k,-,h2,-⟩:=KZ h;exact q_ h2)
theorem Pp (w:World)(L:List Ty)(U:∀t∈L,TyIn t)(hL:L.length <= 1000)(E:Option Addr)(r:Nat)(N:Src w E L.length r 3 (tys L))(c:Ce):
  Calls prog 175 #[.slice E L.length r,.agg (LB c).toArray] w fun e w'=>∃ao cap l,e=.returned (.slice ao (Kg (tyAt L c.2.typ) c.2.len).length cap) /\ Gh 3 1 ao (Kg (tyAt L c.2.typ) c.2.len).length cap (J7 (Kg (tyAt L c.2.typ) c.2.len)) l /\ Turn [] w l w':=by
 have HG:=uh (fun w' (hk:Below w.heap.size w w')=>Pk w' L E r (N.below hk) hL c.2.typ);have HA:=uh (fun w'=>Et w' (tyAt L c.2.typ) (DZ U c.2.typ) c.2.len);generalize Kg (tyAt L c.2.typ) c.2.len=R at*;generalize tyAt L c.2.typ=t at*;generalize(if (Kc L c.2.typ).isSome then(0:Int)else 3)=er at*;have Z:=JZ;obtain⟨k,m,mk⟩:=t;have V:=KH ⟨k,m,mk⟩;simp only at V;obtain⟨cg,⟨ca,cb,cc,cd⟩⟩:=c;simp only at HG HA;have J:=uh ((r_ (C_ w)).alloc (.cells #[iV cg,yV ca,iV cb,iV cc,iV cd] 127));have q1:=J.out.cell1 2;clear N U
 go_enter func175,ntmps175
 go_wp2_with fail
 refine(HG.out _ J.out.below).mono ?_;rintro e w1 ⟨rfl,M⟩;have T2:=(J.out.call M).alloc zT;have a0:(w1.alloc zT).there w1.heap.size 0 3:=T2.there1;have y:=uh (T2.laid [yV k,iV m,uV mk] rfl);clear T2 M J HG q1
 go_wp2_with (first
  | (show sW 79;refine h_ rfl 79 _ _ rfl _ 0 #[yV k,iV m,uV mk] rfl rfl a0 Z V ?_;clear a0;generalize(w1.alloc zT).setCells w1.heap.size 0 [yV k,iV m,uV mk]=w3 at*;generalize w1.heap.size=tb at*;have hr:=y.out.range1;have q2:=y.out.cell2 3)
  | (show lW 79;refine J_ rfl 79 _ rfl tb 0 rfl [yV k,iV m,uV mk] _ hr underlying79 rfl Z ?_;clear hr)
  | fail)
 refine(HA.out _).mono ?_;rintro e w4 ⟨ao,cap,l,a1,rfl,G,T4⟩;have HX:=uh (And.intro G (y.out.grow T4));clear G T4 y HA q2
 go_wp2_with fail
 go_ret;exact⟨ao,cap,l,rfl,HX.out.1,HX.out.2.sub (x_ l _)⟩
end
end Go.Proofs.YtoaofpohakaliaaGreatDoor
