/-
  A part of a proof: texts packed by a program of mine.
  Conditions: those that each theorem states.
-/
import Derived.OwnWalkIn
import Derived.Sort.CutIn
import Derived.Lib.SlKeysI
import Derived.WideShapes
import Derived.Shelf.SlIterI.Nil
import Derived.Shelf.SortM.Plain
import Derived.Shelf.SortM.SortNone
import Derived.Ground.GgzProg
import Derived.Ground.SlgmProg
import Derived.Lib.AppendIntMem
import Derived.Lib.SliceRun
import Derived.Scope
import Derived.Sort.AssemblyPlain
import Derived.Sort.WalkA6
import Derived.Sort.WalkB3
import Derived.Sort.WalkC4
import Derived.Sort.Walk7
import Derived.Sort.Walk13a
import Derived.BigQuiet
import Derived.Deep.Cut
import Derived.Deep.CutRange
import Derived.Sort.AtCall
import Derived.Test.YtoaofpohakaliaaGreatDoorProg
import Derived.Laws.EntriesVeiled
import Derived.RangeFuncSeq
import Derived.Sort.MapsRangeIn
import Derived.Sort.KeysCollected
import Derived.WalkKit
import Derived.TacticsInMore
import Derived.LoopNIn
import Derived.LoopIn
import Derived.Deep.QuietTactic
import Derived.WalkSpells
import Derived.Shelf.Abstract
import Derived.Deep.RegionLaw
import Derived.Deep.RegionHeld3
import Derived.Test.YtoaofpohakaliaaGreatDoorQt3
set_option maxRecDepth 100000
set_option maxHeartbeats 12800000
open Go.Proofs.Tryz
namespace Go.Proofs.YtoaofpohakaliaaGreatDoor
section
open Go Go.RowKit Go.Shelf Go.IntWalk
theorem gY (w:World)(bb n:Nat)(B:List Nat)(bo:Option Addr)(cap:Nat)(N:BitAt w bb B n bo cap)(hl:B.length <= 65536):
  Calls prog 162 #[pt bb] w fun e w'=>∃Z l,e=.returned (pt Z) /\ GD Z B n l /\ Turn [] w l w':=by
 have Hc:=uh (fun w' (hB:Below w.heap.size w w')=>UR (R:=[]) w' ((N.below hB).src) (C_ _) (Mx _) O);have U:=uh N;clear N
 go_enter func162,ntmps162
 go_wp2_with fail
 have r:Below w.heap.size w w.drew:=(r_ (C_ w)).drew.below;refine F_ ?_;refine rG (S:=fun u=>Below w.heap.size w u) 12 ?_;generalize w.drew=u0 at*;refine G2 0 5 r ?_;refine G2 1 6 r ?_;refine G2 2 7 r ?_;refine Jt 3 8 r (fun w E=>(U.out.below E).c0) ?_;refine G2 5 10 r ?_;refine G2 6 11 r ?_;refine G2 7 12 r ?_;refine Jt 8 13 r (fun w E=>(U.out.below E).c1) ?_;refine G5 4 (fun K y=>?_)
 go_simp
 refine(Hc.out u0 r).mono ?_;rintro e u1 ⟨ao,cp,l1,rfl,hr,M,-⟩;rw[p_]at M
 have G:Turn [] w l1 u1:=by
  have h:=(Ze (C_ w) r).grow M
  rwa [p_]at h
 have Hr:=uh hr;clear M hr r;refine y.out _ _ G.below fun _=>?_;clear y K;simp only[Gb,G7,G6];refine G2 9 14 G.below ?_;refine G5 10 (fun K y=>?_)
 go_simp
 have J:=G.alloc (.cells #[.slice ao B.length cp,iV n] 233);refine y.out _ _ J.below fun _=>?_;clear y K;simp only[Gb,G7,G6];refine G2 11 2 J.below ?_;refine P_ kr ?_ _;refine z_ ?_;have V:=uh J;clear J G
 go_wp2_with fail
 go_ret;exact⟨u1.heap.size,_,rfl,⟨ao,cp,l1,Hr.out,rfl⟩,V.out⟩
theorem ZF (w:World)(sb bb n:Nat)(B:List Nat)(E:Option Addr)(cap:Nat)(V:w.cell? (aD sb 2)=some (pt bb))(G:BitAt w bb B n E cap)(U:B.length <= 65536):
  Calls prog 113 #[pt sb] w fun e w'=>∃r l,e=.returned (pt r) /\ GD r B n l /\ Turn [] w l w':=by
 have y:=uh (gY w bb n B E cap G U);clear G
 go_enter func113,ntmps113
 go_wp2_with fail
 refine y.out.mono ?_;rintro e w1 ⟨r,l,rfl,J,T⟩;have M:=uh J;have N:=uh T;clear J T y
 go_wp2_with fail
 go_ret;exact⟨r,l,rfl,M.out,N.out⟩
end
section
open Go Go.RowKit Go.IntWalk
def Lj (B:List Nat):Nat -> Option Nat
 | 0=>if Gv B 0 then some 0 else none
 | i+1=>if Gv B (i+1)then some (i+1)else Lj B i
def Td (B:List Nat)(j:Int):Option Nat:=if j<0 then none else Lj B j.toNat
theorem LX (B:List Nat)(j:Nat):Td B j=Lj B j:=by
 unfold Td;rw[y_ O,Qs]
theorem Uv {B:List Nat}{j:Nat}(h:Gv B j=true):Lj B j=some j:=by
 cases j<;>simp[Lj,h]
theorem NY {B:List Nat}{j:Nat}(h:Gv B j=false):Td B ((j:Int)-1)=Lj B j:=by
 cases j with
 | zero=>simp[Td,Lj,h]
 | succ j=>
  rw[show(((j+1:Nat):Int)-1)=(j:Nat)by omega,LX,Lj,h];simp
theorem Tc {B:List Nat}{j:Nat}(h:B.getD (j/64) 0=0):∀r:Nat,r <= j%64 -> Td B ((j:Int)-(r:Int)-1)=Lj B j
 | 0,_=>by
  rw[show((j:Int)-((0:Nat):Int)-1)=(j:Int)-1 by omega];exact NY (by unfold Gv;rw[h,Nat.zero_testBit])
 | r+1,hr=>by
  have y:=Tc h r O;rw[←y,show((j:Int)-(r:Int)-1)=((j-(r+1):Nat):Int)by omega,LX,←NY (j:=j-(r+1)) (by unfold Gv;rw[show(j-(r+1))/64=j/64 by omega,h,Nat.zero_testBit])]
  congr 1
  omega
theorem LJ {B:Nat}{w w':World}(h:Below B w w')(n:Nat):Below B w (w'.drewN n):=⟨h.os,h.tape,h.output,h.size,h.block⟩
theorem At (B:List Nat){j:Int}(h:j<0):Td B j=none:=v_ h
theorem gT (w:World)(bb n0:Nat)(B:List Nat)(bo:Option Addr)(cap:Nat)(hA:BitAt w bb B n0 bo cap)(hB:u64ok B)(hL:(n0+63)/64 <= B.length)(g:Nat)(h:g<n0)(h0:n0 <= 65536):
  Calls prog 164 #[pt bb,iV g] w fun e w'=>e=.returned (.tuple #[iV ((Lj B g).getD 0:Nat),.bool (Lj B g).isSome]) /\ Below w.heap.size w w':=by
 have c1:=hA.c1;have HA:=uh hA;have HB:=uh hB;have ab:(g:Int) <= (n0:Int)-1:=O;clear hA hB
 go_enter func164,ntmps164
 go_wp2_with fail
 clear c1
 go_loopw [1] (fun v1 wr=>∃j:Int,v1=iV j /\ -1 <= j /\ j <= g /\ Td B j=Lj B g /\ Below w.heap.size w wr) (fun v1 _=>(intOf v1+1).toNat)
 case atStart=>exact⟨g,(by first|rfl|rw[Int.min_eq_left ab]),by omega,by omega,LX _ _,T_ _ _⟩
 case round=>
  obtain⟨j,rfl,ag,ah,hP,M⟩:=hrel;have HP:=uh hP;clear hP
  by_cases hj:0 <= j
  · obtain⟨j,rfl⟩:∃q:Nat,j=q:=⟨j.toNat,by omega⟩
    have a5:=uh (Bk wr j O);have a6:=HA.out.below M;have hq:j/64<B.length:=O;have aa:B.getD (j/64) 0=B[j/64]:=(by rw[M_,a_ hq];rfl);have hv:(u64s B)[j/64]?= some (uV (B.getD (j/64) 0:Nat)):=(by rw[aa];exact JG (a_ hq));have ac:=MK HB.out (j/64);have G:=WJ (b:=j%64) ac;have E:Hid (Gv B j=(B.getD (j/64) 0).testBit (j%64)):=uh rfl;have a2:=uh (fun(h:B.getD (j/64) 0=0)=>(Tc h (j%64) (g_ _)).trans ((LX B j).symm.trans HP.out));have N:=uh (fun(h:Gv B j=true)=>(Uv h).symm.trans ((LX B j).symm.trans HP.out));have U:=uh (fun(h:Gv B j=false)=>(NY h).trans ((LX B j).symm.trans HP.out));obtain⟨gb,off,rfl,a0⟩:=a6.src.form (by rw[LD];omega);have a3:=a0 _ _ hv;have ak:((j/64:Nat):Int)<(B.length:Int):=O;have hr:j%64<64:=O;have am:j%64 <= j:=Nat.mod_le _ _;have aj:j/64 <= 65536:=O;have y:=uh M;clear a6 a0 hv aa HP M;generalize B.getD (j/64) 0=V at*;generalize j/64=q at*;generalize j%64=r at*
    go_wp2_with fail
    refine a5.out.mono ?_;rintro e w1 ⟨rfl,a8⟩;have T1:=((r_ (C_ wr)).call a8).alloc (.cells #[iV q,iV r] 310);have a7:=HA.out.below (y.out.trans (T1.below.mono y.out.size));have c0:=a7.c0;have af:=(T1.below.cell (p:=(aD gb (off+q))) (c_ wr _ a3)).trans a3;have d0:(w1.alloc (.cells #[iV q,iV r] 310)).cell? (aD w1.heap.size 0)=some (iV q):=T1.cell1 0;have d1:(w1.alloc (.cells #[iV q,iV r] 310)).cell? (aD w1.heap.size 1)=some (iV r):=T1.cell1 1;have a1:=uh (y.out.trans (T1.below.mono y.out.size));clear a7 a8 a5 a3 T1 y
    go_upto_region 7 with fail
    generalize w1.alloc (.cells #[iV q,iV r] 310)=w2 at*;generalize w1.heap.size=b5 at*
    by_cases hz:V=0
    · have ae:((V:Nat):Int)=0:=O
      go_quiet (fail)
      go_wp2_with fail
      go_roundw
      case rel=>exact⟨(j:Int)-(r:Int)-1,by go_num,by omega,by omega,a2.out hz,LJ a1.out _⟩
      case measure=>simp[intOf];omega
    · have ae:¬((V:Nat):Int)=0:=O
      have a4:=uh (fun n=>LJ a1.out n);clear a1
      go_quiet (fail)
      have e0:(w2.drewN nq).cell? (aD b5 0)=some (iV q):=d0;have e1:(w2.drewN nq).cell? (aD b5 1)=some (iV r):=d1
      go_upto_region 9 with fail
      go_quiet (fail)
      have a9:(bits .and .u64 ((V:Int)/2^r) 1 == 1)=V.testBit r:=by
       rw[Int.fdiv_eq_ediv_of_nonneg _ (Int.le_of_lt (Int.pow_pos (by decide)))]at G;rw[G]
       cases V.testBit r<;>rfl
      cases Z:V.testBit r with
      | true=>
       rw[Z]at a9;have J:=N.out (E.out.trans Z);have HR:=uh J;clear J E a2 N U G
       go_wp2_with fail
       refine f_ (E_ rfl _ _ _) rfl ?_;exact⟨by rw[←HR.out];rfl,LJ (a4.out _) _⟩
      | false=>
       rw[Z]at a9;have J:=U.out (E.out.trans Z);clear E a2 N U G
       go_wp2_with fail
       go_roundw
       case rel=>exact⟨(j:Int)-1,by go_num,by omega,by omega,J,a4.out _⟩
       case measure=>simp[intOf]<;>omega
  · have hn:=HP.out
    rw[At B O]at hn;have Hn:=uh hn;have y:=uh M;clear hn HP M
    go_wp2_with fail
    refine f_ (E_ rfl _ _ _) rfl ?_;exact⟨by rw[←Hn.out];rfl,y.out⟩
end
section
open Go Go.RowKit Go.Shelf Go.IntWalk
attribute [local go_sem] Oper.semAt_some
theorem Ec:(prog.info? 291).map (·.size)=some 3:=by kernel_rfl
theorem VA {L:List Ty}{W A:List Nat}{os:List Ce}(h:∀c∈os,((tyAt L c.2.typ).refs c.2.len).length <= 65536):(R9 L W A os).length <= os.length*65536:=by
 induction os with
 | nil=>simp[R9]
 | cons c os ih=>
  have h1:=h c (d_ ..);have h2:=ih fun d hd=>h d (V_ _ hd)
  have r:(R9 L W A (c::os)).length=((tyAt L c.2.typ).refs c.2.len).length+(R9 L W A os).length:=by
   unfold R9 LH;rw[Yj,e_,n_]
  rw[r,B_,Nat.succ_mul];omega
end
section
open Go Go.RowKit Go.Shelf Go.IntWalk
attribute [local go_sem] Oper.semAt_some
section
variable {P:Program} {w:World} {o:Oper} {a:Act} {K:Act -> World -> Prop} {Q:Exit -> Act -> World -> Prop} {q:IntKind} {mp:List (Int×Value)} {b:Nat} {ob:Obj}
theorem LP (m x:Operand)(t:TypeId)(y:Bool)(G:o.op=Op.lookup t m x y)(kt e:TypeId)(V:P.underlying t=some (.map kt e))(N:P.underlying kt=some (.int q))(z:Value)(hz:(zeroValue e).run P w=.ok z w)
  (U:a.eval m=.map (some b))(M:w.heap[b]?= some ob)(E:JK q mp ob)(k:Int)(Z:a.eval x=.int q k)
  (J:K (a.put o.dst (let v:=(LV mp k).getD z;if y then .tuple #[v,.bool (LV mp k).isSome]else v)) w):o.wp P a w K Q:=by
 have r:=Na M E V N hz k y;unfold Oper.wp;simp only[execOp,G,U,Z,r,Sem.run_bind,Xd,Sem.run_pure];exact J
end
def VG (x:Ed):Bool:=x.2.2.2 != 0 && decide (x.2.2.1<0)
theorem KV:Elem prog 234 240 3 24 (.agg #[iV 0,iV 0,iV 0]):=Jm underlying234 kr rfl
def S2 (L:List Ty)(W:List Nat)(cs:List Ce):List Ed:=(R9 L W (ats cs) (objs cs)).filter VG
theorem NR (l:List Ed):(l.filter VG).length <= l.length:=Zm ..
theorem Su (l:List Ed)(x:Ed):(l++[x]).filter VG=l.filter VG++if VG x=true then [x]else []:=by
 rw[Xv]
 congr 1
 by_cases h:VG x=true
 ·rw[v_ h,Xh h];rfl
 ·rw[y_ h,Xj h];rfl
theorem Sg {L:List Ty}{W:List Nat}:∀{cs:List Ce} {g e:Nat},Chain L W g cs e -> Gg g cs=e
 | [],_,_,h=>h
 | c::cs,g,e,h=>by
  have h2:=h.2.2;rw[←h.1]at h2
  show Gg (c.1+c.2.size) cs=e
  exact Sg h2
theorem Rs {cs:List Ce}{i:Nat}:i∈ats cs↔∃c∈objs cs,c.1=i:=by
 unfold ats;rw[U_]
end
section
open Go Go.RowKit Go.MapKept Go.Maps Go.WideElems
def Kt (q:IntKind)(m:List (Int×Value))(o:Obj):Prop:=∃es clock,o=.map es clock /\ es.toList.map (fun e=>(e.key,e.val))=m.map (fun p=>(Value.int q p.1,p.2)) /\ Stamped es clock
theorem Kt.obj {q:IntKind}{m:List (Int×Value)}{o:Obj}(h:Kt q m o):JK q m o:=by
 obtain⟨y,r,h1,h2,-⟩:=h;exact⟨y,r,h1,h2⟩
theorem Kt.new (q:IntKind):Kt q [] (.map #[] 0):=⟨#[],0,rfl,rfl,stamped_empty 0⟩
theorem Kt.keys {q:IntKind}{m:List (Int×Value)}{o:Obj}(h:Kt q m o):(m.map (·.1)).Nodup:=by
 obtain⟨M,G,-,h2,-,-,r⟩:=h
 have e:M.toList.map (·.key)=m.map fun p=>Value.int q p.1:=by
  have y:=Qu (List.map (·.1)) h2;rw[Zv,Zv]at y;exact y
 rw[e]at r;have J:(m.map fun p=>Value.int q p.1)=(m.map (·.1)).map (Value.int q):=by rw[Zv];rfl
 rw[J]at r;exact r.of_map _ fun a b E N=>E (by rw[N])
theorem Tm {k:Int}:∀{m:List (Int×Value)} {i:Nat},L7 m k i=none -> ∀p∈m,p.1≠k
 | [],_,_,p,r=>by cases r
 | p::m,i,h,p2,r=>by
  rw[L7]at h
  by_cases y:k=p.1
  · rw[v_ y]at h
    cases h
  · rw[y_ y]at h
    rcases t_.1 r with rfl|r
    ·exact fun e=>y e.symm
    ·exact Tm h p2 r
section
variable {P:Program} {w:World} {b:Nat} {q:IntKind} {m:List (Int×Value)} {o:Obj} {t kt e:TypeId}
theorem SY (M:w.heap[b]?= some o)(hm:Kt q m o)(ht:P.underlying t=some (.map kt e))(Z:P.underlying kt=some (.int q))(k:Int)(v:Value):
  ∃o',Kt q (Lu m k v) o' /\ (Instr.mapUpdate t (.map (some b)) (.int q k) v).run P w=.ok () { w with heap:=w.heap.setIfInBounds b o' }:=by
 obtain⟨J,r,rfl,h,G⟩:=hm;have hf:=run_findKey (P:=P) (w:=w) (kt:=kt) Z (NE (k:=k) 0 h);unfold Instr.mapUpdate;simp only[Sem.run_bind,run_underlying ht,Xd,MapKept.run_getObj_map M,run_checkKey (e:=false) (n:=9999) Z (show IsKey (.int q) (.int q k)by simp[IsKey]),hf]
 have U:∀x∈J.toList,∃p∈m,x.key=Value.int q p.1:=by
  intro x E
  have h1:(x.key,x.val)∈m.map (fun p=>(Value.int q p.1,p.2)):=by
   rw[←h];exact U_.2 ⟨x,E,rfl⟩
  obtain⟨p,V,N⟩:=U_.1 h1;exact⟨p,V,by simpa using(Qu Prod.fst N).symm⟩
 cases E:L7 m k 0 with
 | none=>
  refine⟨_,⟨J.push { key:=.int q k,val:=v,born:=r },r+1,rfl,?_,stamped_push G ?_⟩,MapKept.run_setObj_map _ M⟩
  · rw[RU (q:=q) E,Za,Array.toList_push,Za,h]
    rfl
  · intro x a0
    obtain⟨p,V,N⟩:=U x a0;rw[N];intro h1
    cases h1
    exact Tm E p V rfl
 | some x=>
  obtain⟨i,u⟩:=x;obtain⟨h1,h2⟩:=Nd (v:=v) h E;rw[Zj]at h2;refine⟨_,⟨J.modify i fun e=>{ e with key:=.int q k,val:=v },r,rfl,?_,stamped_modify G i _ (fun _ _=>rfl) ?_⟩,?_⟩
  · rw[Array.toList_modify]
    exact h1
  · intro y _ hy
    rw[hy]at h2;exact(Option.some.inj h2).symm
  · simp only[h2,Zc,Instr.keyThatStays,Wf,if_true,Sem.run_bind,Sem.run_pure,Xd]
    exact MapKept.run_setObj_map _ M
end
end
end Go.Proofs.YtoaofpohakaliaaGreatDoor
namespace Go.Proofs
open Go.RowKit Go.Maps Go.Sort Go.Shelf
end Go.Proofs
namespace Go.Proofs.YtoaofpohakaliaaGreatDoor
section
open Go Go.RowKit Go.IntWalk
structure SbAt (w:World)(sb a aw tb bb:Nat)(W B:List Nat)(bo:Option Addr)(bcap:Nat)(tao:Option Addr)(tcap:Nat)(L:List Ty):Prop where
 sp:SpAt w sb a aw tb W tao tcap L
 c2:w.cell? (aD sb 2)=some (pt bb)
 bits:BitAt w bb B (W.length/2) bo bcap
theorem SbAt.below {w w':World}{sb a J tb bb:Nat}{W B:List Nat}{M:Option Addr}{r:Nat}{E:Option Addr}{y:Nat}{L:List Ty}(h:SbAt w sb a J tb bb W B M r E y L)(G:Below w.heap.size w w'):SbAt w' sb a J tb bb W B M r E y L:=
 ⟨h.sp.below G,(G.cell (p:=(aD sb 2)) (c_ w _ h.c2)).trans h.c2,h.bits.below G⟩
structure SdIn (L:List Ty)(W B:List Nat)(cs:List Ce):Prop where
 few:W.length <= 65536
 u64:∀v∈W,v<18446744073709551616
 ty:∀t∈L,TyIn t
 lt:L.length <= 1000
 chain:Chain L W 0 cs (W.length/2)
 bu:u64ok B
 bl:B.length=(W.length/2+63)/64
 bits:bitsOf B (W.length/2) (objs cs)
theorem Te {B:List Nat}:∀{i p:Nat},Lj B i=some p -> p <= i /\ Gv B p=true
 | 0,p,h=>by
  unfold Lj at h
  split at h
  ·rename_i hb;cases h;exact⟨g_ _,hb⟩
  ·cases h
 | i+1,p,h=>by
  unfold Lj at h
  split at h
  ·rename_i hb;cases h;exact⟨g_ _,hb⟩
  · have:=Te h
    exact⟨by omega,this.2⟩
section
variable {L:List Ty} {W B:List Nat} {cs:List Ce}
theorem SdIn.obj (h:SdIn L W B cs){c:Ce}(r:c∈objs cs):c.1+c.2.size <= W.length/2 /\ 1 <= c.2.size /\ JH L W c.1 c.2 /\ Gv B c.1=true:=by
 have h1:=h.chain.mem c (Ym.1 r).1;have h2:=h1.2.2.pos;exact⟨h1.2.1,h2,h1.2.2,(h.bits c.1 O).2 ⟨c,r,rfl⟩⟩
theorem SdIn.hit (h:SdIn L W B cs){i p:Nat}(y:i<W.length/2)(r:Lj B i=some p):p <= i /\ ∃c∈objs cs,c.1=p:=by
 have h1:=Te r;exact⟨h1.1,(h.bits p O).1 h1.2⟩
theorem SdIn.at_ (h:SdIn L W B cs){c:Ce}(r:c∈objs cs):Lj B c.1=some c.1:=Uv (h.obj r).2.2.2
end
def QA (cs:List Ce)(v:Nat)(w:World)(e:Ending)(w':World):Prop:=∃(r:Bool) (g:Nat),e=.returned (.tuple #[iV g,.bool r]) /\ (∀c∈objs cs,v=1048576+2*c.1 -> r=true /\ g=c.1) /\ (r=true -> ∃c∈objs cs,c.1=g) /\ g <= 65536 /\ Below w.heap.size w w'
theorem gX (w:World)(sb a aw tb bb:Nat){W B:List Nat}(bo:Option Addr)(a5:Nat)(ax:Option Addr)(am:Nat)(L:List Ty)(cs:List Ce)(G:SbAt w sb a aw tb bb W B bo a5 ax am L)(E:SdIn L W B cs)(v:Nat)(hv:v<18446744073709551616):
  Calls prog 116 #[pt sb,uV v] w (QA cs v w):=by
 have HW:=uh (Ff w v hv)
 by_cases h1:1048576 <= v /\ v<1114112
 · rw[v_ h1,k_ h1]at HW
   obtain⟨u,hu⟩:∃u,v-1048576=u:=⟨_,rfl⟩;have aC:u<65536:=O;obtain⟨z,hz⟩:∃z,W.length/2=z:=⟨_,rfl⟩;have aE:z <= 32768:=(by have:=E.few;omega);have a4:=uh (Rk w G.sp.c0 G.sp.ar E.few);rw[hz]at a4;rw[hu]at HW
   by_cases h2:2*z <= u
   · have an:2*(z:Int) <= (u:Int):=O
     have HN:=uh (fun(c:Ce) (r:c∈objs cs) (h:v=1048576+2*c.1)=>(by have:=(E.obj (c:=c) r).1;have:=(E.obj (c:=c) r).2.1;omega:False));clear G E h1 hu hz
     go_enter func116,ntmps116
     go_wp2_with (first
      | (go_at_call 163;refine HW.out.mono ?_;rintro e w' ⟨rfl,y⟩;rw[y];clear y w')
      | (go_at_call 67;refine a4.out.mono ?_;rintro e w' ⟨rfl,y⟩;rw[y];clear y w')
      | fail)
     refine f_ (E_ rfl _ _ _) rfl ?_;exact⟨false,0,rfl,fun c r h=>(HN.out c r h).elim,(fun h=>by cases h),by omega,T_ _ _⟩
   · have an:¬2*(z:Int) <= (u:Int):=O
     have ae:=uh (ZF w sb bb (W.length/2) B bo a5 G.c2 G.bits (by rw[E.bl];omega));obtain⟨q,a0⟩:∃q,u/2=q:=⟨_,rfl⟩;have hq:((u:Int)).tdiv 2=(q:Int):=(by rw[←a0];exact GC _ 2);have aB:(u:Int)/2=(q:Int):=O;have HQ:=uh a0;have a8:Hid (v=1048576+u):=uh O;have aA:q<z:=O;have HI:=uh E;have HA:=uh G;have aq:=E.bl;rw[hz]at aq;have ac:=uh (fun w' b2 a2 N (hb:BitAt w' b2 B (W.length/2) a2 N)=>gT w' b2 (W.length/2) B a2 N hb HI.out.bu (by rw[HI.out.bl];omega) q O O);have aa:=uh (fun w' (hk:Below w.heap.size w w')=>NW w' (a:=(aD a 0)) rfl (G.below hk).sp.c0);have ab:=uh (fun w' (hk:Below w.heap.size w w') (g:Int)=>Wb w' (G.below hk).sp.fields (G.below hk).sp.ar E.u64 g);have ak:=Gr;clear G E h1 hu a0
     go_enter func116,ntmps116
     go_wp2_with (first
      | (go_at_call 163;refine HW.out.mono ?_;rintro e w' ⟨rfl,y⟩;rw[y];clear y w')
      | (go_at_call 67;refine a4.out.mono ?_;rintro e w' ⟨rfl,y⟩;rw[y];clear y w')
      | fail)
     refine ae.out.mono ?_;rintro e w1 ⟨b2,l2,rfl,ag,T1⟩;obtain⟨a2,N,ah⟩:=ag.at_ (R:=[]) (by rw[p_];exact T1.has);have Hp:=uh (ac.out w1 b2 a2 N ah);have a1:=uh T1;clear ah ag T1 ae ac
     go_wp2_with fail
     refine Hp.out.mono ?_
     cases hp:Lj B q with
     | none=>
      rintro e w2 ⟨rfl,V⟩
      have HN:=uh (fun(c:Ce) (r:c∈objs cs) (h:v=1048576+2*c.1)=>(by
       have h3:=HI.out.at_ (c:=c) r;have av:=a8.out;have a0:=HQ.out;rw[show c.1=q by omega,hp]at h3;exact absurd h3 (by simp):False))
      have M:=uh (a1.out.below.trans (V.mono a1.out.size));clear V Hp;simp only[Jj,Option.isSome_none]
      go_wp2_with fail
      refine f_ (E_ rfl _ _ _) rfl ?_;exact⟨false,0,rfl,fun c r h=>(HN.out c r h).elim,(fun h=>by cases h),by omega,M.out⟩
     | some p=>
      rintro e w2 ⟨rfl,V⟩;obtain⟨au,c,r,aj⟩:=HI.out.hit O hp;have Z:=HI.out.obj r;obtain⟨e1,e2,e3,e4⟩:=L6 Z.2.2.1;have M:=uh (a1.out.below.trans (V.mono a1.out.size));have U:=uh (ab.out w2 M.out (c.1:Int));rw[e1,e2]at U;simp only[Zc]at U;have a9:=uh (aa.out w2 M.out)
      have HC:=uh (fun(d:Ce) (hd:d∈objs cs) (h:v=1048576+2*d.1)=>(by
       have h3:=HI.out.at_ hd;have av:=a8.out;have a0:=HQ.out;rw[show d.1=q by omega,hp]at h3
       cases h3
       omega:d.1=p /\ u=2*p))
      have HM:=uh (⟨c,r,aj⟩:∃c∈objs cs,c.1=p);subst aj;obtain⟨cg,xa,xb,xc,J⟩:=c;simp only at Z au U HM HC;have ay:cg+J <= z:=(by rw[←hz];exact Z.1);have az:1 <= J:=Z.2.1;have a6:=GP ⟨xa,xb,xc,J⟩;simp only at a6;clear r Z e1 e2 e3 e4 V Hp ab aa HA hz;simp only[Zc,Option.isSome_some]
      go_wp2_with (first
       | (go_at_call 15;refine a9.out.mono ?_;rintro e w' ⟨rfl,y⟩;rw[y];clear y w')
       | fail)
      refine U.out.mono ?_;rintro e w3 ⟨rfl,af⟩;have T3:=((r_ (C_ w2)).call af).alloc zH;have a3:(w3.alloc zH).there w3.heap.size 0 4:=T3.there1;have T4:=T3.laid [yV xa,iV xb,iV xc,iV J] rfl;have q3:=T4.cell1 3;have a7:=uh (M.out.trans (T4.below.mono M.out.size));clear af T3 T4 U a9
      by_cases h5:2*(cg+J) <= u
      · have ap:2*((cg:Int)+(J:Int)) <= (u:Int):=O
        go_wp2_with (first
         | (show sW 125;refine h_ rfl 125 _ _ rfl _ 0 #[yV xa,iV xb,iV xc,iV J] rfl rfl a3 ak a6 ?_;clear a3;generalize(w3.alloc zH).setCells w3.heap.size 0 [yV xa,iV xb,iV xc,iV J]=w5 at*;generalize w3.heap.size=b4 at*)
         | fail)
        refine f_ (E_ rfl _ _ _) rfl ?_;exact⟨false,0,rfl,fun d hd h=>(by have:=HC.out d hd h;omega:False).elim,(fun h=>by cases h),by omega,a7.out⟩
      · have ap:¬2*((cg:Int)+(J:Int)) <= (u:Int):=O
        go_wp2_with (first
         | (show sW 125;refine h_ rfl 125 _ _ rfl _ 0 #[yV xa,iV xb,iV xc,iV J] rfl rfl a3 ak a6 ?_;clear a3;generalize(w3.alloc zH).setCells w3.heap.size 0 [yV xa,iV xb,iV xc,iV J]=w5 at*;generalize w3.heap.size=b4 at*)
         | fail)
        refine f_ (E_ rfl _ _ _) rfl ?_;exact⟨true,cg,rfl,fun d hd h=>⟨rfl,(HC.out d hd h).1.symm⟩,fun _=>HM.out,by omega,a7.out⟩
 · rw[y_ h1,b_ h1]at HW
   have HN:=uh (fun(c:Ce) (r:c∈objs cs) (h:v=1048576+2*c.1)=>(by have:=(E.obj (c:=c) r).1;have:=(E.obj (c:=c) r).2.1;have:=E.few;omega:False));clear G E h1
   go_enter func116,ntmps116
   go_wp2_with (first
    | (go_at_call 163;refine HW.out.mono ?_;rintro e w' ⟨rfl,y⟩;rw[y];clear y w')
    | fail)
   refine f_ (E_ rfl _ _ _) rfl ?_;exact⟨false,0,rfl,fun c r h=>(HN.out c r h).elim,(fun h=>by cases h),by omega,T_ _ _⟩
def JJ (cs:List Ce)(v:Nat):Bool:=(objs cs).any fun c=>v == 1048576+2*c.1
theorem Lv {cs:List Ce}{v:Nat}:JJ cs v=true↔∃c∈objs cs,v=1048576+2*c.1:=by
 unfold JJ;rw[List.any_eq_true]
 constructor
 ·rintro⟨c,r,h⟩;exact⟨c,r,by simpa using h⟩
 ·rintro⟨c,r,h⟩;exact⟨c,r,by simpa using h⟩
theorem Cg (w:World):Calls prog 117 #[.slice none 0 0] w fun e w'=>e=.returned (.slice none 0 0) /\ w'=w:=by
 have G:=uh (fun w=>AnyM.slices_Sort_int_none Tryz.sortA none 0 w)
 have y:∀w,Calls prog 166 #[.slice none 0 0] w fun e w'=>e=.returned (.slice none 0 0) /\ w'=w:=fun w=>by
  go_enter func166,ntmps166
  go_wp2
  go_ret;exact⟨rfl,rfl⟩
 have E:=uh y;clear y
 go_enter func117,ntmps117
 go_wp2_with (first
  | (go_at_call 165;refine(G.out _).mono ?_;rintro e w' ⟨rfl,r⟩;rw[r];clear r w')
  | (go_at_call 166;refine(E.out _).mono ?_;rintro e w' ⟨rfl,r⟩;rw[r];clear r w')
  | fail)
 go_ret;exact⟨rfl,rfl⟩
theorem Cf (w:World)(r cap:Nat)(g:Int)(M:w.cell? (aD r 0)=some (iV g))(hf:w.frozen? (aD r 0)=false):
  Calls prog 117 #[.slice (some (aD r 0)) 1 cap] w fun e w'=>e=.returned (.slice (some (aD r 0)) 1 cap) /\ Below w.heap.size w w':=by
 have J:Sort.Holds (Value.int .i64) w r 0 [g].toArray:=fun j hj=>by
  obtain rfl:j=0:=by simpa using hj
  exact⟨by simpa using M,by simpa using hf⟩
 have Z:=uh (AnyM.slices_Sort_int Tryz.sortA r 0 cap [g] w J (c_ w _ M) (by simp))
 have N:=uh (fun n os=>(by
  have h:Sort.putRow (Value.int .i64) (Sort.ahead w n) r 0 ([g].mergeSort fun x y=>decide (x <= y)).toArray=Sort.ahead w n:=by
   rw[List.mergeSort_singleton];exact Sort.putRow_self _ _ _ _ _ (Sort.holds_ahead _ _ _ _ _ _ J)
  rw[h];exact Lib.below_grow _ _ (g_ _) n os:Below w.heap.size w (Sort.grow (Sort.putRow (Value.int .i64) (Sort.ahead w n) r 0 ([g].mergeSort fun x y=>decide (x <= y)).toArray) os)))
 have V:∀w,Calls prog 166 #[.slice (some (aD r 0)) 1 cap] w fun e w'=>e=.returned (.slice (some (aD r 0)) 1 cap) /\ w'=w:=fun w=>by
  go_enter func166,ntmps166
  go_wp2
  go_ret;exact⟨rfl,rfl⟩
 have HC:=uh V;clear V J M hf
 go_enter func117,ntmps117
 go_wp2_with fail
 refine Z.out.mono ?_;rintro e w1 ⟨rfl,n,os,E⟩;have G:=N.out n os;rw[←E]at G;have U:=uh G;clear G E N Z
 go_wp2_with (first
  | (go_at_call 166;refine(HC.out _).mono ?_;rintro e w' ⟨rfl,E⟩;rw[E];clear E w')
  | fail)
 go_ret;exact⟨rfl,U.out⟩
theorem gU (w:World)(sb a aw tb bb:Nat){W B:List Nat}(bo:Option Addr)(Z:Nat)(af:Option Addr)(a0:Nat)(L:List Ty)(cs:List Ce)(hA:SbAt w sb a aw tb bb W B bo Z af a0 L)(hI:SdIn L W B cs)(v vb:Nat)(hv:v<18446744073709551616)(U:w.cell? (aD vb 0)=some (uV v)):
  Calls prog 57 #[pt sb,.slice (some (aD vb 0)) 1 1] w fun e w'=>∃(ao:Option Addr) (n cap:Nat) (ec:Int),e=.returned (.tuple #[.slice ao n cap,iV ec]) /\ (ec=0 /\ 0<n↔JJ cs v=true) /\ Below w.heap.size w w':=by
 have Hf:=uh (gX w sb a aw tb bb bo Z af a0 L cs hA hI v hv);have G:Hid (v=0 -> ¬JJ cs v=true):=uh (fun h E=>by obtain⟨c,-,h2⟩:=Lv.1 E;omega);clear hA hI
 go_enter func57,ntmps57
 go_wp2_with fail
 go_loopw [4,14] (fun v4 N wr=>(N=iV 0 /\ v4=.slice none 0 0 /\ w=wr)∨(N=iV 1 /\ v4=.slice none 0 0 /\ ¬JJ cs v=true /\ w=wr)∨(N=iV 1 /\ JJ cs v=true /\ ∃J cap g,v4=.slice (some (aD J 0)) 1 cap /\ wr.cell? (aD J 0)=some (iV g) /\ wr.frozen? (aD J 0)=false /\ Below w.heap.size w wr)) (fun _ N _=>1-(intOf N).toNat)
 case atStart=>exact .inl ⟨rfl,rfl,rfl⟩
 case round=>
  rcases hrel with⟨rfl,rfl,rfl⟩|⟨rfl,rfl,E,rfl⟩|⟨rfl,E,J,cap,g,rfl,a7,a8,a6⟩
  · by_cases h0:v=0
    · have ak:((v:Nat):Int)=0:=O
      have y:=uh (G.out h0);clear h0 G
      go_wp2_with fail
      go_roundw
      case rel=>exact .inr (.inl ⟨rfl,rfl,y.out,by first|rfl|trivial⟩)
      case measure=>simp[intOf]
    · have ak:¬((v:Nat):Int)=0:=O
      clear G
      go_wp2_with fail
      refine Hf.out.mono ?_;rintro e w2 ⟨r,g,rfl,ab,ac,am,hB⟩;have HB:=uh hB;have ah:=uh ac;have a2:=uh ab;have a4:=uh (fun w=>C6 w g am);clear hB ab ac Hf
      cases r with
      | false=>
       have y:Hid (¬JJ cs v=true):=uh (fun E=>by
        obtain⟨c,U,h2⟩:=Lv.1 E;have:=(a2.out c U h2).1
        cases this)
       go_wp2_with fail
       refine f_ (E_ rfl _ _ _) rfl ?_;exact⟨none,0,0,8,rfl,⟨fun h=>by omega,fun h=>(y.out h).elim⟩,HB.out⟩
      | true=>
       by_cases hg:1048576+2*g=v
       · have aa:((1048576+2*g:Nat):Int)=((v:Nat):Int):=O
         have y:Hid (JJ cs v=true):=uh (Lv.2 (by obtain⟨c,U,h2⟩:=ah.out rfl;exact⟨c,U,by omega⟩));have T2:=((r_ (C_ w)).call HB.out).alloc (.cells #[iV g] 3);have a3:=uh T2;clear T2
         go_wp2_with (first
          | (go_at_call 28;refine(a4.out _).mono ?_;rintro e w' ⟨rfl,M⟩;rw[M];clear M w';rw[aa])
          | (at_builtin;refine K_ rfl _ _ rfl L4 rfl (Zb _ _) (R:=[(w2.heap.size,.cells #[iV g] 3)]) a3.out.has rfl (news:=[iV g]) rfl (Qy (A_ _ _)) (by simp[Value.oneCell']) (by unfold maxLen;omega) O ?_;intro a9 p9 l9 w6 ae V9 an;have V:=uh (a3.out.trans V9);have aj:=uh ae;clear V9 an ae)
          | fail)
         go_roundw
         case rel=>
          obtain⟨J,aq,rfl,rfl,au,ap⟩:=aj.out.some_of O;refine .inr (.inr ⟨rfl,y.out,J,p9,(g:Int),rfl,?_,V.out.free1 0,V.out.below⟩);rw[V.out.cell1 0,M5 ap 0 O]
          rfl
         case measure=>simp[intOf]
       · have aa:¬((1048576+2*g:Nat):Int)=((v:Nat):Int):=O
         have y:Hid (¬JJ cs v=true):=uh (fun E=>by
          obtain⟨c,U,h2⟩:=Lv.1 E;have:=(a2.out c U h2).2;omega)
         clear hg
         go_wp2_with (first
          | (go_at_call 28;refine(a4.out _).mono ?_;rintro e w' ⟨rfl,M⟩;rw[M];clear M w')
          | fail)
         refine f_ (E_ rfl _ _ _) rfl ?_;exact⟨none,0,0,8,rfl,⟨fun h=>by omega,fun h=>(y.out h).elim⟩,HB.out⟩
  · have y:=uh E
    clear E Hf G
    go_wp2_with (first
     | (go_at_call 117;refine(Cg _).mono ?_;rintro e w' ⟨rfl,M⟩;rw[M];clear M w')
     | fail)
    refine f_ (E_ rfl _ _ _) rfl ?_;exact⟨none,0,0,0,rfl,⟨fun h=>by omega,fun h=>(y.out h).elim⟩,T_ _ _⟩
  · have Hr:=uh (Cf _ J cap g a7 a8)
    have y:=uh E;have a1:=uh a6;clear E a6 a7 a8 Hf G
    go_wp2_with fail
    refine Hr.out.mono ?_;rintro e w3 ⟨rfl,a5⟩;have ag:=uh (a1.out.trans (a5.mono a1.out.size));clear a5
    go_wp2_with fail
    refine f_ (E_ rfl _ _ _) rfl ?_;exact⟨some (aD J 0),1,cap,0,rfl,⟨fun _=>y.out,fun _=>⟨rfl,by omega⟩⟩,ag.out⟩
end
section
open Go Go.RowKit
theorem TC {α:Type}{f:α -> List Value}{sz:Nat}(r:∀a,(f a).length=sz)(S:List α)(i j:Nat)(y:j<sz):(S.flatMap f)[i*sz+j]?= S[i]?.bind fun a=>(f a)[j]? :=by
 induction S generalizing i with
 | nil=>simp
 | cons a S ih=>
  rw[Yj]
  cases i with
  | zero=>
   rw[Nat.zero_mul,Q_,Qz (by rw[r];exact y)]
   rfl
  | succ i=>
   have e:(i+1)*sz+j=sz+(i*sz+j):=(by rw[Jd];omega);rw[e,Qg (by rw[r];omega),r,Yg,ih]
   rfl
theorem LL {α:Type}{f:α -> List Value}{sz:Nat}(r:∀a,(f a).length=sz)(S:List α):(S.flatMap f).length=S.length*sz:=by
 induction S with
 | nil=>simp
 | cons a S ih=>rw[Yj,e_,r,ih,B_,Jd];omega
theorem Src.fm {α:Type}{f:α -> List Value}{sz:Nat}(r:∀a,(f a).length=sz){S:List α}{w:World}{b off n cap:Nat}(h:Src w (some (aD b off)) n cap sz (S.flatMap f)){i:Nat}{x:α}(E:S[i]?= some x):w.rangeAt b (off+i*sz) (f x):=by
 intro j v y;have G:j<sz:=by rw[←r x];exact(m_.1 y).1
 have h1:=h.at_ _ rfl (i*sz+j) v (by rw[TC r S i j G,E];exact y);rw[KS]at h1;rw[Nat.add_assoc];exact h1
abbrev Br:=Nat×Nat×Nat×Nat×Nat
def Mh (x:Br):List Value:=[yV x.1,iV x.2.1,iV x.2.2.1,uV x.2.2.2.1,iV x.2.2.2.2]
def Nm (l:List Br):List Value:=l.flatMap Mh
theorem Gy (a b:List Br):Nm (a++b)=Nm a++Nm b:=by simp[Nm]
theorem Rc (l:List Br):(Nm l).length=l.length*5:=LL (sz:=5) (fun _=>rfl) l
theorem NG (l:List Br):∀v∈Nm l,v.oneCell'=true:=fun v r=>by
 obtain⟨x,-,h⟩:=List.mem_flatMap.1 r;simp only[Mh,t_,Zu,or_false]at h;rcases h with rfl|rfl|rfl|rfl|rfl<;>rfl
theorem GB:Elem prog 28 39 5 40 (.agg #[yV 0,iV 0,iV 0,uV 0,iV 0]):=Jm underlying28 kr rfl
theorem Ns:(prog.info? 39).map (·.size)=some 5:=by kernel_rfl
theorem BK:(prog.info? 240).map (·.size)=some 3:=by kernel_rfl
def g3 (x:Ed):Br:=(2,x.1,x.2.1,0,8)
theorem KT {α β:Type}{f:α -> β}{l:List α}{i:Nat}{x:α}(h:l[i]?= some x):(l.take (i+1)).map f=(l.take i).map f++[f x]:=by
 rw[Qr,h];simp
end
section
open Go Go.RowKit Go.IntWalk
abbrev Ft:=Nat×Nat×Nat
def Ry (x:Ft):List Value:=[iV x.1,iV x.2.1,iV x.2.2]
def TE (l:List Ft):List Value:=l.flatMap Ry
theorem JY (a b:List Ft):TE (a++b)=TE a++TE b:=by simp[TE]
theorem YL (l:List Ft):(TE l).length=l.length*3:=LL (sz:=3) (fun _=>rfl) l
def Bb (x:Ed):Ft:=(x.1,x.2.1,8)
def told (f:Nat -> Bool)(A:List Nat)(g:Nat):List Ft:=if f g=decide (g∈A)then []else [(g,0,if f g=true then 9 else 3)]
def J3 (f:Nat -> Bool)(A:List Nat):Nat -> List Ft
 | 0=>[]
 | n+1=>J3 f A n++told f A n
theorem My (f:Nat -> Bool)(A:List Nat):∀n,(J3 f A n).length <= n
 | 0=>g_ _
 | n+1=>by
  have:=My f A n;unfold J3 told;rw[e_]
  split
  ·simp;omega
  ·simp;omega
theorem S4 {f r:Nat -> Bool}{A:List Nat}:∀{n:Nat},(∀g,g<n -> f g=r g) -> J3 f A n=J3 r A n
 | 0,_=>rfl
 | n+1,h=>by
  unfold J3 told;rw[S4 fun g y=>h g O,h n O]
def Ju (en z:Nat):List Ft:=if en<z then [(en,0,7)]else []
def Lk (f:Nat -> Bool)(A:List Nat)(en z:Nat):List Ft:=J3 f A en++Ju en z
def Jy (f:Nat -> Bool)(L:List Ty)(W:List Nat)(cs:List Ce)(en:Nat):List Ft:=Lk f (ats cs) en (W.length/2)++(S2 L W cs).map Bb
theorem VS {f:Nat -> Bool}{A:List Nat}:∀{n:Nat} {x:Ft},x∈J3 f A n -> x.1<n /\ x.2.1=0 /\ (x.2.2=9∨x.2.2=3)
 | n+1,x,h=>by
  unfold J3 told at h;rcases s_.1 h with h|h
  · have:=VS h
    exact⟨by omega,this.2⟩
  · split at h
    ·cases h
    · rw[Qa.1 h]
      refine⟨Nat.lt_succ_self _,rfl,?_⟩;simp only
      split
      ·exact .inl rfl
      ·exact .inr rfl
theorem UK {f:Nat -> Bool}{A:List Nat}{en z:Nat}{x:Ft}(h:x∈Lk f A en z):x.2.1=0 /\ (x.2.2=9∨x.2.2=3∨x.2.2=7):=by
 unfold Lk Ju at h;rcases s_.1 h with h|h
 · have:=VS h
   exact⟨this.2.1,this.2.2.imp id .inl⟩
 · split at h
   · rw[Qa.1 h]
     exact⟨rfl,.inr (.inr rfl)⟩
   ·cases h
theorem UL {f:Nat -> Bool}{A:List Nat}{en z:Nat}(E:en <= z):Lk f A en z=[]↔en=z /\ ∀g,g<z -> f g=decide (g∈A):=by
 unfold Lk Ju
 have y:∀n,J3 f A n=[]↔∀g,g<n -> f g=decide (g∈A):=by
  intro n
  induction n with
  | zero=>exact⟨fun _ g h=>absurd h (Jn _),fun _=>rfl⟩
  | succ n ih=>
   unfold J3 told;rw[List.append_eq_nil_iff,ih]
   constructor
   · rintro⟨h1,h2⟩ g r
     by_cases h:g=n
     · subst h
       split at h2
       ·assumption
       ·cases h2
     ·exact h1 g O
   · intro h
     exact⟨fun g r=>h g O,by rw[v_ (h n O)]⟩
 rw[List.append_eq_nil_iff,y]
 constructor
 · rintro⟨h1,h2⟩
   split at h2
   ·cases h2
   · obtain rfl:en=z:=O
     exact⟨rfl,h1⟩
 · rintro⟨rfl,h⟩
   exact⟨h,by rw[y_ O]⟩
def S1 (x:Ft):Br:=(if x.2.2=8 then 2 else 1,x.1,x.2.1,0,x.2.2)
theorem Dq {f:Nat -> Bool}{A:List Nat}{en z:Nat}{x:Ft}(h:x∈Lk f A en z):(S1 x).1=1:=by
 have h1:=(UK h).2;unfold S1;exact y_ O
theorem ZY (L:List Ty)(W:List Nat):∀n g,W.length/2-g <= n -> g <= W.length/2 -> ∃cs en,Chain L W g cs en /\ Ky L W en
 | 0,g,h,h2=>⟨[],g,rfl,.inl O⟩
 | n+1,g,h,h2=>by
  by_cases M:g=W.length/2
  ·exact⟨[],g,rfl,.inl M⟩
  by_cases r:∃hd,JH L W g hd
  · obtain⟨hd,r⟩:=r
    have N:=r.pos;have y:=r.2.2;obtain⟨cs,en,E,G⟩:=ZY L W n (g+hd.size) O y;exact⟨(g,hd)::cs,en,⟨rfl,r,E⟩,G⟩
  ·exact⟨[],g,rfl,.inr ⟨by omega,fun hd J=>r ⟨hd,J⟩⟩⟩
end
section
open Go Go.RowKit Go.Shelf Go.IntWalk
attribute [local go_sem] Oper.semAt_some
def Ln (H:List Ft)(pre:List Ed):List Ft:=H++(pre.filter VG).map Bb
theorem SJ (H:List Ft):Ln H []=H:=by simp[Ln]
theorem Dy (H:List Ft)(pre:List Ed):(Ln H pre).length <= H.length+pre.length:=by
 have:=NR pre;unfold Ln;rw[e_,n_];omega
theorem X8 (H:List Ft)(pre:List Ed)(x:Ed):Ln H (pre++[x])=Ln H pre++if VG x=true then [Bb x]else []:=by
 unfold Ln;rw[Su,Za,Qq]
 split<;>simp
theorem DR (w:World)(a aw tb bb:Nat){W:List Nat}(aV:Option Addr)(az:Nat)(L:List Ty)(aE:WkAt w a aw tb W aV az L)(hf:W.length <= 65536)(hu:∀v∈W,v<18446744073709551616)(aC:∀t∈L,TyIn t)(hL:L.length <= 1000)
  (cs:List Ce)(en:Nat)(hC:Chain L W 0 cs en)(hE:Ky L W en)(B:List Nat)(bo:Option Addr)(aL:Nat)(hB:BitAt w bb B (W.length/2) bo aL)(b4:u64ok B)(bD:B.length=(W.length/2+63)/64)(F:List Ft)(aq:F=Jy (Gv B) L W cs en):
  Calls prog 111 #[pt a,pt tb,pt bb] w fun e w'=>∃ao cap l,e=.returned (.tuple #[.slice ao F.length cap,iV 0]) /\ Gh 240 3 ao F.length cap (TE F) l /\ Turn [] w l w':=by
 refine(N_ (n:=6)).1 ?_;have h3:Fence.wide.fn 111:= trivial;have h6:Fence.wide.fn 161:= trivial;have h7:Fence.wide.fn 212:= trivial;have h8:Fence.wide.fn 159:= trivial;have h9:Fence.wide.fn 160:= trivial;have c7:Fence.wide.fn 123:= trivial;have ab:Fence.wide.round=none:=rfl;have h1:1 <= 6:=O
 have bJ:(R9 L W (ats cs) (objs cs)).length <= 2147483648:=by
  have h5:=hC.len;have c8:=hE.le;have h6:(objs cs).length <= cs.length:=by unfold objs;exact Zm ..
  have h7:=VA (L:=L) (W:=W) (A:=ats cs) (os:=objs cs) (fun c hc=>by
   have hi:=ME hC hE.le hf aC hc;have h1:=JV (tyAt L c.2.typ) ((tyAt L c.2.typ).slots c.2.len);have h2:(tyAt L c.2.typ).refs c.2.len=KJ (tyAt L c.2.typ) ((tyAt L c.2.typ).slots c.2.len):=rfl;obtain⟨bN,-,cc,-⟩:=L3.1 hi.err;have:=GJ bN (n:=c.2.len) O;rw[h2];omega)
  omega
 refine callsIn_of_wp_marks func111 rfl h3 ?_ ab;simp only[ntmps111,Z_,B_,Qj,Nat.reduceAdd,Nat.reduceSub,S_,R_,Qc,X_,L_,Qd];have bs:=uh (fun g m Bs ob ao cap M bC aF an XB bT bU bV aR D G bF bE w0 hw hX a5 aT=>PL (6-1) O w a aw tb aV az L aE hf hu aC hL cs en hC hE.le g m Bs ob ao cap M bC aF an XB bT bU bV aR D G bF bE w0 hw hX a5 aT);have b2:=uh (Aa w a aw tb aV az L aE hf hu aC hL cs en hC hE);have bW:W.length/2 <= 32768:=O;have av:=uh (fun w' (hk:Below w.heap.size w w') (i:Nat) (hi:i<W.length/2)=>PX w' bb (W.length/2) B bo aL (hB.below hk) b4 O i hi O);have bA:=uh (fun w' (hk:Below w.heap.size w w')=>F2 w' (aE.below hk).ar);have bn:((W.length:Int)).tdiv 2=((W.length/2:Nat):Int):=GC _ 2;have aX:(W.length:Int)/2=((W.length/2:Nat):Int):=O;have aS:Gg 0 cs=en:=Sg hC;have bK:=hE.le;obtain⟨z,hz⟩:∃z,W.length/2=z:=⟨_,rfl⟩;unfold Jy S2 Lk at aq;rw[hz]at av bn aX bW bK aq;obtain⟨f,b8⟩:∃f,Gv B=f:=⟨_,rfl⟩;rw[b8]at av aq;have aY:=uh aq;have aG:∀w,(zeroValue 4).run prog w=.ok (.bool false) w:=fun _=>by kernel_rfl
 clear hC hE hu aC aE hB b4 bD hz aq b8
 gi_wp2_with fail
 refine(N_.2 b2.out).mono ?_;rintro e w3 ⟨g,m,ob,a1,N,lg,rfl,aF,bg,T3⟩;obtain⟨J,ba⟩:∃J,w3.heap.size=J:=⟨_,rfl⟩;have cf:w.heap.size <= J:=by rw[←ba];exact T3.size
 have T4:=T3.alloc (.cells #[.slice none 0 0] 234);rw[ba]at T4;have ap:=uh aF;obtain⟨RG,aB⟩:∃RG:List Blk,RG=(g,.cells #[pt a,pt tb,.map (some m),.slice a1 (ats cs).length N,iV (Gg 0 cs:Nat)] 287)::(m,ob)::lg:=⟨_,rfl⟩;have aH:=uh bg;have b0:=uh aB
 have HG:=uh (fun(W':World) (M:List Blk) (ao:Option Addr) (n cap:Nat) (V:Turn [] w (M++((J,.cells #[.slice ao n cap] 234)::RG)) W')=>by
  rw[aB]at V;exact(⟨V.has.cell (b:=g) (c:=#[pt a,pt tb,.map (some m),.slice a1 (ats cs).length N,iV (Gg 0 cs:Nat)]) (e:=287) (f:=(0,0)) (by simp) 2,by rw[←aS];exact V.has.cell (b:=g) (c:=#[pt a,pt tb,.map (some m),.slice a1 (ats cs).length N,iV (Gg 0 cs:Nat)]) (e:=287) (f:=(0,0)) (by simp) 4,V.has.own m ob (by simp),V.has.cell (b:=J) (c:=#[.slice ao n cap]) (e:=234) (f:=(0,0)) (by simp) 0⟩:
  W'.cell? (aD g 2)=some (.map (some m)) /\ W'.cell? (aD g 4)=some (iV en) /\ W'.heap[m]?= some ob /\ W'.cell? (aD J 0)=some (.slice ao n cap)))
 rw[←aB]at T4;have aK:Turn [] w ([]++((J,.cells #[.slice none 0 0] 234)::RG)) (w3.alloc (.cells #[.slice none 0 0] 234)):=T4;have b1:=uh aK;have q4:=(HG.out _ _ _ _ _ aK).2.1;clear T3 T4 aK aF bg b2 aB
 gi_upto_region 5 with fail
 generalize w3.alloc (.cells #[.slice none 0 0] 234)=w4 at*
 gi_wp2_with fail
 gi_loopw [31] (fun aW wr=>∃(i:Nat) (ao:Option Addr) (cap:Nat) (M:List Blk),i <= en /\ aW=iV i /\ Gh 240 3 ao (J3 f (ats cs) i).length cap (TE (J3 f (ats cs) i)) M /\ Turn [] w (M++((J,.cells #[.slice ao (J3 f (ats cs) i).length cap] 234)::RG)) wr) (fun aW _=>en-(intOf aW).toNat)
 case atStart=>exact⟨0,none,0,[],u_ _,by go_num,Zb _ _,b1.out⟩
 case round=>
  clear b1 q4;obtain⟨i,ao,cap,M,hi,rfl,an,Z⟩:=hrel;have q4:=(HG.out _ _ _ _ _ Z).2.1;have af:=uh an
  by_cases bM:i<en
  · have bZ:(i:Int)<((en:Nat):Int):=O
    have HT:=uh Z;have Hh:=uh (av.out wr Z.below i O);have ae:=uh (Th (ats cs) i);have cb:=My f (ats cs) i;have ag:(J3 f (ats cs) i).length+1 <= maxLen:=(by unfold maxLen;omega);have aj:((J3 f (ats cs) i).length+1)*24 <= 140737488355328:=O;have HN:Hid (J3 f (ats cs) (i+1)=J3 f (ats cs) i++told f (ats cs) i):=uh rfl;clear Z an;generalize J3 f (ats cs) i=S at*;unfold told at HN
    cases hb:f i with
    | true=>
     by_cases hm:i∈ats cs
     · skip
       rw[hb]at Hh;rw[v_ hm]at ae;rw[v_ (by rw[hb,k_ hm]),p_]at HN;clear hm
       gi_wp2_with fail
       refine(N_.2 Hh.out).mono ?_;rintro e w5 ⟨rfl,a4⟩;have a0:=uh (HT.out.call a4);have c5:=(HG.out _ _ _ _ _ a0.out).1;have b5:=(HG.out _ _ _ _ _ a0.out).2.2.1;have s5:=(HG.out _ _ _ _ _ a0.out).2.2.2;clear a4 HT Hh q4
       gi_wp2_with (first
        | (show wpListIn _ _ _ _ _ (⟨_,Op.lookup _ _ _ _,_,_,_,_⟩::_) _ _;refine J6 (Gc _ _) (by rfl) (by intro c h;cases h) (LP _ _ _ false rfl 3 4 underlying285 underlying3 _ (aG _) rfl b5 ap.out (i:Int) rfl ?_);rw[ae.out])
        | fail)
       go_roundw
       case rel=>exact⟨i+1,ao,cap,M,by omega,by go_num,by rw[HN.out];exact af.out,by rw[HN.out];exact a0.out⟩
       case measure=>simp[intOf];omega
     · skip
       rw[hb]at Hh;rw[y_ hm]at ae;rw[y_ (by rw[hb,b_ hm];decide),hb]at HN;rw[v_ rfl]at HN;clear hm
       gi_wp2_with fail
       refine(N_.2 Hh.out).mono ?_;rintro e w5 ⟨rfl,a4⟩;have a0:=uh (HT.out.call a4);have c5:=(HG.out _ _ _ _ _ a0.out).1;have b5:=(HG.out _ _ _ _ _ a0.out).2.2.1;have s5:=(HG.out _ _ _ _ _ a0.out).2.2.2;clear a4 HT Hh q4
       gi_wp2_with (first
        | (show wpListIn _ _ _ _ _ (⟨_,Op.lookup _ _ _ _,_,_,_,_⟩::_) _ _;refine J6 (Gc _ _) (by rfl) (by intro c h;cases h) (LP _ _ _ false rfl 3 4 underlying285 underlying3 _ (aG _) rfl b5 ap.out (i:Int) rfl ?_);rw[ae.out])
        | (gi_at_builtin;have K3:=uh ((a0.out.alloc (.cells #[iV i,iV 0,iV 9] 240)).perm (l2:=M++((w5.heap.size,.cells #[iV i,iV 0,iV 9] 240)::(J,.cells #[.slice ao S.length cap] 234)::RG)) po);refine Gj (Gc _ _) rfl (by intro c h;cases h) (JB _ _ rfl KV rfl af.out (R:=(w5.heap.size,.cells #[iV i,iV 0,iV 9] 240)::(J,.cells #[.slice ao S.length cap] 234)::RG) K3.out.has rfl (news:=[iV i,iV 0,iV 9]) rfl (Qy (A_ _ _)) (by simp[Value.oneCell']) ag aj ?_);intro a9 p9 l9 w6 a2 V9 aa;have K9:=(K3.out.trans V9).perm (l2:=(J,.cells #[.slice ao S.length cap] 234)::(l9++((w5.heap.size,.cells #[iV i,iV 0,iV 9] 240)::RG))) po;have q9:=K9.cell1 0;have f9:=K9.free1 0;have a6:=uh ((K9.setCell 0 (.slice a9 (S.length+1) p9)).perm (l2:=(w5.heap.size,.cells #[iV i,iV 0,iV 9] 240)::(l9++((J,.cells #[.slice a9 (S.length+1) p9] 234)::RG))) po);have a8:=uh a2;clear V9 a2 aa K9 s5 c5 b5)
        | fail)
       go_roundw
       case rel=>
        have a3:(J3 f (ats cs) (i+1)).length=S.length+1:=(by rw[HN.out];simp);exact⟨i+1,a9,p9,l9,by omega,by go_num,by rw[a3,HN.out,JY];exact a8.out,by rw[a3];exact a6.out.tail⟩
       case measure=>simp[intOf];omega
    | false=>
     by_cases hm:i∈ats cs
     · skip
       rw[hb]at Hh;rw[v_ hm]at ae;rw[y_ (by rw[hb,k_ hm];decide),hb]at HN;rw[y_ (by decide)]at HN;clear hm
       gi_wp2_with fail
       refine(N_.2 Hh.out).mono ?_;rintro e w5 ⟨rfl,a4⟩;have a0:=uh (HT.out.call a4);have c5:=(HG.out _ _ _ _ _ a0.out).1;have b5:=(HG.out _ _ _ _ _ a0.out).2.2.1;have s5:=(HG.out _ _ _ _ _ a0.out).2.2.2;clear a4 HT Hh q4
       gi_wp2_with (first
        | (show wpListIn _ _ _ _ _ (⟨_,Op.lookup _ _ _ _,_,_,_,_⟩::_) _ _;refine J6 (Gc _ _) (by rfl) (by intro c h;cases h) (LP _ _ _ false rfl 3 4 underlying285 underlying3 _ (aG _) rfl b5 ap.out (i:Int) rfl ?_);rw[ae.out])
        | (gi_at_builtin;have K3:=uh ((a0.out.alloc (.cells #[iV i,iV 0,iV 3] 240)).perm (l2:=M++((w5.heap.size,.cells #[iV i,iV 0,iV 3] 240)::(J,.cells #[.slice ao S.length cap] 234)::RG)) po);refine Gj (Gc _ _) rfl (by intro c h;cases h) (JB _ _ rfl KV rfl af.out (R:=(w5.heap.size,.cells #[iV i,iV 0,iV 3] 240)::(J,.cells #[.slice ao S.length cap] 234)::RG) K3.out.has rfl (news:=[iV i,iV 0,iV 3]) rfl (Qy (A_ _ _)) (by simp[Value.oneCell']) ag aj ?_);intro a9 p9 l9 w6 a2 V9 aa;have K9:=(K3.out.trans V9).perm (l2:=(J,.cells #[.slice ao S.length cap] 234)::(l9++((w5.heap.size,.cells #[iV i,iV 0,iV 3] 240)::RG))) po;have q9:=K9.cell1 0;have f9:=K9.free1 0;have a6:=uh ((K9.setCell 0 (.slice a9 (S.length+1) p9)).perm (l2:=(w5.heap.size,.cells #[iV i,iV 0,iV 3] 240)::(l9++((J,.cells #[.slice a9 (S.length+1) p9] 234)::RG))) po);have a8:=uh a2;clear V9 a2 aa K9 s5 c5 b5)
        | fail)
       go_roundw
       case rel=>
        have a3:(J3 f (ats cs) (i+1)).length=S.length+1:=(by rw[HN.out];simp);exact⟨i+1,a9,p9,l9,by omega,by go_num,by rw[a3,HN.out,JY];exact a8.out,by rw[a3];exact a6.out.tail⟩
       case measure=>simp[intOf];omega
     · skip
       rw[hb]at Hh;rw[y_ hm]at ae;rw[v_ (by rw[hb,b_ hm]),p_]at HN;clear hm
       gi_wp2_with fail
       refine(N_.2 Hh.out).mono ?_;rintro e w5 ⟨rfl,a4⟩;have a0:=uh (HT.out.call a4);have c5:=(HG.out _ _ _ _ _ a0.out).1;have b5:=(HG.out _ _ _ _ _ a0.out).2.2.1;have s5:=(HG.out _ _ _ _ _ a0.out).2.2.2;clear a4 HT Hh q4
       gi_wp2_with (first
        | (show wpListIn _ _ _ _ _ (⟨_,Op.lookup _ _ _ _,_,_,_,_⟩::_) _ _;refine J6 (Gc _ _) (by rfl) (by intro c h;cases h) (LP _ _ _ false rfl 3 4 underlying285 underlying3 _ (aG _) rfl b5 ap.out (i:Int) rfl ?_);rw[ae.out])
        | fail)
       go_roundw
       case rel=>exact⟨i+1,ao,cap,M,by omega,by go_num,by rw[HN.out];exact af.out,by rw[HN.out];exact a0.out⟩
       case measure=>simp[intOf];omega
  · obtain rfl:i=en:=O
    have bQ:¬(i:Int)<((i:Nat):Int):=O;have HT:=uh Z;clear Z an
    gi_wp2_with fail
    have bY:=My f (ats cs) i;generalize J3 f (ats cs) i=U at*;have hS:Turn [] w (M++((J,.cells #[.slice ao U.length cap] 234)::RG)) wr.drew:=HT.out.drew;clear q4 HT;refine Ge ?_;refine Bh (S:=fun W'=>Turn [] w (M++((J,.cells #[.slice ao U.length cap] 234)::RG)) W') 8 ?_;refine Jr 0 70 ab hS ?_;refine Jr 1 71 ab hS ?_;refine Jr 2 72 ab hS ?_;refine N6 3 73 ab hS (fun w aQ=>(HG.out _ _ _ _ _ aQ).2.1) ?_;refine Jr 4 74 ab hS ?_;refine Ga (i:=5) kr rfl (fun K hK=>?_)
    go_simp
    refine(N_.2 (bA.out _ hS.below)).mono ?_;rintro e w6 ⟨rfl,hw⟩;rw[hw];clear hw w6;refine hK.out _ _ hS ?_;clear hK K;simp only[Gb,G7,G6];refine Jr 6 76 ab hS ?_;refine Jr 7 77 ab hS ?_;refine Gx kr ?_ _;refine z_ ?_;have HS:=uh hS;clear hS bM hi bQ;generalize wr.drew=w7 at*;have cg:IntKind.i64.wrap (z:Int)=(z:Int):=i64_in _ O;have ag:U.length+1 <= maxLen:=by unfold maxLen;omega
    have aj:(U.length+1)*24 <= 140737488355328:=O
    gi_upto_if 77 with fail
    gi_cut []from 33 (fun wx=>∃(a7:Option Addr) (p7:Nat) (l7:List Blk),Gh 240 3 a7 (U++Ju i z).length p7 (TE (U++Ju i z)) l7 /\ Turn [] w (l7++((J,.cells #[.slice a7 (U++Ju i z).length p7] 234)::RG)) wx)
    case first=>
     by_cases b9:i<z
     · have bp:(i:Int)<(z:Int):=O
       have ak:Hid (Ju i z=[(i,0,7)]):=uh (v_ b9);refine wpIn_wide.2 ?_
       go_wp2_with fail
       have aA:=uh HS.out.drew;clear HS;refine F_ ?_;refine rG (S:=fun W'=>W'.cell? (aD g 4)=some (iV i)) 9 ?_;generalize w7.drew=w8 at*;have s7:=(HG.out _ _ _ _ _ aA.out).2.2.2;have ah:=(HG.out _ _ _ _ _ aA.out).2.1;have K3:=uh ((aA.out.alloc (.cells #[iV i,iV 0,iV 7] 240)).perm (l2:=M++((w8.heap.size,.cells #[iV i,iV 0,iV 7] 240)::(J,.cells #[.slice ao U.length cap] 234)::RG)) po);have aJ:=(aA.out.alloc (.cells #[iV i,iV 0,iV 7] 240)).perm (l2:=((w8.heap.size,.cells #[iV i,iV 0,iV 7] 240)::M)++((J,.cells #[.slice ao U.length cap] 234)::RG)) po;have s8:=(HG.out _ _ _ _ _ aJ).2.2.2;have aN:=(HG.out _ _ _ _ _ aJ).2.1;clear aJ;refine G2 1 79 ah ?_;refine G2 2 80 ah ?_;refine G2 3 81 ah ?_;refine Jt 4 82 ah (fun w aQ=>aQ) ?_;refine G2 5 83 ah ?_;refine Zf (rs:=[0,6]) kr (by simp) (H_ rfl (fun K hK=>?_) (H_ rfl (fun K hK=>?_) Zd))
       · go_simp
         refine hK.out _ _ ah fun _=>?_;clear hK K s7 s8;simp only[Zq,Xf];refine G5 6 (fun K hK=>?_)
         go_simp
         refine hK.out _ _ aN fun _=>?_;clear hK K ah;simp only[Gb,G7,G6];refine G5 7 (fun K hK=>?_);refine Xc rfl _ _ rfl KV rfl af.out (R:=(w8.heap.size,.cells #[iV i,iV 0,iV 7] 240)::(J,.cells #[.slice ao U.length cap] 234)::RG) K3.out.has rfl (news:=[iV i,iV 0,iV 7]) rfl (Qy (A_ _ _)) (by simp[Value.oneCell']) ag aj ?_;intro a9 p9 l9 w6 a2 V9 aa;have K9:=(K3.out.trans V9).perm (l2:=(J,.cells #[.slice ao U.length cap] 234)::(l9++((w8.heap.size,.cells #[iV i,iV 0,iV 7] 240)::RG))) po;have q9:=K9.cell1 0;have f9:=K9.free1 0;have au:=(HG.out _ ((w8.heap.size,.cells #[iV i,iV 0,iV 7] 240)::l9) ao U.length cap (K9.perm po)).2.1;have a6:=uh ((K9.setCell 0 (.slice a9 (U.length+1) p9)).perm (l2:=(w8.heap.size,.cells #[iV i,iV 0,iV 7] 240)::(l9++((J,.cells #[.slice a9 (U.length+1) p9] 234)::RG))) po);have aP:=(HG.out _ ((w8.heap.size,.cells #[iV i,iV 0,iV 7] 240)::l9) _ _ _ a6.out).2.1;have a8:=uh a2;refine hK.out _ _ au fun _=>?_;clear hK K V9 a2 aa K9 au;simp only[Gb,G7,G6];refine G5 8 (fun K hK=>?_)
         go_simp
         refine hK.out _ _ aP fun _=>?_;clear hK K;simp only[Gb,G7,G6];refine P_ kr ?_ _;refine z_ ?_
         go_wp2_with fail
         go_meet
         have a3:(U++Ju i z).length=U.length+1:=(by rw[ak.out];simp);exact⟨a9,p9,l9,by rw[a3,ak.out,JY];exact a8.out,by rw[a3];exact a6.out.tail⟩
       · go_simp
         refine hK.out _ _ aN fun _=>?_;clear hK K s7;simp only[Gb,G7,G6];refine G5 0 (fun K hK=>?_)
         go_simp
         refine hK.out _ _ aN fun _=>?_;clear hK K s8 ah;simp only[Zq,Xf];refine G5 7 (fun K hK=>?_);refine Xc rfl _ _ rfl KV rfl af.out (R:=(w8.heap.size,.cells #[iV i,iV 0,iV 7] 240)::(J,.cells #[.slice ao U.length cap] 234)::RG) K3.out.has rfl (news:=[iV i,iV 0,iV 7]) rfl (Qy (A_ _ _)) (by simp[Value.oneCell']) ag aj ?_;intro a9 p9 l9 w6 a2 V9 aa;have K9:=(K3.out.trans V9).perm (l2:=(J,.cells #[.slice ao U.length cap] 234)::(l9++((w8.heap.size,.cells #[iV i,iV 0,iV 7] 240)::RG))) po;have q9:=K9.cell1 0;have f9:=K9.free1 0;have au:=(HG.out _ ((w8.heap.size,.cells #[iV i,iV 0,iV 7] 240)::l9) ao U.length cap (K9.perm po)).2.1;have a6:=uh ((K9.setCell 0 (.slice a9 (U.length+1) p9)).perm (l2:=(w8.heap.size,.cells #[iV i,iV 0,iV 7] 240)::(l9++((J,.cells #[.slice a9 (U.length+1) p9] 234)::RG))) po);have aP:=(HG.out _ ((w8.heap.size,.cells #[iV i,iV 0,iV 7] 240)::l9) _ _ _ a6.out).2.1;have a8:=uh a2;refine hK.out _ _ au fun _=>?_;clear hK K V9 a2 aa K9 au;simp only[Gb,G7,G6];refine G5 8 (fun K hK=>?_)
         go_simp
         refine hK.out _ _ aP fun _=>?_;clear hK K;simp only[Gb,G7,G6];refine P_ kr ?_ _;refine z_ ?_
         go_wp2_with fail
         go_meet
         have a3:(U++Ju i z).length=U.length+1:=(by rw[ak.out];simp);exact⟨a9,p9,l9,by rw[a3,ak.out,JY];exact a8.out,by rw[a3];exact a6.out.tail⟩
     · have bp:¬(i:Int)<(z:Int):=O
       have ak:Hid (Ju i z=[]):=uh (y_ b9)
       gi_wp2_with fail
       gi_meet
       exact⟨ao,cap,M,by rw[ak.out,p_];exact af.out,by rw[ak.out,p_];exact HS.out⟩
    case rest=>
    clear HS af ag aj aS;obtain⟨a7,p7,l7,bf,T7⟩:=hcut
    have c9:(U++Ju i z).length <= 100000:=by
     rw[e_];unfold Ju
     split
     ·simp;omega
     ·simp;omega
    have bk:Hid (F=(U++Ju i z)++((R9 L W (ats cs) (objs cs)).filter VG).map Bb):=uh aY.out;clear aY;generalize U++Ju i z=H at*;have bB:=uh bf;rw[b0.out]at T7;have HS:=uh T7;clear T7 bf HG b0;generalize wc=w7 at*
    gi_wp2_with (first
     | (gi_at_call 161;refine(D2 (6-1) g _).mono ?_;rintro e w' ⟨rfl,hw⟩;rw[hw];clear hw w')
     | fail)
    have T5:=HS.out.alloc (.cells #[pt g] 283);generalize(w7.alloc (.cells #[pt g] 283))=W0 at T5 ⊢;generalize w7.heap.size=Bs at T5 ⊢;clear HS;have ay:w.heap.size <= W0.heap.size:=T5.size;have R8:Below w.heap.size w W0:=T5.below;have T8:Turn [] w (l7++((J,.cells #[.slice a7 H.length p7] 234)::((Bs,.cells #[pt g] 283)::(g,.cells #[pt a,pt tb,.map (some m),.slice a1 (ats cs).length N,iV (Gg 0 cs:Nat)] 287)::(m,ob)::lg))) W0:=T5.perm po;have bP:m<W0.heap.size:=T8.has.lt (by simp[keys]);have c1:J<W0.heap.size:=T8.has.lt (by simp[keys]);clear T5
    have aR:∀x∈(((Bs,.cells #[pt g] 283):Blk)::(g,.cells #[pt a,pt tb,.map (some m),.slice a1 (ats cs).length N,iV (Gg 0 cs:Nat)] 287)::lg),x.2.isCells=true:=by
     intro x hx;rcases t_.1 hx with rfl|hx
     ·rfl
     rcases t_.1 hx with rfl|hx
     ·rfl
     ·exact aH.out.cells x hx
    have hX:∀x∈(((Bs,.cells #[pt g] 283):Blk)::(g,.cells #[pt a,pt tb,.map (some m),.slice a1 (ats cs).length N,iV (Gg 0 cs:Nat)] 287)::lg),W0.heap[x.1]?= some x.2:=fun x hx=>T8.has.own x.1 x.2 (by
     simp only[t_,s_]at hx ⊢;rcases hx with h|h|h
     ·exact .inr (.inr (.inl h))
     ·exact .inr (.inr (.inr (.inl h)))
     ·exact .inr (.inr (.inr (.inr (.inr h)))))
    have aT:W0.heap[m]?= some ob:=T8.has.own m ob (by simp)
    have a5:(keys lg).Nodup:=by
     have h9:=(T8.has.sub (Zy l7 _)).nd;simp only[JP,Yu]at h9;exact h9.2.2.2.2
    have aM:∀(M:List Blk) (ao:Option Addr) (k cap:Nat),(∀x∈M,x.2.isCells=true) -> ∀x∈M++(((J,.cells #[.slice ao k cap] 234):Blk)::((Bs,.cells #[pt g] 283)::(g,.cells #[pt a,pt tb,.map (some m),.slice a1 (ats cs).length N,iV (Gg 0 cs:Nat)] 287)::(m,ob)::lg)),x.2.isCells=true∨x.1<W0.heap.size:=fun M ao k cap hl x hx=>by
     simp only[t_,s_]at hx;rcases hx with hx|rfl|rfl|rfl|rfl|hx
     ·exact .inl (hl x hx)
     ·exact .inl rfl
     ·exact .inl rfl
     ·exact .inl rfl
     ·exact .inr bP
     ·exact .inl (aH.out.cells x hx)
    have b6:∀(M:List Blk) (ao:Option Addr) (k cap:Nat) (xs:List Value) (W':World),Gh 240 3 ao k cap xs M -> Turn [] w (M++((J,.cells #[.slice ao k cap] 234)::((Bs,.cells #[pt g] 283)::(g,.cells #[pt a,pt tb,.map (some m),.slice a1 (ats cs).length N,iV (Gg 0 cs:Nat)] 287)::(m,ob)::lg))) W' -> ∀b,KF J W' b -> b<W'.heap.size /\ b∉keys (((Bs,.cells #[pt g] 283):Blk)::(g,.cells #[pt a,pt tb,.map (some m),.slice a1 (ats cs).length N,iV (Gg 0 cs:Nat)] 287)::lg):=fun M ao k cap xs W' hr T b hb=>by
     have a5:=T.has.nd;rw[GN,Yt]at a5;have bc:=a5.2.1;rw[JP,Yu]at bc;rcases hb with rfl|⟨k',bX,t,hb⟩
     · refine⟨T.has.lt (by simp[keys]),fun hm=>bc.1 ?_⟩
       simp only[JP,t_]at hm ⊢;rcases hm with h|h|h
       ·exact .inl h
       ·exact .inr (.inl h)
       ·exact .inr (.inr (.inr h))
     · rw[T.has.own J _ (by simp:(J,Obj.cells #[.slice ao k cap] 234)∈_)]at hb
       simp only[Option.some.injEq,Obj.cells.injEq,Array.mk.injEq,List.cons.injEq,Value.slice.injEq]at hb;obtain⟨⟨⟨rfl,rfl,rfl⟩,-⟩,-⟩:=hb;rcases hr.2.2.2 with⟨h2,-⟩|⟨q,c6,h2,rfl,-⟩
       ·cases h2
       · cases h2
         refine⟨T.has.lt (by simp[keys]),fun hm=>a5.2.2 b (by simp[keys]) b ?_ rfl⟩;simp only[JP,t_]at hm ⊢;rcases hm with h|h|h
         ·exact .inr (.inl h)
         ·exact .inr (.inr (.inl h))
         ·exact .inr (.inr (.inr (.inr h)))
    generalize hE:R9 L W (ats cs) (objs cs)=E at*
    apply JD (β:=Nat) ab h1 (gf:=212) (lb:=#[pt Bs]) rfl h7 (enters_of func212 kr rfl)
     (bs.out g m Bs ob a1 N lg (Gg 0 cs:Nat) ap.out aH.out (((Bs,.cells #[pt g] 283):Blk)::(g,.cells #[pt a,pt tb,.map (some m),.slice a1 (ats cs).length N,iV (Gg 0 cs:Nat)] 287)::lg) (d_ ..) (by simp) (fun x hx=>by simp[hx]) aR (KF J) (fun A=>∀b,KF J A b -> b<A.heap.size /\ b∉keys (((Bs,.cells #[pt g] 283):Blk)::(g,.cells #[pt a,pt tb,.map (some m),.slice a1 (ats cs).length N,iV (Gg 0 cs:Nat)] 287)::lg)) (fun A h=>h) (fun A B b hg hB h=>by
       rcases h with h|⟨k,cap,t,h⟩
       ·exact .inl h
       · refine .inr ⟨k,cap,t,?_⟩
         rw[←hB.block J (hg J (.inl rfl)).1];exact h) W0 R8 hX a5 aT)
     (fun h k=>⟨h.1.t k.1,k.2.trans h.2⟩) (fun W l o o' hl bL hc hw=>⟨KpD.b O (fun W l o' hl b=>KF.put O o') W l o o' hl bL hc hw,World.putObj_heap_other O⟩) (T_ _ _) (fun _=>rfl)
     (fun pre W'=>∃ao cap M,Gh 240 3 ao (Ln H pre).length cap (TE (Ln H pre)) M /\ pre.length <= 2147483648 /\ Turn [] w (M++((J,.cells #[.slice ao (Ln H pre).length cap] 234)::((Bs,.cells #[pt g] 283)::(g,.cells #[pt a,pt tb,.map (some m),.slice a1 (ats cs).length N,iV (Gg 0 cs:Nat)] 287)::(m,ob)::lg))) W')
     (fun x nb pre W'=>∃ao cap M,Gh 240 3 ao (Ln H pre).length cap (TE (Ln H pre)) M /\ pre.length+1 <= 2147483648 /\ Turn [] w ((nb,.cells #[iV x.1,iV x.2.1,iV x.2.2.1] 291)::(M++((J,.cells #[.slice ao (Ln H pre).length cap] 234)::((Bs,.cells #[pt g] 283)::(g,.cells #[pt a,pt tb,.map (some m),.slice a1 (ats cs).length N,iV (Gg 0 cs:Nat)] 287)::(m,ob)::lg)))) W')
     (fun s A D row ⟨ao,cap,M,e1,e2,Z⟩ hg hr=>⟨ao,cap,M,e1,e2,Z.grownC ay (aM M ao _ cap e1.cells) hg hr⟩)
     (fun x nb s A D row ⟨ao,cap,M,e1,e2,Z⟩ hg hr=>⟨ao,cap,M,e1,e2,Z.grownC ay (by
       intro y hy;rcases t_.1 hy with rfl|hy
       ·exact .inl rfl
       ·exact aM M ao _ cap e1.cells y hy) hg hr⟩)
     ⟨a7,p7,l7,by rw[SJ];exact bB.out,by simp,by rw[SJ];exact T8⟩
     (fun pre W' ⟨ao,cap,M,e1,e2,Z⟩=>b6 M ao _ cap _ W' e1 Z)
    case hassign=>
     rintro l1 pre x W2 ⟨c2,bd⟩ ⟨ao,cap,M,e1,e2,Z⟩;have bR:pre.length+1 <= 2147483648:=by rw[bd,e_,B_]at bJ;omega
     have T2:=Z.alloc (.cells #[iV 0,iV 0,iV 0] 291);have bh:(W2.alloc (.cells #[iV 0,iV 0,iV 0] 291)).there W2.heap.size 0 3:=T2.there1;have bz:=uh (T2.laid [iV x.1,iV x.2.1,iV x.2.2.1] rfl);have HX:=uh (((r_ (C_ W2)).alloc (.cells #[iV 0,iV 0,iV 0] 291)).laid [iV x.1,iV x.2.1,iV x.2.2.1] rfl);have br:=Ec;have be:(#[iV x.1,iV x.2.1,iV x.2.2.1]:Array Value).all (·.oneCell')=true:=Yn (cs:=[iV x.1,iV x.2.1,iV x.2.2.1]) (by simp[Value.oneCell']);have b7:=b6 M ao _ cap _ W2 e1 Z;have bq:m<W2.heap.size:=Z.has.lt (by simp[keys]);have HE:=uh e1;have cd:=Z.size;unfold YP;clear T2 bd Z e1
     gi_wp2_with (first
      | (show wpListIn _ _ _ _ _ (⟨_,Op.store 291 _ _,_,_,_,_⟩::_) _ _;refine Gj (Gu _ _ _) rfl (by intro c h;cases h) (wp_store_mid 291 _ _ rfl _ 0 #[iV x.1,iV x.2.1,iV x.2.2.1] rfl rfl bh br be ?_);clear bh)
      | fail)
     have HK:=uh (⟨((KeepsOthers.alloc _ _).trans (GT _ _ _)).from _,KpD.of HX.out O (fun b hb=>by cases hb) (fun b hb hd=>by
       rcases hd with h|⟨k,cap,t,h⟩
       ·exact .inl h
       · refine .inr ⟨k,cap,t,?_⟩
         rw[←HX.out.below.block J (b7 J (.inl rfl)).1];exact h),HX.out.below.block m bq⟩:
      KeepsFrom W0.heap.size W2 ((W2.alloc (.cells #[iV 0,iV 0,iV 0] 291)).setCells W2.heap.size 0 [iV x.1,iV x.2.1,iV x.2.2.1]) /\ KpD w.heap.size (KF J) W2 ((W2.alloc (.cells #[iV 0,iV 0,iV 0] 291)).setCells W2.heap.size 0 [iV x.1,iV x.2.1,iV x.2.2.1]) /\ ((W2.alloc (.cells #[iV 0,iV 0,iV 0] 291)).setCells W2.heap.size 0 [iV x.1,iV x.2.1,iV x.2.2.1]).heap[m]?= W2.heap[m]?)
     clear HX be b7;generalize(W2.alloc (.cells #[iV 0,iV 0,iV 0] 291)).setCells W2.heap.size 0 [iV x.1,iV x.2.1,iV x.2.2.1]=W3 at*;generalize W2.heap.size=nb at*;exact⟨HK.out.1,⟨HK.out.2.1,HK.out.2.2⟩,nb,rfl,ao,cap,M,HE.out,bR,bz.out⟩
    case hbody=>
     rintro l1 pre x nb W2-⟨ao,cap,M,e1,e2,Z⟩;have q0:W2.cell? (aD J 0)=some (.slice ao (Ln H pre).length cap):=Z.has.cell (b:=J) (c:=#[.slice ao (Ln H pre).length cap]) (e:=234) (f:=(0,0)) (by simp) 0;have r0:W2.cell? (aD nb 0)=some (iV x.1):=Z.cell1 0;have r1:W2.cell? (aD nb 1)=some (iV x.2.1):=Z.cell1 1;have q2:W2.cell? (aD nb 2)=some (iV x.2.2.1):=Z.cell1 2;have ca:=Dy H pre;have ac:=uh (X8 H pre x)
     by_cases am:VG x=true
     · have ax:=am
       unfold VG at ax;rw[Xn]at ax;obtain⟨k0,k1⟩:=ax;have k2:((x.2.2.2:Nat):Int)≠0:=by have:=Qe.1 k0;omega
       have k3:x.2.2.1<0:=of_decide_eq_true k1;rw[v_ am]at ac;have ag:(Ln H pre).length+1 <= maxLen:=(by unfold maxLen;omega);have aj:((Ln H pre).length+1)*24 <= 140737488355328:=O;have HT:=uh Z;have U:=uh e1;have HH:=uh (Z.has.sub (l':=M++[(J,.cells #[.slice ao (Ln H pre).length cap] 234)]) (by simp));clear Z e1 am k0
       gi_wp2_with (first
        | (gi_at_builtin;have K3:=uh (((r_ HH.out).alloc (.cells #[iV x.1,iV x.2.1,iV 8] 240)).perm (l2:=M++[(W2.heap.size,.cells #[iV x.1,iV x.2.1,iV 8] 240),(J,.cells #[.slice ao (Ln H pre).length cap] 234)]) po);refine Gj (Gu _ _ _) rfl (by intro c h;cases h) (JB _ _ rfl KV rfl U.out (R:=[(W2.heap.size,.cells #[iV x.1,iV x.2.1,iV 8] 240),(J,.cells #[.slice ao (Ln H pre).length cap] 234)]) K3.out.has rfl (news:=[iV x.1,iV x.2.1,iV 8]) rfl (Qy (A_ _ _)) (by simp[Value.oneCell']) ag aj ?_);intro a9 p9 l9 w4 a2 V4 aa;have K4:=(K3.out.trans V4).perm (l2:=(J,.cells #[.slice ao (Ln H pre).length cap] 234)::(l9++[(W2.heap.size,.cells #[iV x.1,iV x.2.1,iV 8] 240)])) po;have q5:=K4.cell1 0;have f5:=K4.free1 0;have K5:=K4.setCell 0 (.slice a9 ((Ln H pre).length+1) p9);have bt:=uh K5;have bu:=uh (KpD.res (n₀:=w.heap.size) U.out a2 K5 HH.out O (fun b hb=>(HT.out.new b (by simp[keys]at hb ⊢;exact .inr (.inl hb))).resolve_left (by simp[keys])));have bv:=uh (Turn.keepsOthers K5 HH.out (Kf U.out));have bx:=uh (K5.same m (HT.out.has.lt (by simp[keys])) (fun hm=>by have a5:=HT.out.has.nd;simp only[JP,GN,Yu,Yt,s_,t_]at a5 hm;rcases hm with hm|hm|hm;exact a5.2.2.2 m hm m (by simp) rfl;exact a5.2.2.1.1 (by rw[←hm];simp);cases hm));have a8:=uh a2;clear V4 K4 K5 K3 aa a2 q0)
        | fail)
       have bH:TE (Ln H (pre++[x]))=TE (Ln H pre)++[iV x.1,iV x.2.1,iV 8]:=(by rw[ac.out,JY];simp[TE,Ry,Bb]);have a3:(Ln H (pre++[x])).length=(Ln H pre).length+1:=(by rw[ac.out];simp);have bG:=(HT.out.perm (l2:=(M++[(J,.cells #[.slice ao (Ln H pre).length cap] 234)])++((nb,.cells #[iV x.1,iV x.2.1,iV x.2.2.1] 291)::((Bs,.cells #[pt g] 283)::(g,.cells #[pt a,pt tb,.map (some m),.slice a1 (ats cs).length N,iV (Gg 0 cs:Nat)] 287)::(m,ob)::lg))) po).trans (bt.out.more ((HT.out.perm (l2:=(M++[(J,.cells #[.slice ao (Ln H pre).length cap] 234)])++((nb,.cells #[iV x.1,iV x.2.1,iV x.2.2.1] 291)::((Bs,.cells #[pt g] 283)::(g,.cells #[pt a,pt tb,.map (some m),.slice a1 (ats cs).length N,iV (Gg 0 cs:Nat)] 287)::(m,ob)::lg))) po).has));refine⟨bv.out.from _,⟨bu.out,bx.out⟩,a9,p9,l9,by rw[a3,bH];exact a8.out,by simp;omega,?_⟩;rw[a3]
       exact(bG.perm (l2:=[(W2.heap.size,.cells #[iV x.1,iV x.2.1,iV 8] 240),(nb,.cells #[iV x.1,iV x.2.1,iV x.2.2.1] 291)]++(l9++((J,.cells #[.slice a9 ((Ln H pre).length+1) p9] 234)::((Bs,.cells #[pt g] 283)::(g,.cells #[pt a,pt tb,.map (some m),.slice a1 (ats cs).length N,iV (Gg 0 cs:Nat)] 287)::(m,ob)::lg)))) po).drop
     · have HX:=uh (⟨e1,Z.tail⟩:Gh 240 3 ao (Ln H pre).length cap (TE (Ln H pre)) M /\ Turn [] w (M++((J,.cells #[.slice ao (Ln H pre).length cap] 234)::((Bs,.cells #[pt g] 283)::(g,.cells #[pt a,pt tb,.map (some m),.slice a1 (ats cs).length N,iV (Gg 0 cs:Nat)] 287)::(m,ob)::lg))) W2)
       rw[y_ am,p_]at ac
       by_cases aU:x.2.2.2=0
       · have k2:((x.2.2.2:Nat):Int)=0:=O
         clear Z e1 am aU
         gi_wp2_with fail
         refine⟨KeepsFrom.refl _ _,⟨⟨T_ _ _,g_ _,fun _ _ h _ _=>h,fun _ _ h=>h⟩,rfl⟩,ao,cap,M,by rw[ac.out];exact HX.out.1,by simp;omega,by rw[ac.out];exact HX.out.2⟩
       · have k2:((x.2.2.2:Nat):Int)≠0:=O
         have k3:¬x.2.2.1<0:=fun h=>am (by unfold VG;rw[Qe.2 aU,k_ h];rfl);clear Z e1 am aU
         gi_wp2_with fail
         refine⟨KeepsFrom.refl _ _,⟨⟨T_ _ _,g_ _,fun _ _ h _ _=>h,fun _ _ h=>h⟩,rfl⟩,ao,cap,M,by rw[ac.out];exact HX.out.1,by simp;omega,by rw[ac.out];exact HX.out.2⟩
    case hdone=>
     rintro D xs W2 hD bj ⟨ao,cap,M,e1,e2,Z⟩ hK;have hk:F=Ln H xs:=by unfold Ln;rw[bk.out,bj]
     have aZ:=uh hk;have q0:W2.cell? (aD J 0)=some (.slice ao (Ln H xs).length cap):=Z.has.cell (b:=J) (c:=#[.slice ao (Ln H xs).length cap]) (e:=234) (f:=(0,0)) (by simp) 0;have HT:=uh Z;have U:=uh e1;have HK:=uh hK;clear Z e1 hK hk bj
     gi_wp2_with fail
     have b3:=HT.out.grownC (B:=W0.heap.size) ay (aM M ao _ cap U.out.cells) (grownBy_putObj' _ D (.deferred none)) (fun r e=>by cases e;exact⟨hD,_,HK.out,rfl⟩);have bm:=uh b3;clear b3 HT q0;refine⟨by simp,.inl ⟨_,_,rfl,run_takeDeferred HK.out,?_⟩⟩;refine⟨.tuple #[.slice ao (Ln H xs).length cap,iV 0],?_,ao,cap,M,by rw[aZ.out],by rw[aZ.out];exact U.out,bm.out.sub (x_ _ _)⟩;simp[results,results111,go_sem]
end
section
open Go Go.RowKit Go.IntWalk
structure WdIn (L:List Ty)(W B:List Nat):Prop where
 few:W.length <= 65536
 u64:∀v∈W,v<18446744073709551616
 ty:∀t∈L,TyIn t
 lt:L.length <= 1000
 bu:u64ok B
 bl:B.length=(W.length/2+63)/64
theorem MT {L:List Ty}{W B:List Nat}(h:WdIn L W B){cs:List Ce}{en:Nat}(r:Chain L W 0 cs en)(E:Ky L W en)(f:Nat -> Bool):(Jy f L W cs en).length <= 2200000000:=by
 have N:=h.few;have h1:=r.len;have h2:=E.le;have U:=My f (ats cs) en;have V:(objs cs).length <= cs.length:=by unfold objs;exact Zm ..
 have Z:=VA (L:=L) (W:=W) (A:=ats cs) (os:=objs cs) (fun c G=>by
  have J:=ME r h2 h.few h.ty G;have h1:=JV (tyAt L c.2.typ) ((tyAt L c.2.typ).slots c.2.len);have h2:(tyAt L c.2.typ).refs c.2.len=KJ (tyAt L c.2.typ) ((tyAt L c.2.typ).slots c.2.len):=rfl;obtain⟨y,-,M,-⟩:=L3.1 J.err;have:=GJ y (n:=c.2.len) O;rw[h2];omega)
 have h8:=NR (R9 L W (ats cs) (objs cs));have h9:(Ju en (W.length/2)).length <= 1:=by unfold Ju;split<;>simp
 unfold Jy Lk S2;rw[e_,e_,n_];omega
theorem F4 (w:World)(sb a aw tb bb:Nat){W B:List Nat}(bo:Option Addr)(ae:Nat)(aH:Option Addr)(am:Nat)(L:List Ty)(cs:List Ce)(en:Nat)(hA:SbAt w sb a aw tb bb W B bo ae aH am L)(J:WdIn L W B)(hC:Chain L W 0 cs en)(hE:Ky L W en)(F:List Ft)(ag:F=Jy (Gv B) L W cs en):
  Calls prog 53 #[pt sb] w fun e w'=>∃ao cap l,e=.returned (.tuple #[.slice ao F.length cap,iV 0]) /\ Gh 39 5 ao F.length cap (Nm (F.map S1)) l /\ Turn [] w l w':=by
 have aK:=MT J hC hE (Gv B);rw[←ag]at aK;have av:=uh (fun w' (hk:Below w.heap.size w w')=>NW w' (a:=(aD a 0)) rfl (hA.below hk).sp.c0);have az:=uh (fun w' (hk:Below w.heap.size w w')=>XQ w' (a:=(aD tb 0)) rfl (hA.below hk).sp.c1);have ay:=uh (ZF w sb bb (W.length/2) B bo ae hA.c2 hA.bits (by rw[J.bl];have:=J.few;omega));have ax:=uh (fun w' (hk:Below w.heap.size w w') b2 a7 N (hb:BitAt w' b2 B (W.length/2) a7 N)=>DR w' a aw tb b2 aH am L ⟨(hA.below hk).sp.ar,(hA.below hk).sp.tab,(hA.below hk).sp.fields⟩ J.few J.u64 J.ty J.lt cs en hC hE B a7 N hb J.bu J.bl F ag);have Z:=BK;have U:=Ns;clear hA J hE hC ag
 go_enter func53,ntmps53
 have af:=T_ w.heap.size w
 go_wp2_with (first
  | (go_at_call 15;refine(av.out _ af).mono ?_;rintro e w' ⟨rfl,hw⟩;rw[hw];clear hw w')
  | (go_at_call 112;refine(az.out _ af).mono ?_;rintro e w' ⟨rfl,hw⟩;rw[hw];clear hw w')
  | fail)
 refine ay.out.mono ?_;rintro e w1 ⟨b2,l2,rfl,aB,T1⟩;obtain⟨a7,N,aC⟩:=aB.at_ (R:=[]) (by rw[p_];exact T1.has);have Hc:=uh (ax.out w1 T1.below b2 a7 N aC);have ap:=uh T1.below;clear aC aB T1 ay ax av az af
 go_wp2_with fail
 refine Hc.out.mono ?_;rintro e w2 ⟨ao,cap,lf,rfl,ak,T2⟩;have aq:Hid (Turn [] w lf w2):=uh ((Ze (C_ w) ap.out).grow T2 |> fun h=>by rwa [p_]at h);have aJ:=uh ak;clear T2 ak ap Hc
 go_wp2_with fail
 go_loopw [2,20] (fun v2 an wr=>∃(i:Nat) (a2:Option Addr) (p2:Nat) (lr:List Blk),i <= F.length /\ an=iV i /\ v2=.slice a2 i p2 /\ Gh 39 5 a2 i p2 (Nm ((F.take i).map S1)) lr /\ Turn [] w (lr++lf) wr) (fun _ an _=>F.length-(intOf an).toNat)
 case atStart=>exact⟨0,none,0,[],u_ _,by go_num,rfl,Zb _ _,aq.out⟩
 case round=>
  clear aq;obtain⟨i,a2,p2,lr,hi,rfl,rfl,a1,V⟩:=hrel
  by_cases aL:i<F.length
  · have aM:(i:Int)<(F.length:Int):=O
    obtain⟨x,hx⟩:∃x,F[i]?= some x:=⟨F[i],a_ aL⟩;have hS:=aJ.out.src (V.has.perm (l':=lf++lr) po);obtain⟨b,off,rfl,-⟩:=hS.form (by rw[show TE F=F.flatMap Ry from rfl,LL (sz:=3) (fun _=>rfl)];omega);have a8:wr.rangeAt b (off+i*3) [iV x.1,iV x.2.1,iV x.2.2]:=Src.fm (f:=Ry) (fun _=>rfl) hS hx;have aG:=KT (f:=S1) hx;have a5:=uh aG;have T3:=V.alloc (.cells #[iV 0,iV 0,iV 0] 240);have aa:(wr.alloc (.cells #[iV 0,iV 0,iV 0] 240)).there wr.heap.size 0 3:=T3.there1;have y:=uh (T3.laid [iV x.1,iV x.2.1,iV x.2.2] rfl);have aF:(#[iV x.1,iV x.2.1,iV x.2.2]:Array Value).all (·.oneCell')=true:=Yn (cs:=[iV x.1,iV x.2.1,iV x.2.2]) (by simp[Value.oneCell']);have aj:(#[yV 1,iV x.1,iV x.2.1,uV 0,iV x.2.2]:Array Value).all (·.oneCell')=true:=Yn (cs:=[yV 1,iV x.1,iV x.2.1,uV 0,iV x.2.2]) (by simp[Value.oneCell']);have a6:=uh a1;have aA:i+1 <= maxLen:=(by unfold maxLen;omega);have aE:(i+1)*40 <= 140737488355328:=O;clear T3 V hx a1 hS aG
    by_cases h8:x.2.2=8
    · have k8:((x.2.2:Int) == 8)=true:=by rw[Qx];omega
      have a0:S1 x=(2,x.1,x.2.1,0,x.2.2):=(by unfold S1;rw[v_ h8]);rw[a0]at a5;clear a0 h8
      go_wp2_with (first
       | (show lW 240;refine J_ rfl 240 _ rfl b (off+i*3) rfl [iV x.1,iV x.2.1,iV x.2.2] _ a8 underlying240 rfl Z ?_;clear a8)
       | (show sW 240;refine h_ rfl 240 _ _ rfl wr.heap.size 0 #[iV x.1,iV x.2.1,iV x.2.2] rfl rfl aa Z aF ?_;clear aa;generalize(wr.alloc (.cells #[iV 0,iV 0,iV 0] 240)).setCells wr.heap.size 0 [iV x.1,iV x.2.1,iV x.2.2]=r at*;generalize wr.heap.size=nb at*;have q0:=y.out.cell1 0;have q1:=y.out.cell1 1;have q2:=y.out.cell1 2;have T5:=y.out.alloc (.cells #[yV 0,iV 0,iV 0,uV 0,iV 0] 39);have G:(r.alloc (.cells #[yV 0,iV 0,iV 0,uV 0,iV 0] 39)).there r.heap.size 0 5:=T5.there1;have E:=uh (T5.laid [yV 1,iV x.1,iV x.2.1,uV 0,iV x.2.2] rfl);clear T5)
       | (show sW 39;refine h_ rfl 39 _ _ rfl r.heap.size 0 #[yV 1,iV x.1,iV x.2.1,uV 0,iV x.2.2] rfl rfl G U aj ?_;clear G q0 q1 q2;generalize(r.alloc (.cells #[yV 0,iV 0,iV 0,uV 0,iV 0] 39)).setCells r.heap.size 0 [yV 1,iV x.1,iV x.2.1,uV 0,iV x.2.2]=w5 at*;generalize r.heap.size=M at*;have q2:=E.out.cell2 2;have f0:=E.out.free1 0;have r0:=E.out.cell1 0;have au:=uh (E.out.setCell 0 (yV 2)))
       | (show lW 39;generalize w5.setCell (aD M 0) (yV 2)=w7 at*;have a4:w7.rangeAt M 0 [yV 2,iV x.1,iV x.2.1,uV 0,iV x.2.2]:=au.out.range1;refine J_ rfl 39 _ rfl M 0 rfl [yV 2,iV x.1,iV x.2.1,uV 0,iV x.2.2] _ a4 underlying39 rfl U ?_;clear a4 f0 r0 q2)
       | (at_builtin;have T6:=uh (au.out.alloc (.cells #[yV 2,iV x.1,iV x.2.1,uV 0,iV x.2.2] 39));refine K_ rfl _ _ rfl GB rfl a6.out (R:=(w7.heap.size,.cells #[yV 2,iV x.1,iV x.2.1,uV 0,iV x.2.2] 39)::(M,.cells #[yV 2,iV x.1,iV x.2.1,uV 0,iV x.2.2] 39)::(nb,.cells #[iV x.1,iV x.2.1,iV x.2.2] 240)::lf) (T6.out.perm po).has rfl (news:=[yV 2,iV x.1,iV x.2.1,uV 0,iV x.2.2]) rfl (Qy (A_ _ _)) (by simp[Value.oneCell']) aA aE ?_;intro a9 p9 l9 w8 a3 V9 ah;have ab:=uh (((T6.out.perm po).trans V9).perm (l2:=[(w7.heap.size,.cells #[yV 2,iV x.1,iV x.2.1,uV 0,iV x.2.2] 39),(M,.cells #[yV 2,iV x.1,iV x.2.1,uV 0,iV x.2.2] 39),(nb,.cells #[iV x.1,iV x.2.1,iV x.2.2] 240)]++(l9++lf)) po);have ac:=uh a3;clear V9 a3 ah)
       | fail)
      go_roundw
      case rel=>
       refine⟨i+1,a9,p9,l9,by omega,by go_num,rfl,?_,ab.out.drop⟩;rw[a5.out,Gy];exact ac.out
      case measure=>simp[intOf];omega
    · have k8:((x.2.2:Int) == 8)=false:=by rw[j_];omega
      have a0:S1 x=(1,x.1,x.2.1,0,x.2.2):=(by unfold S1;rw[y_ h8]);rw[a0]at a5;clear a0 h8
      go_wp2_with (first
       | (show lW 240;refine J_ rfl 240 _ rfl b (off+i*3) rfl [iV x.1,iV x.2.1,iV x.2.2] _ a8 underlying240 rfl Z ?_;clear a8)
       | (show sW 240;refine h_ rfl 240 _ _ rfl wr.heap.size 0 #[iV x.1,iV x.2.1,iV x.2.2] rfl rfl aa Z aF ?_;clear aa;generalize(wr.alloc (.cells #[iV 0,iV 0,iV 0] 240)).setCells wr.heap.size 0 [iV x.1,iV x.2.1,iV x.2.2]=r at*;generalize wr.heap.size=nb at*;have q0:=y.out.cell1 0;have q1:=y.out.cell1 1;have q2:=y.out.cell1 2;have T5:=y.out.alloc (.cells #[yV 0,iV 0,iV 0,uV 0,iV 0] 39);have G:(r.alloc (.cells #[yV 0,iV 0,iV 0,uV 0,iV 0] 39)).there r.heap.size 0 5:=T5.there1;have E:=uh (T5.laid [yV 1,iV x.1,iV x.2.1,uV 0,iV x.2.2] rfl);clear T5)
       | (show sW 39;refine h_ rfl 39 _ _ rfl r.heap.size 0 #[yV 1,iV x.1,iV x.2.1,uV 0,iV x.2.2] rfl rfl G U aj ?_;clear G q0 q1 q2;generalize(r.alloc (.cells #[yV 0,iV 0,iV 0,uV 0,iV 0] 39)).setCells r.heap.size 0 [yV 1,iV x.1,iV x.2.1,uV 0,iV x.2.2]=w5 at*;generalize r.heap.size=M at*;have q2:=E.out.cell2 2)
       | (show lW 39;have a4:w5.rangeAt M 0 [yV 1,iV x.1,iV x.2.1,uV 0,iV x.2.2]:=E.out.range1;refine J_ rfl 39 _ rfl M 0 rfl [yV 1,iV x.1,iV x.2.1,uV 0,iV x.2.2] _ a4 underlying39 rfl U ?_;clear a4 q2)
       | (at_builtin;have T6:=uh (E.out.alloc (.cells #[yV 1,iV x.1,iV x.2.1,uV 0,iV x.2.2] 39));refine K_ rfl _ _ rfl GB rfl a6.out (R:=(w5.heap.size,.cells #[yV 1,iV x.1,iV x.2.1,uV 0,iV x.2.2] 39)::(M,.cells #[yV 1,iV x.1,iV x.2.1,uV 0,iV x.2.2] 39)::(nb,.cells #[iV x.1,iV x.2.1,iV x.2.2] 240)::lf) (T6.out.perm po).has rfl (news:=[yV 1,iV x.1,iV x.2.1,uV 0,iV x.2.2]) rfl (Qy (A_ _ _)) (by simp[Value.oneCell']) aA aE ?_;intro a9 p9 l9 w8 a3 V9 ah;have ab:=uh (((T6.out.perm po).trans V9).perm (l2:=[(w5.heap.size,.cells #[yV 1,iV x.1,iV x.2.1,uV 0,iV x.2.2] 39),(M,.cells #[yV 1,iV x.1,iV x.2.1,uV 0,iV x.2.2] 39),(nb,.cells #[iV x.1,iV x.2.1,iV x.2.2] 240)]++(l9++lf)) po);have ac:=uh a3;clear V9 a3 ah)
       | fail)
      go_roundw
      case rel=>
       refine⟨i+1,a9,p9,l9,by omega,by go_num,rfl,?_,ab.out.drop⟩;rw[a5.out,Gy];exact ac.out
      case measure=>simp[intOf];omega
  · obtain rfl:i=F.length:=O
    have aN:¬((F.length:Nat):Int)<(F.length:Int):=O;rw[D_]at a1;have a6:=uh a1;have HV:=uh V;clear a1 V
    go_wp2_with fail
    refine f_ (E_ rfl _ _ _) rfl ?_;exact⟨a2,p2,rfl,lr,a6.out,HV.out.sub (x_ lr lf)⟩
theorem Uc {P:Program}(w:World)(t e ty:TypeId)(z:Value)(V:P.underlying t=some (.slice e))(Z:∀w,(zeroValue e).run P w=.ok z w)(h1:∀u∈z.cells,u.oneCell'=true)(b o n c:Nat)(hn:0<n)
  (E:w.there b o (n*z.cells.size)):
  ∃vs:List Value,vs.length=n*z.cells.size /\ (Builtin.clear_ #[t] ty #[.slice (some (aD b o)) n c]).run P w=.ok (.tuple #[]) (w.setCells b o vs):=by
 refine⟨(Builtin.zeroCells z.cells n).toList,?_,?_⟩
 ·simp[Builtin.zeroCells]
 · have hl:(Builtin.zeroCells z.cells n).toList.length=n*z.cells.size:=by simp[Builtin.zeroCells]
   have y:=run_storeCells_cells (P:=P) b o (Builtin.zeroCells z.cells n).toList 0 w (fun j N=>by rw[Zs];exact(E j O).1) (fun j N=>by rw[Zs];exact(E j O).2) (by
    intro v r;simp only[Builtin.zeroCells]at r;rw[Array.mem_toList_iff,Array.mem_map]at r;obtain⟨i,G,rfl⟩:=r;rw[Array.mem_range]at G
    have U:0<z.cells.size:=by
     apply Nat.pos_of_ne_zero
     intro M;rw[M]at G;omega
    have J:i%z.cells.size<z.cells.size:=Nat.mod_lt _ U;rw[getElem!_pos z.cells _ J];exact h1 _ (Array.getElem_mem J))
   simp only[Zs]at y;obtain⟨m,rfl⟩:∃m,n=m+1:=⟨n-1,by omega⟩;simp[Builtin.clear_,run_underlying V,Z,y]
structure DelIn (cs:List Ce)(cur:Array Value)(i j:Nat):Prop where
 low:∀k,k<i*5 -> cur[k]?= (ces (objs (cs.take j)))[k]?
 high:∀k,j*5 <= k -> k<cs.length*5 -> cur[k]?= (ces cs)[k]?
 cnt:i=(objs (cs.take j)).length
theorem Az {cs:List Ce}{j:Nat}{c:Ce}(y:cs[j]?= some c):objs (cs.take (j+1))=objs (cs.take j)++if Rv c=true then [c]else []:=by
 rw[K8 y,GM]
 congr 1
 unfold objs
 by_cases r:Rv c=true
 · rw[v_ r,Xh r]
   rfl
 · rw[y_ r,Xj r]
   rfl
def Sm (l:List Nat):List Value:=l.map fun n=>yV (n:Nat)
theorem KG (l:List Nat):(Sm l).length=l.length:=by simp[Sm]
theorem N5 {l:List Nat}{i v:Nat}(h:l[i]?= some v):(Sm l)[i]?= some (yV v):=by unfold Sm;rw[G_,h];rfl
theorem Dd:Elem prog 32 5 1 1 (yV 0):=Jm underlying32 kr rfl
def Tt (l:List Nat)(x:Nat):Nat:=l.findIdx fun y=>x == y
theorem EF {l:List Nat}{x i v:Nat}(r:i<Tt l x)(y:l[i]?= some v):(x == v)=false:=by
 obtain⟨E,rfl⟩:=m_.1 y;have:=List.not_of_lt_findIdx r
 simpa using this
theorem EH {l:List Nat}{x v:Nat}(E:l[Tt l x]?= some v):(x == v)=true:=by
 obtain⟨r,rfl⟩:=m_.1 E;exact List.findIdx_getElem (w:=r) (p:=fun y=>x == y) (xs:=l)
theorem EG (l:List Nat)(x:Nat):Tt l x <= l.length:=List.findIdx_le_length
theorem CQ (l:List Nat)(x:Nat):Tt l x<l.length↔x∈l:=by
 unfold Tt;rw[List.findIdx_lt_length]
 constructor
 · rintro⟨y,E,r⟩
   rw[Qx]at r;rw[r];exact E
 · intro h
   exact⟨x,h,by simp⟩
theorem PG (w:World)(l:List Nat)(ao:Option Addr)(cap:Nat)(V:Src w ao l.length cap 1 (Sm l))(hl:l.length <= 65536)(x:Nat):
  Calls prog 114 #[.slice ao l.length cap,yV x] w fun e w'=>e=.returned (iV (if Tt l x<l.length then(Tt l x:Int)else -1)) /\ w'=w:=by
 have HF:=uh (fun(h:0<l.length)=>V.form (by rw[KG];exact h));have U:=uh (fun i v (Z:i<Tt l x) (r:l[i]?= some v)=>EF Z r);have N:=uh (fun v (r:l[Tt l x]?= some v)=>EH r);have a3:=EG l x;generalize Tt l x=f at*;clear V
 go_enter func114,ntmps114
 go_wp2_with fail
 go_loopw [8] (fun M wr=>∃i:Nat,i <= f /\ M=iV i /\ wr=w) (fun M _=>l.length-(intOf M).toNat)
 case atStart=>exact⟨0,u_ _,by go_num,rfl⟩
 case round=>
  obtain⟨i,Z,rfl,rfl⟩:=hrel
  by_cases y:i<l.length
  · have a2:(i:Int)<(l.length:Int):=O
    obtain⟨v,r⟩:∃v,l[i]?= some v:=⟨l[i],a_ y⟩;obtain⟨b,off,rfl,G⟩:=HF.out O;have q:=G i _ (N5 r)
    by_cases a0:i<f
    · have J:=U.out i v a0 r
      have a1:((x:Int) == (v:Int))=false:=(by rw[j_]at J ⊢;omega);clear r G
      go_wp2_with fail
      go_roundw
      case rel=>exact⟨i+1,by omega,by go_num,trivial⟩
      case measure=>simp[intOf];omega
    · obtain rfl:i=f:=O
      have J:=N.out v r;have a1:((x:Int) == (v:Int))=true:=(by rw[Qx]at J ⊢;omega);have E:=uh (show(if i<l.length then(i:Int)else -1)=(i:Int)from v_ y);clear r G
      go_wp2_with fail
      go_ret;exact⟨by first|rfl|rw[E.out],rfl⟩
  · obtain rfl:i=l.length:=O
    obtain rfl:f=l.length:=O;have E:=uh (show(if l.length<l.length then(l.length:Int)else -1)= -1 from y_ O);have a4:¬((l.length:Nat):Int)<(l.length:Int):=O
    go_wp2_with fail
    go_ret;exact⟨by first|rfl|rw[E.out],rfl⟩
theorem B0 (w:World)(l:List Nat)(ao:Option Addr)(cap:Nat)(G:Src w ao l.length cap 1 (Sm l))(N:l.length <= 65536)(x:Nat):
  Calls prog 54 #[.slice ao l.length cap,yV x] w fun e w'=>e=.returned (.bool (decide (x∈l))) /\ w'=w:=by
 have r:=uh (PG w l ao cap G N x);have y:=CQ l x
 by_cases h:x∈l
 · rw[v_ (y.2 h)]at r
   have E:=uh (k_ h);clear y h G;generalize Tt l x=f at*
   go_enter func54,ntmps54
   go_wp2_with fail
   refine r.out.mono ?_;rintro e U ⟨rfl,J⟩;subst J;have V:(0:Int) <= (f:Int):=O
   go_wp2_with fail
   go_ret;exact⟨by rw[E.out];rfl,rfl⟩
 · rw[y_ (fun M=>h (y.1 M))]at r
   have E:=uh (b_ h);clear y h G
   go_enter func54,ntmps54
   go_wp2_with fail
   refine r.out.mono ?_;rintro e U ⟨rfl,J⟩;subst J
   go_wp2_with fail
   go_ret;exact⟨by rw[E.out];rfl,rfl⟩
theorem Tf:∀{cs:List Ce},noTouch cs -> ∀{i:Nat} {c d:Ce},cs[i]?= some c -> cs[i+1]?= some d -> c.2.tag=1∨d.2.tag=1
 | [],_,_,_,_,h,_=>by cases h
 | [_],_,i,_,_,_,h=>by simp at h
 | a::b::cs,h,0,c,d,h1,h2=>by
  have r:a=c:=by simpa using h1
  have y:b=d:=by simpa using h2
  rw[←r,←y];exact h.1
 | a::b::cs,h,i+1,c,d,h1,h2=>Tf h.2 (i:=i) (by simpa using h1) (by simpa using h2)
def JE (cs:List Ce)(i:Nat):Nat:=match i with|0=>0|i+1=>match cs[i]? with|some c=>c.2.tag|none=>0
theorem SR {cs:List Ce}{i:Nat}{c:Ce}(h:cs[i]?= some c):JE cs (i+1)=c.2.tag:=by simp[JE,h]
theorem Va {cs:List Ce}(h:noTouch cs){i:Nat}{c:Ce}(y:cs[i]?= some c):¬(c.2.tag=3 /\ JE cs i=3):=by
 rintro⟨h1,h2⟩
 cases i with
 | zero=>simp[JE]at h2
 | succ i=>
  unfold JE at h2;simp only at h2
  split at h2
  · rename_i d hd
    rcases Tf h hd y with r|r<;>omega
  ·omega
def NQ (c:Ce)(tg:Nat):List Br:=if c.2.tag=3 /\ tg=3 then [(7,c.1,0,0,0)]else []
def GV (cs:List Ce):Nat -> List Br
 | 0=>[]
 | i+1=>GV cs i++match cs[i]? with|some c=>NQ c (JE cs i)|none=>[]
theorem TB {cs:List Ce}{i:Nat}{c:Ce}(h:cs[i]?= some c):GV cs (i+1)=GV cs i++NQ c (JE cs i):=by
 rw[GV,h]
theorem M0 (cs:List Ce):∀i,(GV cs i).length <= i
 | 0=>g_ _
 | i+1=>by
  have:=M0 cs i;rw[GV,e_]
  cases cs[i]? with
  | none=>simp;omega
  | some c=>
   simp only[NQ]
   split
   ·simp;omega
   ·simp;omega
theorem Q6 (w:World)(sb a aw tb:Nat){W:List Nat}(af:Option Addr)(a6:Nat)(L:List Ty)(hA:SpAt w sb a aw tb W af a6 L)(hf:W.length <= 65536)(hu:∀v∈W,v<18446744073709551616)(ab:∀t∈L,TyIn t)(hL:L.length <= 1000)
  (cs:List Ce)(hC:Chain L W 0 cs (W.length/2)):
  Calls prog 55 #[pt sb] w fun e w'=>∃ao cap l,e=.returned (.slice ao (GV cs cs.length).length cap) /\ Gh 39 5 ao (GV cs cs.length).length cap (Nm (GV cs cs.length)) l /\ Turn [] w l w':=by
 have HC:=uh (XV w sb a aw tb af a6 L hA hf hu ab hL cs hC);have ah:=hC.len;have hl:cs.length <= 32768:=O;have ak:=uh (fun i c (h:cs[i]?= some c)=>SR h);have G:=LQ;clear hA hC hu ab ah
 go_enter func55,ntmps55
 go_wp2_with fail
 refine HC.out.mono ?_;rintro e w2 ⟨a8,p8,l8,rfl,a5,T2⟩;have a7:=uh T2;have ag:=uh a5;clear a5 T2 HC
 go_wp2_with fail
 go_loopw [2,3,9] (fun v2 v3 v9 wr=>∃(i:Nat) (a2:Option Addr) (p2:Nat) (U l:List Blk),i <= cs.length /\ v9=iV i /\ v2=.slice a2 (GV cs i).length p2 /\ Gh 39 5 a2 (GV cs i).length p2 (Nm (GV cs i)) U /\ v3=yV (JE cs i:Nat) /\ Turn [] w (U++(l++l8)) wr) (fun _ _ v9 _=>cs.length-(intOf v9).toNat)
 case atStart=>exact⟨0,none,0,[],[],u_ _,by go_num,rfl,Zb _ _,rfl,a7.out⟩
 case round=>
  clear a7;obtain⟨i,a2,p2,U,l,hi,rfl,rfl,a4,rfl,V⟩:=hrel;have Z:=uh a4;have ay:=M0 cs i
  by_cases aq:i<cs.length
  · have ax:(i:Int)<(cs.length:Int):=O
    obtain⟨c,hc⟩:∃c,cs[i]?= some c:=⟨cs[i],a_ aq⟩;have a1:=ag.out.src (V.has.perm (l':=l8++(U++l)) po);obtain⟨b,off,rfl,-⟩:=a1.form (by rw[GW];omega);have E:wr.rangeAt b (off+i*5) [iV c.1,yV c.2.tag,iV c.2.typ,iV c.2.len,iV c.2.size]:=a1.ce hc;have M:Hid (GV cs (i+1)=GV cs i++NQ c (JE cs i)):=uh (TB hc);have an:(GV cs i).length+1 <= maxLen:=(by unfold maxLen;omega);have ap:((GV cs i).length+1)*40 <= 140737488355328:=O;have a0:=uh (ak.out i c hc);have T3:=V.alloc (.cells #[iV 0,yV 0,iV 0,iV 0,iV 0] 127);have J:(wr.alloc (.cells #[iV 0,yV 0,iV 0,iV 0,iV 0] 127)).there wr.heap.size 0 5:=T3.there1;have y:=uh (T3.laid [iV c.1,yV c.2.tag,iV c.2.typ,iV c.2.len,iV c.2.size] rfl);have a3:=Rb c;clear T3 V hc a1 a4;generalize GV cs i=Gp at*;generalize JE cs i=tg at*
    by_cases h3:c.2.tag=3
    · have am:(((c.2.tag:Nat):Int) == 3)=true:=by simp[h3]
      by_cases hg:tg=3
      · have av:(((tg:Nat):Int) == 3)=true:=by simp[hg]
        have r:NQ c tg=[(7,c.1,0,0,0)]:=v_ ⟨h3,hg⟩;rw[r]at M;clear r h3 hg
        go_wp2_with (first
         | (show lW 127;refine J_ rfl 127 _ rfl b (off+i*5) rfl [iV c.1,yV c.2.tag,iV c.2.typ,iV c.2.len,iV c.2.size] _ E underlying127 rfl G ?_;clear E)
         | (show sW 127;refine h_ rfl 127 _ _ rfl wr.heap.size 0 #[iV c.1,yV c.2.tag,iV c.2.typ,iV c.2.len,iV c.2.size] rfl rfl J G a3 ?_;clear J;generalize(wr.alloc (.cells #[iV 0,yV 0,iV 0,iV 0,iV 0] 127)).setCells wr.heap.size 0 [iV c.1,yV c.2.tag,iV c.2.typ,iV c.2.len,iV c.2.size]=w3 at*;generalize wr.heap.size=N at*;have q1:=y.out.cell1 1;have q0:=y.out.cell1 0)
         | (at_builtin;have T6:=uh (y.out.alloc (.cells #[yV 7,iV c.1,iV 0,uV 0,iV 0] 39));refine K_ rfl _ _ rfl GB rfl Z.out (R:=(w3.heap.size,.cells #[yV 7,iV c.1,iV 0,uV 0,iV 0] 39)::(N,.cells #[iV c.1,yV c.2.tag,iV c.2.typ,iV c.2.len,iV c.2.size] 127)::(l++l8)) (T6.out.perm po).has rfl (news:=[yV 7,iV c.1,iV 0,uV 0,iV 0]) rfl (Qy (A_ _ _)) (by simp[Value.oneCell']) an ap ?_;intro a9 p9 l9 w8 ae V9 au;have aa:=uh (((T6.out.perm po).trans V9).perm (l2:=(w3.heap.size,.cells #[yV 7,iV c.1,iV 0,uV 0,iV 0] 39)::(l9++(((N,.cells #[iV c.1,yV c.2.tag,iV c.2.typ,iV c.2.len,iV c.2.size] 127)::l)++l8))) po);have aj:=uh ae;have q1:w8.cell? (aD N 1)=some (yV c.2.tag):=aa.out.has.cell (b:=N) (c:=#[iV c.1,yV c.2.tag,iV c.2.typ,iV c.2.len,iV c.2.size]) (e:=127) (f:=(0,0)) (by simp) 1;clear V9 ae au)
         | fail)
        go_roundw
        case rel=>
         have ac:(GV cs (i+1)).length=Gp.length+1:=(by rw[M.out];simp);exact⟨i+1,a9,p9,l9,_::l,by omega,by go_num,by rw[ac],by rw[ac,M.out,Gy];exact aj.out,by rw[a0.out],aa.out.tail⟩
        case measure=>simp[intOf];omega
      · have av:(((tg:Nat):Int) == 3)=false:=by simp;omega
        have r:NQ c tg=[]:=y_ (fun h=>hg h.2);rw[r,p_]at M;clear r h3 hg
        go_wp2_with (first
         | (show lW 127;refine J_ rfl 127 _ rfl b (off+i*5) rfl [iV c.1,yV c.2.tag,iV c.2.typ,iV c.2.len,iV c.2.size] _ E underlying127 rfl G ?_;clear E)
         | (show sW 127;refine h_ rfl 127 _ _ rfl wr.heap.size 0 #[iV c.1,yV c.2.tag,iV c.2.typ,iV c.2.len,iV c.2.size] rfl rfl J G a3 ?_;clear J;generalize(wr.alloc (.cells #[iV 0,yV 0,iV 0,iV 0,iV 0] 127)).setCells wr.heap.size 0 [iV c.1,yV c.2.tag,iV c.2.typ,iV c.2.len,iV c.2.size]=w3 at*;generalize wr.heap.size=N at*;have q1:=y.out.cell1 1)
         | fail)
        go_roundw
        case rel=>exact⟨i+1,a2,p2,U,(N,.cells #[iV c.1,yV c.2.tag,iV c.2.typ,iV c.2.len,iV c.2.size] 127)::l,by omega,by go_num,by rw[M.out],by rw[M.out];exact Z.out,by rw[a0.out],y.out.perm po⟩
        case measure=>simp[intOf];omega
    · have am:(((c.2.tag:Nat):Int) == 3)=false:=by simp;omega
      have r:NQ c tg=[]:=y_ (fun h=>h3 h.1);rw[r,p_]at M;clear r h3
      go_wp2_with (first
       | (show lW 127;refine J_ rfl 127 _ rfl b (off+i*5) rfl [iV c.1,yV c.2.tag,iV c.2.typ,iV c.2.len,iV c.2.size] _ E underlying127 rfl G ?_;clear E)
       | (show sW 127;refine h_ rfl 127 _ _ rfl wr.heap.size 0 #[iV c.1,yV c.2.tag,iV c.2.typ,iV c.2.len,iV c.2.size] rfl rfl J G a3 ?_;clear J;generalize(wr.alloc (.cells #[iV 0,yV 0,iV 0,iV 0,iV 0] 127)).setCells wr.heap.size 0 [iV c.1,yV c.2.tag,iV c.2.typ,iV c.2.len,iV c.2.size]=w3 at*;generalize wr.heap.size=N at*;have q1:=y.out.cell1 1)
       | fail)
      go_roundw
      case rel=>exact⟨i+1,a2,p2,U,(N,.cells #[iV c.1,yV c.2.tag,iV c.2.typ,iV c.2.len,iV c.2.size] 127)::l,by omega,by go_num,by rw[M.out],by rw[M.out];exact Z.out,by rw[a0.out],y.out.perm po⟩
      case measure=>simp[intOf];omega
  · obtain rfl:i=cs.length:=O
    have az:¬((cs.length:Nat):Int)<(cs.length:Int):=O;have HV:=uh V;clear V a4
    go_wp2_with fail
    go_ret;exact⟨a2,p2,rfl,U,Z.out,HV.out.sub (x_ ..)⟩
end
section
open Go Go.RowKit Go.Sort
def Q8 (q:IntKind)(c:Array Value)(off:Nat)(d:Array Int):Prop:=∀j,j<d.size -> c[off+j]?= some (.int q d[j]!)
theorem Q8.set {q:IntKind}{c:Array Value}{off:Nat}{d:Array Int}(h:Q8 q c off d)(i:Nat)(x:Int)(y:i<d.size):Q8 q (c.setIfInBounds (off+i) (.int q x)) off (d.setIfInBounds i x):=by
 intro j G;have E:j<d.size:=by simpa using G
 have J:off+i<c.size:=(Array.getElem?_eq_some_iff.1 (h i y)).1
 by_cases r:i=j
 · subst r
   rw[Array.getElem?_setIfInBounds_self_of_lt J,getElem!_set_same d i x y]
 · rw[Jg O,getElem!_set_other d i j x (Ne.symm r)]
   exact h j E
def Ts (q:IntKind)(t:TypeId)(g off:Nat)(c0:Array Value)(w0:World)(d:Array Int)(X:List Blk)(w:World):Prop:=
 ∃c,c.size=c0.size /\ Q8 q c off d /\ Turn [(g,.cells c0 t (0,0))] w0 ((g,.cells c t (0,0))::X) w
section
variable {q:IntKind} {t:TypeId} {g off:Nat} {c0:Array Value} {w0 w:World} {d:Array Int} {X:List Blk}
theorem Ts.refl (r:Has w [(g,.cells c0 t (0,0))])(y:Q8 q c0 off d):Ts q t g off c0 w d [] w:=⟨c0,rfl,y,r_ r⟩
theorem Ts.drewN (h:Ts q t g off c0 w0 d X w)(n:Nat):Ts q t g off c0 w0 d X (w.drewN n):=by
 obtain⟨c,h1,h2,r⟩:=h;exact⟨c,h1,h2,r.drewN n⟩
theorem Ts.cell (h:Ts q t g off c0 w0 d X w):∀j,j<d.size -> w.cell? (aD g (off+j))=some (.int q d[j]!):=by
 obtain⟨c,h1,h2,r⟩:=h;exact fun j y=>(r.cell1 (off+j)).trans (h2 j y)
theorem Ts.free (h:Ts q t g off c0 w0 d X w)(j:Nat):w.frozen? (aD g (off+j))=false:=by
 obtain⟨c,h1,h2,r⟩:=h;exact r.free1 (off+j)
theorem Ts.set (h:Ts q t g off c0 w0 d X w)(i:Nat)(x:Int)(y:i<d.size):Ts q t g off c0 w0 (d.setIfInBounds i x) X (w.setCell (aD g (off+i)) (.int q x)):=by
 obtain⟨c,h1,h2,r⟩:=h;exact⟨_,by simpa using h1,h2.set i x y,r.setCell (off+i) _⟩
theorem Ts.swp (h:Ts q t g off c0 w0 d X w)(i j:Nat)(r:i<d.size)(E:j<d.size){x y:Int}(G:x=d[j]!)(J:y=d[i]!):
  Ts q t g off c0 w0 (Sort.swp d i j) X ((w.setCell (aD g (off+i)) (.int q x)).setCell (aD g (off+j)) (.int q y)):=by
 subst G;subst J;exact(h.set i _ r).set j _ (by simpa using E)
theorem Ts.alloc (h:Ts q t g off c0 w0 d X w)(o:Obj):Ts q t g off c0 w0 d ((w.heap.size,o)::X) (w.alloc o):=by
 obtain⟨c,h1,h2,r⟩:=h;exact⟨c,h1,h2,(r.alloc o).swap⟩
theorem Ts.less {Y:List Blk}(h:Ts q t g off c0 w0 d X w)(y:Y.Sublist X):Ts q t g off c0 w0 d Y w:=by
 obtain⟨c,h1,h2,r⟩:=h;exact⟨c,h1,h2,r.sub (y.cons_cons _)⟩
theorem Ts.xcell (h:Ts q t g off c0 w0 d X w){b:Nat}{c:Array Value}{e:TypeId}{f:Nat×Nat}(y:(b,Obj.cells c e f)∈X)(i:Nat):w.cell? (aD b i)=c[i]? :=by
 obtain⟨_,h1,h2,r⟩:=h;exact r.has.cell (V_ _ y) i
theorem Ts.xfree (h:Ts q t g off c0 w0 d X w){b:Nat}{c:Array Value}{e:TypeId}(y:(b,Obj.cells c e (0,0))∈X)(i:Nat):w.frozen? (aD b i)=false:=by
 obtain⟨_,h1,h2,r⟩:=h;exact r.has.free (V_ _ y) i
theorem Ts.xset {b:Nat}{c:Array Value}{e:TypeId}{f:Nat×Nat}{Y:List Blk}(h:Ts q t g off c0 w0 d ((b,.cells c e f)::Y) w)(i:Nat)(v:Value):Ts q t g off c0 w0 d ((b,.cells (c.setIfInBounds i v) e f)::Y) (w.setCell (aD b i) v):=by
 obtain⟨r,h1,h2,y⟩:=h;exact⟨r,h1,h2,(y.swap.setCell i v).swap⟩
end
theorem QV:SWO ltInt:=swo_ltInt
def RC (a b:Nat)(d:Array Int)(a' b':Nat)(dk:Array Int):Prop:=∀R,PermIn a' b' dk R -> SortedIn ltInt a' b' R -> PermIn a b d R /\ SortedIn ltInt a b R
theorem RC.refl {a b:Nat}{d:Array Int}:RC a b d a b d:=fun _ h k=>⟨h,k⟩
theorem RC.perm {a b r y:Nat}{d G E:Array Int}(h:RC a b d r y G)(p:PermIn r y G E):RC a b d r y E:=fun R J M=>h R (permIn_trans _ _ _ _ _ p J) M
theorem RC.step {a b r E y G:Nat}{d J M:Array Int}(h:RC a b d r E J)(k:∀R,PermIn y G M R -> SortedIn ltInt y G R -> PermIn r E J R /\ SortedIn ltInt r E R):RC a b d y G M:=fun R N U=>h R (k R N U).1 (k R N U).2
theorem RC.ins {a b y r:Nat}{d E:Array Int}(h:RC a b d y r E)(h1:y <= r)(h2:r <= E.size):PermIn a b d (insertionSort ltInt E y r) /\ SortedIn ltInt a b (insertionSort ltInt E y r):=
 have k:=insertionSort_holds QV E y r h1 h2
 h _ k.1 k.2
theorem RC.heap {a b y r:Nat}{d E:Array Int}(h:RC a b d y r E)(h1:y <= r)(h2:r <= E.size):PermIn a b d (heapSort ltInt E y r) /\ SortedIn ltInt a b (heapSort ltInt E y r):=
 have k:=heapSort_holds QV E y r h1 h2
 h _ k.1 k.2
theorem De {x y p q:Nat}(h1:q <= p)(h2:y <= x):decide (((x:Int)-(y:Int))/8 <= (p:Int)-(q:Int))=decide (p-q ≥ (x-y)/8):=
 decide_eq_decide.2 ⟨fun h=>by omega,fun h=>by omega⟩
end
section
open Go Go.RowKit Go.Sort Go.Shelf
theorem gW (n:Nat)(r:n<4611686018427387904)(w:World):Calls prog 142 #[uV n] w fun e w'=>e=.returned (iV (bitsLen n:Nat)) /\ w'=w:=
 calls_of_every_depth fun D=>lenWalkInAllM { Tryz.sortA with } D n w r
theorem QG (rb X:Nat)(r:X<18446744073709551616)(w:World)(y:w.cell? (aD rb 0)=some (uV X))(E:w.frozen? (aD rb 0)=false):
  Calls prog 228 #[pt rb] w fun e w'=>e=.returned (uV (xorNextN X:Nat)) /\ w'=(w.setCell (aD rb 0) (uV (xorNextN X:Nat))).drewN 3:=
 calls_of_every_depth fun D=>AnySM.xorshift_NextIn { Tryz.sortA with } D rb 0 X r w y E
theorem gp (n:Nat)(r:n<4611686018427387904)(w:World):Calls prog 227 #[iV n] w fun e w'=>e=.returned (uV ((1 <<< bitsLen n:Nat):Int)) /\ w'=w:=
 calls_of_every_depth fun D=>AnySM.nextPowerOfTwoIn { Tryz.sortA with } D n r w
end
section
open Go Go.RowKit Go.Sort
theorem Fn {P:Prop}(h:P:=by
 first|go_enter func231,ntmps231|go_enter func276,ntmps276
 go_wp2
 go_ret;exact⟨by simp,rfl⟩):P:=h
theorem Cb {P:Prop}(h:P:=by
 first|go_enter func190,ntmps190|go_enter func265,ntmps265
 go_wp2_with ((first|go_at_call 231|go_at_call 276);refine(gy _ _).mono ?_;rintro e w' ⟨rfl,rfl⟩)
 go_ret;exact⟨rfl,rfl⟩):P:=h
theorem Fq {P:Prop}(h:P:=by
 have HT:=uh hT;clear hT
 first|go_enter func184,ntmps184|go_enter func259,ntmps259
 go_wp2
 go_loopw [6] (fun vi wr=>∃(i:Nat) (dk:Array Int),vi=.int .i64 i /\ a<i /\ i <= b+1 /\ dk.size=d.size /\ Ts kK tK g off c0 w0 dk X wr /\ insOuter ltInt a b i dk=insOuter ltInt a b (a+1) d) (fun vi _=>b+1-(intOf vi).toNat)
 case atStart=>exact⟨a+1,d,by go_num,by omega,by omega,rfl,HT.out,rfl⟩
 case round=>
  clear HT;obtain⟨i,dk,rfl,hai,hib,hsk,hT,hO⟩:=hrel;have HT:=uh hT;have HO:=uh hO;clear hO hT
  go_wp2
  · have hlt:i<b:=by assumption
    go_loopw [7] (fun vj wr2=>∃(j:Nat) (dj:Array Int),vj=.int .i64 j /\ a <= j /\ j <= i /\ dj.size=d.size /\ Ts kK tK g off c0 w0 dj X wr2 /\ insInner ltInt a j dj=insInner ltInt a i dk) (fun vj _=>(intOf vj).toNat)
    case atStart=>exact⟨i,dk,rfl,by omega,g_ _,hsk,HT.out,rfl⟩
    case round=>
     obtain⟨j,dj,rfl,haj,hji,hsj,hTj,hI⟩:=hrel;obtain⟨G,hG⟩:∃G:Nat -> Int,∀t,G t=dj[t]! :=⟨fun t=>dj[t]!,fun _=>rfl⟩;have hcw:∀t,t<d.size -> wr.cell? ⟨g,off+t,none⟩=some (.int kK (G t)):=fun t ht=>by rw[hG];exact hTj.cell t O
     have hfw:∀t,t<d.size -> wr.frozen? ⟨g,off+t,none⟩=false:=fun t _=>hTj.free t;have HTj:=uh hTj;have HG:=uh hG;have OUT:=uh (fun(hs:j <= a∨ltInt dj[j]! dj[j-1]! =false)=>(by rw[←HO.out,insOuter_go _ _ _ _ _ hlt,←hI,insInner_stop _ _ _ _ hs]:insOuter ltInt a b (i+1) dj=insOuter ltInt a b (a+1) d));have GO:=uh (fun(h1:a<j) (h2:ltInt dj[j]! dj[j-1]! =true)=>(by rw[←hI,insInner_go ltInt a j dj h1 h2]:insInner ltInt a (j-1) (Sort.swp dj j (j-1))=insInner ltInt a i dk));clear hTj hG hI HT
     go_wp2
     by_cases hja:a<j
     · go_quiet (first|((first|go_at_call 190|go_at_call 265);refine Calls.quiet_of_same (lessK _ _ _)))
       go_wp2
       · have hl:ltInt (G j) (G (j-1))=true:=by assumption
         go_region
         all_goals go_wp2
         go_roundw
         case rel=>exact⟨j-1,Sort.swp dj j (j-1),by congr 1;omega,by omega,by omega,by rw[size_swp];exact hsj,((HTj.out.drewN (nq+1)).swp j (j-1) O O (HG.out _) (HG.out _)),GO.out hja (by rw[←HG.out,←HG.out];exact hl)⟩
         case measure=>simp[intOf];omega
       · have hl:ltInt (G j) (G (j-1))=false:=by assumption
         go_roundw
         case rel=>exact⟨i+1,dj,by go_num,by omega,by omega,hsj,HTj.out.drewN _,OUT.out (Or.inr (by rw[←HG.out,←HG.out];exact hl))⟩
         case measure=>simp[intOf];omega
     · go_quiet (first|((first|go_at_call 190|go_at_call 265);refine Calls.quiet_of_same (lessK _ _ _)))
       go_wp2
       go_roundw
       case rel=>exact⟨i+1,dj,by go_num,by omega,by omega,hsj,HTj.out.drewN _,OUT.out (Or.inl O)⟩
       case measure=>simp[intOf];omega
  · have hge:¬i<b:=by assumption
    go_end0;exact⟨rfl,by unfold insertionSort;rw[←HO.out,insOuter_stop _ _ _ _ _ hge];exact HT.out⟩):P:=h
theorem C7 {P:Prop}(h:P:=by
 subst hlen;have HT:=uh hT;clear hT
 first|go_enter func226,ntmps226|go_enter func273,ntmps273
 go_wp2
 go_loopg [8] (hi-lo) (fun k s8 wr=>∃(root:Nat) (dk:Array Int),s8=.int .i64 root /\ root <= hi /\ hi-root <= k /\ dk.size=d.size /\ Ts kK tK g off c0 w0 dk X wr /\ siftDown ltInt hi first root dk=siftDown ltInt hi first lo d)
 case atStart=>exact⟨lo,d,rfl,hlo,g_ _,rfl,HT.out,rfl⟩
 case round=>
  clear HT;obtain⟨root,dk,rfl,hr,hk,hds,hT,heq⟩:=hrel;obtain⟨G,hG⟩:∃G:Nat -> Int,∀t,G t=dk[t]! :=⟨fun t=>dk[t]!,fun _=>rfl⟩;have hcw:∀t,t<d.size -> wr.cell? ⟨g,off+t,none⟩=some (.int kK (G t)):=fun t ht=>by rw[hG];exact hT.cell t O
  have hfw:∀t,t<d.size -> wr.frozen? ⟨g,off+t,none⟩=false:=fun t _=>hT.free t;have HT:=uh hT;have HG:=uh hG;have HE:=uh heq;clear hT hG heq
  by_cases h0:hi <= 2*root+1
  · have h0z:(hi:Int) <= 2*(root:Int)+1:=O
    go_wp2
    go_end0;exact⟨rfl,by rw[←HE.out,sd_end ltInt dk h0];exact HT.out⟩
  · have h0z:¬((hi:Int) <= 2*(root:Int)+1):=O
    by_cases h1:2*root+2<hi
    · have h1z:2*(root:Int)+1+1<(hi:Int):=O
      go_wp2_with fail
      go_big_quiet (first|((first|go_at_call 190|go_at_call 265);refine Calls.quiet_of_same (lessK _ _ _)))
      go_wp2_with fail
      · have hL:ltInt (G (first+2*root+1)) (G (first+2*root+2))=true:=by assumption
        have hL2:ltInt dk[first+(2*root+1)]! dk[first+(2*root+2)]! =true:=by rw[←HG.out,←HG.out];exact hL
        revert nq;intro nq1
        have hcw2:∀t,t<d.size -> (wr.drewN nq1).cell? ⟨g,off+t,none⟩=some (.int kK (G t)):=hcw;have hfw2:∀t,t<d.size -> (wr.drewN nq1).frozen? ⟨g,off+t,none⟩=false:=hfw;have HT2:=uh (HT.out.drewN nq1);clear hcw hfw HT;generalize wr.drewN nq1=wr2 at hcw2 hfw2 HT2 ⊢
        go_big_quiet (first|((first|go_at_call 190|go_at_call 265);refine Calls.quiet_of_same (lessK _ _ _)))
        go_wp2_with fail
        · have hS:ltInt (G (first+root)) (G (first+2*root+2))=false:=by
            have:(!ltInt (G (first+root)) (G (first+2*root+2)))=true:=by assumption
            simpa using this
          (try simp only[Exit.inBlock,Exit.then]);refine f_ (Zg rfl _ _ _) rfl ?_
          refine⟨rfl,?_⟩
          have e:siftDown ltInt hi first root dk=dk:=by
           refine sd_right_stop ltInt dk h1 hL2 (by rw[←HG.out,←HG.out];exact hS)
          rw[←HE.out,e];exact HT2.out.drewN _
        · have hS:ltInt (G (first+root)) (G (first+2*root+2))=true:=by
            have:(!ltInt (G (first+root)) (G (first+2*root+2)))=false:=by assumption
            simpa using this
          have e:siftDown ltInt hi first root dk=siftDown ltInt hi first (2*root+2) (Sort.swp dk (first+root) (first+(2*root+2))):=by
           refine sd_right_go ltInt dk h1 hL2 (by rw[←HG.out,←HG.out];exact hS)
          have hcw3:∀t,t<d.size -> (wr2.drewN nq).cell? ⟨g,off+t,none⟩=some (.int kK (G t)):=hcw2;have hfw3:∀t,t<d.size -> (wr2.drewN nq).frozen? ⟨g,off+t,none⟩=false:=hfw2;have HT3:=uh (HT2.out.drewN nq);have HE2:=uh (e.symm.trans HE.out);clear hcw2 hfw2 HT2 e HE;generalize wr2.drewN nq=wr3 at hcw3 hfw3 HT3 ⊢
          go_region
          go_wp2
          go_roundg (hi-(2*root+2))
          case measure=>omega
          case rel=>exact⟨2*root+2,Sort.swp dk (first+root) (first+(2*root+2)),by simp<;>omega,by omega,g_ _,by rw[size_swp];exact hds,((HT3.out.drewN _).swp (first+root) (first+(2*root+2)) O O (HG.out _) (HG.out _)),HE2.out⟩
      · have hL:ltInt (G (first+2*root+1)) (G (first+2*root+2))=false:=by assumption
        have hL2:2*root+2<hi -> ltInt dk[first+(2*root+1)]! dk[first+(2*root+2)]! =false:=fun _=>by rw[←HG.out,←HG.out];exact hL
        revert nq;intro nq1
        have hcw2:∀t,t<d.size -> (wr.drewN nq1).cell? ⟨g,off+t,none⟩=some (.int kK (G t)):=hcw;have hfw2:∀t,t<d.size -> (wr.drewN nq1).frozen? ⟨g,off+t,none⟩=false:=hfw;have HT2:=uh (HT.out.drewN nq1);clear hcw hfw HT;generalize wr.drewN nq1=wr2 at hcw2 hfw2 HT2 ⊢
        go_big_quiet (first|((first|go_at_call 190|go_at_call 265);refine Calls.quiet_of_same (lessK _ _ _)))
        go_wp2_with fail
        · have hS:ltInt (G (first+root)) (G (first+2*root+1))=false:=by
            have:(!ltInt (G (first+root)) (G (first+2*root+1)))=true:=by assumption
            simpa using this
          (try simp only[Exit.inBlock,Exit.then]);refine f_ (Zg rfl _ _ _) rfl ?_
          refine⟨rfl,?_⟩
          have e:siftDown ltInt hi first root dk=dk:=by
           refine sd_left_stop ltInt dk O hL2 (by rw[←HG.out,←HG.out];exact hS)
          rw[←HE.out,e];exact HT2.out.drewN _
        · have hS:ltInt (G (first+root)) (G (first+2*root+1))=true:=by
            have:(!ltInt (G (first+root)) (G (first+2*root+1)))=false:=by assumption
            simpa using this
          have e:siftDown ltInt hi first root dk=siftDown ltInt hi first (2*root+1) (Sort.swp dk (first+root) (first+(2*root+1))):=by
           refine sd_left_go ltInt dk O hL2 (by rw[←HG.out,←HG.out];exact hS)
          have hcw3:∀t,t<d.size -> (wr2.drewN nq).cell? ⟨g,off+t,none⟩=some (.int kK (G t)):=hcw2;have hfw3:∀t,t<d.size -> (wr2.drewN nq).frozen? ⟨g,off+t,none⟩=false:=hfw2;have HT3:=uh (HT2.out.drewN nq);have HE2:=uh (e.symm.trans HE.out);clear hcw2 hfw2 HT2 e HE;generalize wr2.drewN nq=wr3 at hcw3 hfw3 HT3 ⊢
          go_region
          go_wp2
          go_roundg (hi-(2*root+1))
          case measure=>omega
          case rel=>exact⟨2*root+1,Sort.swp dk (first+root) (first+(2*root+1)),by simp<;>omega,by omega,g_ _,by rw[size_swp];exact hds,((HT3.out.drewN _).swp (first+root) (first+(2*root+1)) O O (HG.out _) (HG.out _)),HE2.out⟩
    · have h1z:decide (2*(root:Int)+1+1<(hi:Int))=false:=b_ O
      have hL2:2*root+2<hi -> ltInt dk[first+(2*root+1)]! dk[first+(2*root+2)]! =false:=fun h=>absurd h h1
      go_wp2_with fail
      go_big_quiet (first|((first|go_at_call 190|go_at_call 265);refine Calls.quiet_of_same (lessK _ _ _)))
      go_wp2_with fail
      revert nq;intro nq1
      have hcw2:∀t,t<d.size -> (wr.drewN nq1).cell? ⟨g,off+t,none⟩=some (.int kK (G t)):=hcw;have hfw2:∀t,t<d.size -> (wr.drewN nq1).frozen? ⟨g,off+t,none⟩=false:=hfw;have HT2:=uh (HT.out.drewN nq1);clear hcw hfw HT;generalize wr.drewN nq1=wr2 at hcw2 hfw2 HT2 ⊢
      go_big_quiet (first|((first|go_at_call 190|go_at_call 265);refine Calls.quiet_of_same (lessK _ _ _)))
      go_wp2_with fail
      · have hS:ltInt (G (first+root)) (G (first+2*root+1))=false:=by
          have:(!ltInt (G (first+root)) (G (first+2*root+1)))=true:=by assumption
          simpa using this
        (try simp only[Exit.inBlock,Exit.then]);refine f_ (Zg rfl _ _ _) rfl ?_
        refine⟨rfl,?_⟩
        have e:siftDown ltInt hi first root dk=dk:=by
         refine sd_left_stop ltInt dk O hL2 (by rw[←HG.out,←HG.out];exact hS)
        rw[←HE.out,e];exact HT2.out.drewN _
      · have hS:ltInt (G (first+root)) (G (first+2*root+1))=true:=by
          have:(!ltInt (G (first+root)) (G (first+2*root+1)))=false:=by assumption
          simpa using this
        have e:siftDown ltInt hi first root dk=siftDown ltInt hi first (2*root+1) (Sort.swp dk (first+root) (first+(2*root+1))):=by
         refine sd_left_go ltInt dk O hL2 (by rw[←HG.out,←HG.out];exact hS)
        have hcw3:∀t,t<d.size -> (wr2.drewN nq).cell? ⟨g,off+t,none⟩=some (.int kK (G t)):=hcw2;have hfw3:∀t,t<d.size -> (wr2.drewN nq).frozen? ⟨g,off+t,none⟩=false:=hfw2;have HT3:=uh (HT2.out.drewN nq);have HE2:=uh (e.symm.trans HE.out);clear hcw2 hfw2 HT2 e HE;generalize wr2.drewN nq=wr3 at hcw3 hfw3 HT3 ⊢
        go_region
        go_wp2
        go_roundg (hi-(2*root+1))
        case measure=>omega
        case rel=>exact⟨2*root+1,Sort.swp dk (first+root) (first+(2*root+1)),by simp<;>omega,by omega,g_ _,by rw[size_swp];exact hds,((HT3.out.drewN _).swp (first+root) (first+(2*root+1)) O O (HG.out _) (HG.out _)),HE2.out⟩):P:=h
theorem Cc {P:Prop}(h:P:=by
 have ecast:((b-a:Nat):Int)=(b:Int)-(a:Int):=O;have HT:=uh hT;clear hT
 first|go_enter func185,ntmps185|go_enter func260,ntmps260
 go_wp2
 go_loopg [9] ((b-a-1)/2+1) (fun k s9 wr=>s9=.int .i64 ((k:Int)-1) /\ k <= (b-a-1)/2+1 /\ ∃(dk:Array Int),dk.size=d.size /\ Ts kK tK g off c0 w0 dk X wr /\ heapBuild ltInt (b-a) a k dk=heapBuild ltInt (b-a) a ((b-a-1)/2+1) d)
 case atStart=>exact⟨by rw[half_start hab],g_ _,d,rfl,HT.out,rfl⟩
 case round=>
  clear HT;obtain⟨rfl,hkk,dk,hds,hT,heq⟩:=hrel;have HT:=uh hT;have HE:=uh heq;clear hT heq
  cases gk with
  | zero=>
   clear hkk
   go_wp2
   go_loopg [10] (b-a) (fun k s10 wr2=>s10=.int .i64 ((k:Int)-1) /\ k <= b-a /\ ∃(dj:Array Int),dj.size=d.size /\ Ts kK tK g off c0 w0 dj X wr2 /\ heapPop ltInt a k dj=heapPop ltInt a (b-a) dk)
   case atStart=>exact⟨by rw[ecast],g_ _,dk,hds,HT.out,rfl⟩
   case round=>
    clear HT;obtain⟨rfl,hkk,dj,hdj,hT2,heq2⟩:=hrel
    cases gk with
    | zero=>
     go_wp2
     go_end0
     have e:dj=heapSort ltInt d a b:=by
      have h1:=HE.out;have h2:dk=heapBuild ltInt (b-a) a ((b-a-1)/2+1) d:=h1;rw[heapSort,←h2,←heq2];rfl
     exact⟨rfl,by rw[←e];exact hT2⟩
    | succ k=>
     obtain⟨G,hG⟩:∃G:Nat -> Int,∀t,G t=dj[t]! :=⟨fun t=>dj[t]!,fun _=>rfl⟩;have hcw:∀t,t<d.size -> wr.cell? ⟨g,off+t,none⟩=some (.int kK (G t)):=fun t ht=>by rw[hG];exact hT2.cell t O
     have hfw:∀t,t<d.size -> wr.frozen? ⟨g,off+t,none⟩=false:=fun t _=>hT2.free t;have HT2:=uh hT2;have HG:=uh hG;have HE2:=uh heq2;have Hsw:=uh (fun x nq (hx:x=a+k)=>((hT2.drewN nq).swp a x O O (hG _) (hG _)));have Hsf:=uh (fun w' (h:Ts kK tK g off c0 w0 (Sort.swp dj a (a+k)) X w')=>BY g off cap c0 w0 _ d.size (by rw[size_swp];exact hdj) X 0 k a w' h (u_ _) (by rw[size_swp];omega) (by rw[size_swp];omega));clear hT2 hG heq2;rcases Nat.eq_zero_or_pos k with hk0|hkp
     · subst hk0
       go_wp2_with fail
       go_region
       go_wp2_with fail
       refine(Hsf.out _ (Hsw.out _ _ rfl)).mono ?_;rintro e w1 ⟨rfl,hT3⟩
       go_wp2
       go_roundg 0
       case measure=>omega
       case rel=>exact⟨by simp,by omega,_,by rw[size_siftDown ltInt _ _ _ _ _ (g_ _),size_swp];exact hdj,hT3,HE2.out⟩
     · go_wp2_with fail
       go_region
       go_wp2_with fail
       refine(Hsf.out _ (Hsw.out _ _ rfl)).mono ?_;rintro e w1 ⟨rfl,hT3⟩
       go_wp2
       go_roundg k
       case measure=>omega
       case rel=>exact⟨by simp,by omega,_,by rw[size_siftDown ltInt _ _ _ _ _ (g_ _),size_swp];exact hdj,hT3,HE2.out⟩
  | succ k=>
   have Hsf:=uh (BY g off cap c0 w0 dk d.size hds X k (b-a) a wr HT.out O O O);rw[ecast]at Hsf
   go_wp2_with fail
   refine Hsf.out.mono ?_;rintro e w1 ⟨rfl,hT3⟩
   go_wp2
   go_roundg k
   case measure=>omega
   case rel=>exact⟨by simp,by omega,_,by rw[size_siftDown ltInt _ _ _ _ _ (g_ _)];exact hds,hT3,HE.out⟩):P:=h
theorem Fh {P:Prop}(h:P:=by
 have HT:=uh hT;clear hT
 first|go_enter func188,ntmps188|go_enter func263,ntmps263
 go_wp2
 go_loopg [6,7] (b-a) (fun k s6 s7 wr=>∃(i:Nat) (jz:Int) (dk:Array Int),s6=.int .i64 i /\ s7=.int .i64 jz /\ a <= i /\ jz<b /\ (jz-i).toNat <= k /\ PermIn a b d dk /\ Ts kK tK g off c0 w0 dk X wr)
 case atStart=>exact⟨a,(b:Int)-1,d,rfl,rfl,g_ _,by omega,by omega,permIn_refl _ _ _,HT.out⟩
 case round=>
  clear HT;obtain⟨i,jz,dk,rfl,rfl,h1,h2,hk,hP,hT⟩:=hrel;have hds:dk.size=d.size:=hP.1
  by_cases hlt:(i:Int)<jz
  · obtain⟨jn,rfl⟩:∃jn:Nat,jz=jn:=⟨jz.toNat,by omega⟩
    have hij:i<jn:=O;obtain⟨x,hx⟩:∃x,dk[i]! =x:=⟨_,rfl⟩;obtain⟨y,hy⟩:∃y,dk[jn]! =y:=⟨_,rfl⟩;have ci:=hT.cell i O;have cj:=hT.cell jn O;have fi:=hT.free i;have fj:=hT.free jn;rw[hx]at ci;rw[hy]at cj;have HR:=uh (fun n=>(⟨permIn_trans _ _ _ a b hP (swp_permIn dk a b i jn h1 O O O O),(hT.drewN n).swp i jn O O hy.symm hx.symm⟩:PermIn a b d (Sort.swp dk i jn) /\ _));clear hP hT hx hy
    go_wp2_with fail
    go_region
    go_wp2
    go_roundg (jn-1-(i+1))
    case measure=>omega
    case rel=>exact⟨i+1,(jn:Int)-1,Sort.swp dk i jn,by simp,rfl,by omega,by omega,by omega,(HR.out 1).1,(HR.out 1).2⟩
  · go_wp2
    go_end0;exact⟨rfl,dk,hP,hT⟩):P:=h
theorem Wk {P:Prop}(h:P:=by
 have hla:a<d.size:=O;have hlp:pivot<d.size:=O;obtain⟨G,hG⟩:∃G:Nat -> Int,∀j,G j=d[j]! :=⟨fun j=>d[j]!,fun _=>rfl⟩;have ca:w.cell? ⟨g,off+a,none⟩=some (.int kK (G a)):=by rw[hG];exact hT.cell a hla
 have fa:=hT.free a;have cp:w.cell? ⟨g,off+pivot,none⟩=some (.int kK (G pivot)):=by rw[hG];exact hT.cell pivot hlp
 have fp:=hT.free pivot;obtain⟨v',hy'⟩:=cell?_setCell_some (w:=w) (p:=⟨g,off+a,none⟩) (x:=.int kK (G pivot)) (q:=⟨g,off+pivot,none⟩) cp;have HW:=uh ((hT.drewN 1).swp a pivot hla hlp (hG pivot) (hG a));clear hT hG
 first|go_enter func191,ntmps191|go_enter func266,ntmps266
 go_wp2
 go_region
 go_wp2
 go_loopw [9,10] (fun vi vj wr=>∃(i j:Nat) (dk:Array Int),vi=.int .i64 i /\ vj=.int .i64 j /\ a<i /\ i <= j+1 /\ j<b /\ dk.size=d.size /\ Ts kK tK g off c0 w0 dk X wr /\ Hid (partEqLoop ltInt a i j dk=partEqLoop ltInt a (a+1) (b-1) (Sort.swp d a pivot)))
  (fun vi vj _=>(intOf vj).toNat+1-(intOf vi).toNat)
 case atStart=>exact⟨a+1,b-1,Sort.swp d a pivot,by go_num,by go_num,by omega,by omega,by omega,size_swp _ _ _,HW.out,rfl⟩
 case round=>
  clear ca fa cp fp hy' v' HW;obtain⟨i,j,dk,rfl,rfl,hai,hij,hjb,hs,hT0,AE⟩:=hrel;obtain⟨Gk,hG⟩:∃Gk:Nat -> Int,∀t,Gk t=dk[t]! :=⟨fun t=>dk[t]!,fun _=>rfl⟩;have AG:=uh hG;have HT:=uh hT0;clear hG hT0
  go_wp2
  go_loopw [9] (fun vi w1=>∃(i':Nat),vi=.int .i64 i' /\ i <= i' /\ i' <= j+1 /\ Ts kK tK g off c0 w0 dk X w1 /\ Hid (scanUp (fun x=> !ltInt dk[a]! x) dk j i'=scanUp (fun x=> !ltInt dk[a]! x) dk j i)) (fun vi _=>j+1-(intOf vi).toNat)
  case atStart=>exact⟨i,rfl,g_ _,hij,HT.out,rfl⟩
  case round=>
   obtain⟨i',rfl,hii,hij',hT1,HSC⟩:=hrel;have hcw:∀t,t<d.size -> wr.cell? ⟨g,off+t,none⟩=some (.int kK (Gk t)):=fun t ht=>by rw[AG.out];exact hT1.cell t O
   have hfw:∀t,t<d.size -> wr.frozen? ⟨g,off+t,none⟩=false:=fun t _=>hT1.free t;have HT1:=uh hT1;clear hT1
   by_cases hle:i' <= j
   · go_wp2_with fail
     go_big_quiet (first|((first|go_at_call 190|go_at_call 265);refine Calls.quiet_of_same (lessK _ _ _)))
     go_wp2
     · have ht:(!ltInt (Gk a) (Gk i'))=true:=by assumption
       go_roundw
       case rel=>exact⟨i'+1,by go_num,by omega,by omega,HT1.out.drewN nq,(scanUp_go (fun x=> !ltInt dk[a]! x) dk j i' hle (by rw[←AG.out a,←AG.out i'];exact ht)).symm.trans HSC.out⟩
       case measure=>simp[intOf];omega
     · have ht:(!ltInt (Gk a) (Gk i'))=false:=by assumption
       have hi2:Hid (i'=scanUp (fun x=> !ltInt dk[a]! x) dk j i):=(scanUp_end (fun x=> !ltInt dk[a]! x) dk j i' (Or.inr (by rw[←AG.out a,←AG.out i'];exact ht))).symm.trans HSC.out;have HT2:=uh (HT1.out.drewN nq);clear ht hcw hfw HT1 HSC HT;generalize wr.drewN nq=wd at HT2 ⊢
       go_loopw [10] (fun vj w2=>∃(j':Nat),vj=.int .i64 j' /\ j' <= j /\ i' <= j'+1 /\ Ts kK tK g off c0 w0 dk X w2 /\ Hid (scanDown (fun x=>ltInt dk[a]! x) dk i' j'=scanDown (fun x=>ltInt dk[a]! x) dk i' j)) (fun vj _=>(intOf vj).toNat)
       case atStart=>exact⟨j,rfl,g_ _,hij',HT2.out,rfl⟩
       case round=>
        clear HT2;obtain⟨j',rfl,hjj,hij2,hT1,HSD⟩:=hrel;have hcw:∀t,t<d.size -> wr.cell? ⟨g,off+t,none⟩=some (.int kK (Gk t)):=fun t ht=>by rw[AG.out];exact hT1.cell t O
        have hfw:∀t,t<d.size -> wr.frozen? ⟨g,off+t,none⟩=false:=fun t _=>hT1.free t;have HT1:=uh hT1;clear hT1
        by_cases hle2:i' <= j'
        · go_wp2_with fail
          go_big_quiet (first|((first|go_at_call 190|go_at_call 265);refine Calls.quiet_of_same (lessK _ _ _)))
          go_wp2
          · have ht:ltInt (Gk a) (Gk j')=true:=by assumption
            go_roundw
            case rel=>exact⟨j'-1,by go_num,by omega,by omega,HT1.out.drewN nq,(scanDown_go (fun x=>ltInt dk[a]! x) dk i' j' hle2 O (by rw[←AG.out a,←AG.out j'];exact ht)).symm.trans HSD.out⟩
            case measure=>simp[intOf];omega
          · have ht:ltInt (Gk a) (Gk j')=false:=by assumption
            have hj2:Hid (j'=scanDown (fun x=>ltInt dk[a]! x) dk i' j):=(scanDown_end (fun x=>ltInt dk[a]! x) dk i' j' (Or.inr (by rw[←AG.out a,←AG.out j'];exact ht))).symm.trans HSD.out;have HT3:=uh (HT1.out.drewN nq);clear ht hcw hfw HT1 HSD;generalize wr.drewN nq=W3 at HT3 ⊢;have hc3:∀t,t<d.size -> W3.cell? ⟨g,off+t,none⟩=some (.int kK (Gk t)):=fun t ht=>by rw[AG.out];exact HT3.out.cell t O
            have hf3:∀t,t<d.size -> W3.frozen? ⟨g,off+t,none⟩=false:=fun t _=>HT3.out.free t;obtain⟨v3,hy3⟩:=cell?_setCell_some (w:=W3) (p:=⟨g,off+i',none⟩) (x:=.int kK (Gk j')) (q:=⟨g,off+j',none⟩) (hc3 j' O);have hlt3:=scans_lt ltInt a i j dk O hi2.out hj2.out hle2
            go_wp2
            go_region
            all_goals go_wp2
            all_goals go_roundw
            case rel=>exact⟨i'+1,j'-1,Sort.swp dk i' j',by go_num,by go_num,by omega,by omega,by omega,by rw[size_swp];exact hs,(HT3.out.drewN 1).swp i' j' O O (AG.out _) (AG.out _),by show _=_;rw[←AE.out];exact(partEq_go ltInt a i j dk hi2.out hj2.out O).symm⟩
            case measure=>simp[intOf];omega
        · go_wp2_with fail
          go_big_quiet (first|((first|go_at_call 190|go_at_call 265);refine Calls.quiet_of_same (lessK _ _ _)))
          have hj2:Hid (j'=scanDown (fun x=>ltInt dk[a]! x) dk i' j):=(scanDown_end (fun x=>ltInt dk[a]! x) dk i' j' (Or.inl hle2)).symm.trans HSD.out;have HT3:=uh (HT1.out.drewN nq);clear hcw hfw HT1 HSD;generalize wr.drewN nq=W3 at HT3 ⊢;have hc3:∀t,t<d.size -> W3.cell? ⟨g,off+t,none⟩=some (.int kK (Gk t)):=fun t ht=>by rw[AG.out];exact HT3.out.cell t O
          have hf3:∀t,t<d.size -> W3.frozen? ⟨g,off+t,none⟩=false:=fun t _=>HT3.out.free t
          go_wp2
          go_ret;have e:=partEq_break ltInt a i j dk hi2.out hj2.out O;exact⟨by unfold partitionEqual;rw[←AE.out,e];rfl,by unfold partitionEqual;rw[←AE.out,e];exact HT3.out⟩
   · go_wp2_with fail
     go_big_quiet (first|((first|go_at_call 190|go_at_call 265);refine Calls.quiet_of_same (lessK _ _ _)))
     go_wp2
     have hi2:Hid (i'=scanUp (fun x=> !ltInt dk[a]! x) dk j i):=(scanUp_end (fun x=> !ltInt dk[a]! x) dk j i' (Or.inl hle)).symm.trans HSC.out;have HT2:=uh (HT1.out.drewN nq);clear hcw hfw HT1 HSC HT;generalize wr.drewN nq=wd at HT2 ⊢
     go_loopw [10] (fun vj w2=>∃(j':Nat),vj=.int .i64 j' /\ j' <= j /\ i' <= j'+1 /\ Ts kK tK g off c0 w0 dk X w2 /\ Hid (scanDown (fun x=>ltInt dk[a]! x) dk i' j'=scanDown (fun x=>ltInt dk[a]! x) dk i' j)) (fun vj _=>(intOf vj).toNat)
     case atStart=>exact⟨j,rfl,g_ _,hij',HT2.out,rfl⟩
     case round=>
      clear HT2;obtain⟨j',rfl,hjj,hij2,hT1,HSD⟩:=hrel;have hcw:∀t,t<d.size -> wr.cell? ⟨g,off+t,none⟩=some (.int kK (Gk t)):=fun t ht=>by rw[AG.out];exact hT1.cell t O
      have hfw:∀t,t<d.size -> wr.frozen? ⟨g,off+t,none⟩=false:=fun t _=>hT1.free t;have HT1:=uh hT1;clear hT1
      by_cases hle2:i' <= j'
      ·exfalso;omega
      · go_wp2_with fail
        go_big_quiet (first|((first|go_at_call 190|go_at_call 265);refine Calls.quiet_of_same (lessK _ _ _)))
        have hj2:Hid (j'=scanDown (fun x=>ltInt dk[a]! x) dk i' j):=(scanDown_end (fun x=>ltInt dk[a]! x) dk i' j' (Or.inl hle2)).symm.trans HSD.out;have HT3:=uh (HT1.out.drewN nq);clear hcw hfw HT1 HSD;generalize wr.drewN nq=W3 at HT3 ⊢;have hc3:∀t,t<d.size -> W3.cell? ⟨g,off+t,none⟩=some (.int kK (Gk t)):=fun t ht=>by rw[AG.out];exact HT3.out.cell t O
        have hf3:∀t,t<d.size -> W3.frozen? ⟨g,off+t,none⟩=false:=fun t _=>HT3.out.free t
        go_wp2
        go_ret;have e:=partEq_break ltInt a i j dk hi2.out hj2.out O;exact⟨by unfold partitionEqual;rw[←AE.out,e];rfl,by unfold partitionEqual;rw[←AE.out,e];exact HT3.out⟩):P:=h
theorem C9 {P:Prop}(h:P:=by
 have hla:a<d.size:=O;have hlp:pivot<d.size:=O;obtain⟨G,hG⟩:∃G:Nat -> Int,∀j,G j=d[j]! :=⟨fun j=>d[j]!,fun _=>rfl⟩;have ca:w.cell? ⟨g,off+a,none⟩=some (.int kK (G a)):=by rw[hG];exact hT.cell a hla
 have fa:=hT.free a;have cp:w.cell? ⟨g,off+pivot,none⟩=some (.int kK (G pivot)):=by rw[hG];exact hT.cell pivot hlp
 have fp:=hT.free pivot;obtain⟨v',hy'⟩:=cell?_setCell_some (w:=w) (p:=⟨g,off+a,none⟩) (x:=.int kK (G pivot)) (q:=⟨g,off+pivot,none⟩) cp;have HW:=uh ((hT.drewN 1).swp a pivot hla hlp (hG pivot) (hG a));clear hT hG
 first|go_enter func192,ntmps192|go_enter func267,ntmps267
 go_wp2
 go_region
 go_wp2
 clear ca fa cp fp hy' v';have hT0:=HW.out;clear HW;have hT0':Ts kK tK g off c0 w0 (Sort.swp d a pivot) X (((w.setCell ⟨g,off+a,none⟩ (.int kK (G pivot))).setCell ⟨g,off+pivot,none⟩ (.int kK (G a))).drew):=hT0;clear hT0;generalize((w.setCell ⟨g,off+a,none⟩ (.int kK (G pivot))).setCell ⟨g,off+pivot,none⟩ (.int kK (G a))).drew=W1 at hT0' ⊢;obtain⟨dk,hdk⟩:∃dk,dk=Sort.swp d a pivot:=⟨_,rfl⟩;rw[←hdk]at hT0';have hs:dk.size=d.size:=by rw[hdk,size_swp]
 have e1:((a:Int)+1)=((a+1:Nat):Int):=O;have e2:((b:Int)-1)=((b-1:Nat):Int):=O;rw[e1,e2];clear e1 e2;obtain⟨i,hi⟩:∃i,i=a+1:=⟨_,rfl⟩;obtain⟨j,hj⟩:∃j,j=b-1:=⟨_,rfl⟩;rw[←hi,←hj];have hai:a<i:=O;have hij:i <= j+1:=O;have hjb:j<b:=O;have HI:=uh hi;have HJ:=uh hj;have HDK:=uh hdk;clear hi hj hdk;obtain⟨Gk,hG⟩:∃Gk:Nat -> Int,∀t,Gk t=dk[t]! :=⟨fun t=>dk[t]!,fun _=>rfl⟩;have AG:=uh hG;have HT:=uh hT0';clear hG hT0'
 go_loopw [10] (fun vi w1=>∃(i':Nat),vi=.int .i64 i' /\ i <= i' /\ i' <= j+1 /\ Ts kK tK g off c0 w0 dk X w1 /\ Hid (scanUp (fun x=>ltInt x dk[a]!) dk j i'=scanUp (fun x=>ltInt x dk[a]!) dk j i)) (fun vi _=>j+1-(intOf vi).toNat)
 case atStart=>exact⟨i,rfl,g_ _,hij,HT.out,rfl⟩
 case round=>
  obtain⟨i',rfl,hii,hij',hT1,HSC⟩:=hrel;have hcw:∀t,t<d.size -> wr.cell? ⟨g,off+t,none⟩=some (.int kK (Gk t)):=fun t ht=>by rw[AG.out];exact hT1.cell t O
  have hfw:∀t,t<d.size -> wr.frozen? ⟨g,off+t,none⟩=false:=fun t _=>hT1.free t;have HT1:=uh hT1;clear hT1
  by_cases hle:i' <= j
  · go_wp2_with fail
    go_big_quiet (first|((first|go_at_call 190|go_at_call 265);refine Calls.quiet_of_same (lessK _ _ _)))
    go_wp2
    · have ht:ltInt (Gk i') (Gk a)=true:=by assumption
      go_roundw
      case rel=>exact⟨i'+1,by go_num,by omega,by omega,HT1.out.drewN nq,(scanUp_go (fun x=>ltInt x dk[a]!) dk j i' hle (by rw[←AG.out a,←AG.out i'];exact ht)).symm.trans HSC.out⟩
      case measure=>simp[intOf];omega
    · have ht:ltInt (Gk i') (Gk a)=false:=by assumption
      have hi2:Hid (i'=scanUp (fun x=>ltInt x dk[a]!) dk j i):=(scanUp_end (fun x=>ltInt x dk[a]!) dk j i' (Or.inr (by rw[←AG.out a,←AG.out i'];exact ht))).symm.trans HSC.out;have HT2:=uh (HT1.out.drewN nq);clear ht hcw hfw HT1 HSC HT;generalize wr.drewN nq=wd at HT2 ⊢
      go_loopw [11] (fun vj w2=>∃(j':Nat),vj=.int .i64 j' /\ j' <= j /\ i' <= j'+1 /\ Ts kK tK g off c0 w0 dk X w2 /\ Hid (scanDown (fun x=> !ltInt x dk[a]!) dk i' j'=scanDown (fun x=> !ltInt x dk[a]!) dk i' j)) (fun vj _=>(intOf vj).toNat)
      case atStart=>exact⟨j,rfl,g_ _,hij',HT2.out,rfl⟩
      case round=>
       clear HT2;obtain⟨j',rfl,hjj,hij2,hT1,HSD⟩:=hrel;have hcw:∀t,t<d.size -> wr.cell? ⟨g,off+t,none⟩=some (.int kK (Gk t)):=fun t ht=>by rw[AG.out];exact hT1.cell t O
       have hfw:∀t,t<d.size -> wr.frozen? ⟨g,off+t,none⟩=false:=fun t _=>hT1.free t;have HT1:=uh hT1;clear hT1
       by_cases hle2:i' <= j'
       · go_wp2_with fail
         go_big_quiet (first|((first|go_at_call 190|go_at_call 265);refine Calls.quiet_of_same (lessK _ _ _)))
         go_wp2
         · have ht:(!ltInt (Gk j') (Gk a))=true:=by assumption
           go_roundw
           case rel=>exact⟨j'-1,by go_num,by omega,by omega,HT1.out.drewN nq,(scanDown_go (fun x=> !ltInt x dk[a]!) dk i' j' hle2 O (by rw[←AG.out a,←AG.out j'];exact ht)).symm.trans HSD.out⟩
           case measure=>simp[intOf];omega
         · have ht:(!ltInt (Gk j') (Gk a))=false:=by assumption
           have hj2:Hid (j'=scanDown (fun x=> !ltInt x dk[a]!) dk i' j):=(scanDown_end (fun x=> !ltInt x dk[a]!) dk i' j' (Or.inr (by rw[←AG.out a,←AG.out j'];exact ht))).symm.trans HSD.out;have HT3:=uh (HT1.out.drewN nq);clear ht hcw hfw HT1 HSD;generalize wr.drewN nq=W3 at HT3 ⊢;have hc3:∀t,t<d.size -> W3.cell? ⟨g,off+t,none⟩=some (.int kK (Gk t)):=fun t ht=>by rw[AG.out];exact HT3.out.cell t O
           have hf3:∀t,t<d.size -> W3.frozen? ⟨g,off+t,none⟩=false:=fun t _=>HT3.out.free t;obtain⟨v3,hy3⟩:=cell?_setCell_some (w:=W3) (p:=⟨g,off+i',none⟩) (x:=.int kK (Gk j')) (q:=⟨g,off+j',none⟩) (hc3 j' O);have hlt3:=part_scans_lt ltInt a i j dk O hi2.out hj2.out hle2;have HW4:=uh ((HT3.out.drewN 1).swp i' j' O O (AG.out j') (AG.out i'))
           go_wp2
           go_region
           all_goals go_wp2
           obtain⟨R,hR⟩:∃R,R=partLoop ltInt a (i'+1) (j'-1) (Sort.swp dk i' j'):=⟨_,rfl⟩;have HP:Hid (partition ltInt d a b pivot=(R.1,false,Sort.swp R.2 R.1 a)):=(by rw[hR];exact part_first_go ltInt d a b pivot HI.out HJ.out HDK.out hi2.out hj2.out O);have HR:=uh hR;clear hR hc3 hf3 hy3 AG hi2 hj2 HT3
           go_loopw [10,11] (fun vi vj wr=>∃(i j:Nat) (dk:Array Int),vi=.int .i64 i /\ vj=.int .i64 j /\ a<i /\ i <= j+1 /\ j<b /\ dk.size=d.size /\ Ts kK tK g off c0 w0 dk X wr /\ Hid (partLoop ltInt a i j dk=R))
            (fun vi vj _=>(intOf vj).toNat+1-(intOf vi).toNat)
           case atStart=>exact⟨i'+1,j'-1,Sort.swp dk i' j',by go_num,by go_num,by omega,by omega,by omega,by rw[size_swp];exact hs,HW4.out,HR.out.symm⟩
           case round=>
            clear HW4 HR;obtain⟨i,j,dk,rfl,rfl,hai,hij,hjb,hs,hT0,AE⟩:=hrel;obtain⟨Gk,hG⟩:∃Gk:Nat -> Int,∀t,Gk t=dk[t]! :=⟨fun t=>dk[t]!,fun _=>rfl⟩;have AG:=uh hG;have HT:=uh hT0;clear hG hT0
            go_wp2
            go_loopw [10] (fun vi w1=>∃(i':Nat),vi=.int .i64 i' /\ i <= i' /\ i' <= j+1 /\ Ts kK tK g off c0 w0 dk X w1 /\ Hid (scanUp (fun x=>ltInt x dk[a]!) dk j i'=scanUp (fun x=>ltInt x dk[a]!) dk j i)) (fun vi _=>j+1-(intOf vi).toNat)
            case atStart=>exact⟨i,rfl,g_ _,hij,HT.out,rfl⟩
            case round=>
             obtain⟨i',rfl,hii,hij',hT1,HSC⟩:=hrel;have hcw:∀t,t<d.size -> wr.cell? ⟨g,off+t,none⟩=some (.int kK (Gk t)):=fun t ht=>by rw[AG.out];exact hT1.cell t O
             have hfw:∀t,t<d.size -> wr.frozen? ⟨g,off+t,none⟩=false:=fun t _=>hT1.free t;have HT1:=uh hT1;clear hT1
             by_cases hle:i' <= j
             · go_wp2_with fail
               go_big_quiet (first|((first|go_at_call 190|go_at_call 265);refine Calls.quiet_of_same (lessK _ _ _)))
               go_wp2
               · have ht:ltInt (Gk i') (Gk a)=true:=by assumption
                 go_roundw
                 case rel=>exact⟨i'+1,by go_num,by omega,by omega,HT1.out.drewN nq,(scanUp_go (fun x=>ltInt x dk[a]!) dk j i' hle (by rw[←AG.out a,←AG.out i'];exact ht)).symm.trans HSC.out⟩
                 case measure=>simp[intOf];omega
               · have ht:ltInt (Gk i') (Gk a)=false:=by assumption
                 have hi2:Hid (i'=scanUp (fun x=>ltInt x dk[a]!) dk j i):=(scanUp_end (fun x=>ltInt x dk[a]!) dk j i' (Or.inr (by rw[←AG.out a,←AG.out i'];exact ht))).symm.trans HSC.out;have HT2:=uh (HT1.out.drewN nq);clear ht hcw hfw HT1 HSC HT;generalize wr.drewN nq=wd at HT2 ⊢
                 go_loopw [11] (fun vj w2=>∃(j':Nat),vj=.int .i64 j' /\ j' <= j /\ i' <= j'+1 /\ Ts kK tK g off c0 w0 dk X w2 /\ Hid (scanDown (fun x=> !ltInt x dk[a]!) dk i' j'=scanDown (fun x=> !ltInt x dk[a]!) dk i' j)) (fun vj _=>(intOf vj).toNat)
                 case atStart=>exact⟨j,rfl,g_ _,hij',HT2.out,rfl⟩
                 case round=>
                  clear HT2;obtain⟨j',rfl,hjj,hij2,hT1,HSD⟩:=hrel;have hcw:∀t,t<d.size -> wr.cell? ⟨g,off+t,none⟩=some (.int kK (Gk t)):=fun t ht=>by rw[AG.out];exact hT1.cell t O
                  have hfw:∀t,t<d.size -> wr.frozen? ⟨g,off+t,none⟩=false:=fun t _=>hT1.free t;have HT1:=uh hT1;clear hT1
                  by_cases hle2:i' <= j'
                  · go_wp2_with fail
                    go_big_quiet (first|((first|go_at_call 190|go_at_call 265);refine Calls.quiet_of_same (lessK _ _ _)))
                    go_wp2
                    · have ht:(!ltInt (Gk j') (Gk a))=true:=by assumption
                      go_roundw
                      case rel=>exact⟨j'-1,by go_num,by omega,by omega,HT1.out.drewN nq,(scanDown_go (fun x=> !ltInt x dk[a]!) dk i' j' hle2 O (by rw[←AG.out a,←AG.out j'];exact ht)).symm.trans HSD.out⟩
                      case measure=>simp[intOf];omega
                    · have ht:(!ltInt (Gk j') (Gk a))=false:=by assumption
                      have hj2:Hid (j'=scanDown (fun x=> !ltInt x dk[a]!) dk i' j):=(scanDown_end (fun x=> !ltInt x dk[a]!) dk i' j' (Or.inr (by rw[←AG.out a,←AG.out j'];exact ht))).symm.trans HSD.out;have HT3:=uh (HT1.out.drewN nq);clear ht hcw hfw HT1 HSD;generalize wr.drewN nq=W3 at HT3 ⊢;have hc3:∀t,t<d.size -> W3.cell? ⟨g,off+t,none⟩=some (.int kK (Gk t)):=fun t ht=>by rw[AG.out];exact HT3.out.cell t O
                      have hf3:∀t,t<d.size -> W3.frozen? ⟨g,off+t,none⟩=false:=fun t _=>HT3.out.free t;obtain⟨v3,hy3⟩:=cell?_setCell_some (w:=W3) (p:=⟨g,off+i',none⟩) (x:=.int kK (Gk j')) (q:=⟨g,off+j',none⟩) (hc3 j' O);have hlt3:=part_scans_lt ltInt a i j dk O hi2.out hj2.out hle2
                      go_wp2
                      go_region
                      all_goals go_wp2
                      all_goals go_roundw
                      case rel=>exact⟨i'+1,j'-1,Sort.swp dk i' j',by go_num,by go_num,by omega,by omega,by omega,by rw[size_swp];exact hs,(HT3.out.drewN 1).swp i' j' O O (AG.out _) (AG.out _),by show _=_;rw[←AE.out];exact(part_go ltInt a i j dk hi2.out hj2.out O).symm⟩
                      case measure=>simp[intOf];omega
                  · go_wp2_with fail
                    go_big_quiet (first|((first|go_at_call 190|go_at_call 265);refine Calls.quiet_of_same (lessK _ _ _)))
                    have hj2:Hid (j'=scanDown (fun x=> !ltInt x dk[a]!) dk i' j):=(scanDown_end (fun x=> !ltInt x dk[a]!) dk i' j' (Or.inl hle2)).symm.trans HSD.out;have HT3:=uh (HT1.out.drewN nq);clear hcw hfw HT1 HSD;generalize wr.drewN nq=W3 at HT3 ⊢;have hc3:∀t,t<d.size -> W3.cell? ⟨g,off+t,none⟩=some (.int kK (Gk t)):=fun t ht=>by rw[AG.out];exact HT3.out.cell t O
                    have hf3:∀t,t<d.size -> W3.frozen? ⟨g,off+t,none⟩=false:=fun t _=>HT3.out.free t;obtain⟨v3,hy3⟩:=cell?_setCell_some (w:=W3) (p:=⟨g,off+j',none⟩) (x:=.int kK (Gk a)) (q:=⟨g,off+a,none⟩) (hc3 a O);have HP2:=uh (by have e:=part_break ltInt a i j dk hi2.out hj2.out O;rw[AE.out]at e;have h:=HP.out;rw[e]at h;exact h:partition ltInt d a b pivot=(j',false,Sort.swp dk j' a));have HW3:=uh ((HT3.out.drewN 1).swp j' a O O (AG.out a) (AG.out j'))
                    go_wp2
                    go_region
                    all_goals go_wp2
                    refine f_ (E_ rfl _ _ _) rfl ?_;exact⟨by rw[HP2.out]<;>rfl,by rw[HP2.out];exact HW3.out⟩
             · go_wp2_with fail
               go_big_quiet (first|((first|go_at_call 190|go_at_call 265);refine Calls.quiet_of_same (lessK _ _ _)))
               go_wp2
               have hi2:Hid (i'=scanUp (fun x=>ltInt x dk[a]!) dk j i):=(scanUp_end (fun x=>ltInt x dk[a]!) dk j i' (Or.inl hle)).symm.trans HSC.out;have HT2:=uh (HT1.out.drewN nq);clear hcw hfw HT1 HSC HT;generalize wr.drewN nq=wd at HT2 ⊢
               go_loopw [11] (fun vj w2=>∃(j':Nat),vj=.int .i64 j' /\ j' <= j /\ i' <= j'+1 /\ Ts kK tK g off c0 w0 dk X w2 /\ Hid (scanDown (fun x=> !ltInt x dk[a]!) dk i' j'=scanDown (fun x=> !ltInt x dk[a]!) dk i' j)) (fun vj _=>(intOf vj).toNat)
               case atStart=>exact⟨j,rfl,g_ _,hij',HT2.out,rfl⟩
               case round=>
                clear HT2;obtain⟨j',rfl,hjj,hij2,hT1,HSD⟩:=hrel;have hcw:∀t,t<d.size -> wr.cell? ⟨g,off+t,none⟩=some (.int kK (Gk t)):=fun t ht=>by rw[AG.out];exact hT1.cell t O
                have hfw:∀t,t<d.size -> wr.frozen? ⟨g,off+t,none⟩=false:=fun t _=>hT1.free t;have HT1:=uh hT1;clear hT1
                by_cases hle2:i' <= j'
                ·exfalso;omega
                · go_wp2_with fail
                  go_big_quiet (first|((first|go_at_call 190|go_at_call 265);refine Calls.quiet_of_same (lessK _ _ _)))
                  have hj2:Hid (j'=scanDown (fun x=> !ltInt x dk[a]!) dk i' j):=(scanDown_end (fun x=> !ltInt x dk[a]!) dk i' j' (Or.inl hle2)).symm.trans HSD.out;have HT3:=uh (HT1.out.drewN nq);clear hcw hfw HT1 HSD;generalize wr.drewN nq=W3 at HT3 ⊢;have hc3:∀t,t<d.size -> W3.cell? ⟨g,off+t,none⟩=some (.int kK (Gk t)):=fun t ht=>by rw[AG.out];exact HT3.out.cell t O
                  have hf3:∀t,t<d.size -> W3.frozen? ⟨g,off+t,none⟩=false:=fun t _=>HT3.out.free t;obtain⟨v3,hy3⟩:=cell?_setCell_some (w:=W3) (p:=⟨g,off+j',none⟩) (x:=.int kK (Gk a)) (q:=⟨g,off+a,none⟩) (hc3 a O);have HP2:=uh (by have e:=part_break ltInt a i j dk hi2.out hj2.out O;rw[AE.out]at e;have h:=HP.out;rw[e]at h;exact h:partition ltInt d a b pivot=(j',false,Sort.swp dk j' a));have HW3:=uh ((HT3.out.drewN 1).swp j' a O O (AG.out a) (AG.out j'))
                  go_wp2
                  go_region
                  all_goals go_wp2
                  refine f_ (E_ rfl _ _ _) rfl ?_;exact⟨by rw[HP2.out]<;>rfl,by rw[HP2.out];exact HW3.out⟩
       · go_wp2_with fail
         go_big_quiet (first|((first|go_at_call 190|go_at_call 265);refine Calls.quiet_of_same (lessK _ _ _)))
         have hj2:Hid (j'=scanDown (fun x=> !ltInt x dk[a]!) dk i' j):=(scanDown_end (fun x=> !ltInt x dk[a]!) dk i' j' (Or.inl hle2)).symm.trans HSD.out;have HT3:=uh (HT1.out.drewN nq);clear hcw hfw HT1 HSD;generalize wr.drewN nq=W3 at HT3 ⊢;have hc3:∀t,t<d.size -> W3.cell? ⟨g,off+t,none⟩=some (.int kK (Gk t)):=fun t ht=>by rw[AG.out];exact HT3.out.cell t O
         have hf3:∀t,t<d.size -> W3.frozen? ⟨g,off+t,none⟩=false:=fun t _=>HT3.out.free t;obtain⟨v3,hy3⟩:=cell?_setCell_some (w:=W3) (p:=⟨g,off+j',none⟩) (x:=.int kK (Gk a)) (q:=⟨g,off+a,none⟩) (hc3 a O);have HP:=uh (part_first_break ltInt d a b pivot HI.out HJ.out HDK.out hi2.out hj2.out O);have HW3:=uh ((HT3.out.drewN 1).swp j' a O O (AG.out a) (AG.out j'))
         go_wp2
         go_region
         all_goals go_wp2
         refine f_ (E_ rfl _ _ _) rfl ?_;exact⟨by rw[HP.out]<;>rfl,by rw[HP.out];exact HW3.out⟩
  · go_wp2_with fail
    go_big_quiet (first|((first|go_at_call 190|go_at_call 265);refine Calls.quiet_of_same (lessK _ _ _)))
    go_wp2
    have hi2:Hid (i'=scanUp (fun x=>ltInt x dk[a]!) dk j i):=(scanUp_end (fun x=>ltInt x dk[a]!) dk j i' (Or.inl hle)).symm.trans HSC.out;have HT2:=uh (HT1.out.drewN nq);clear hcw hfw HT1 HSC HT;generalize wr.drewN nq=wd at HT2 ⊢
    go_loopw [11] (fun vj w2=>∃(j':Nat),vj=.int .i64 j' /\ j' <= j /\ i' <= j'+1 /\ Ts kK tK g off c0 w0 dk X w2 /\ Hid (scanDown (fun x=> !ltInt x dk[a]!) dk i' j'=scanDown (fun x=> !ltInt x dk[a]!) dk i' j)) (fun vj _=>(intOf vj).toNat)
    case atStart=>exact⟨j,rfl,g_ _,hij',HT2.out,rfl⟩
    case round=>
     clear HT2;obtain⟨j',rfl,hjj,hij2,hT1,HSD⟩:=hrel;have hcw:∀t,t<d.size -> wr.cell? ⟨g,off+t,none⟩=some (.int kK (Gk t)):=fun t ht=>by rw[AG.out];exact hT1.cell t O
     have hfw:∀t,t<d.size -> wr.frozen? ⟨g,off+t,none⟩=false:=fun t _=>hT1.free t;have HT1:=uh hT1;clear hT1
     by_cases hle2:i' <= j'
     ·exfalso;omega
     · go_wp2_with fail
       go_big_quiet (first|((first|go_at_call 190|go_at_call 265);refine Calls.quiet_of_same (lessK _ _ _)))
       have hj2:Hid (j'=scanDown (fun x=> !ltInt x dk[a]!) dk i' j):=(scanDown_end (fun x=> !ltInt x dk[a]!) dk i' j' (Or.inl hle2)).symm.trans HSD.out;have HT3:=uh (HT1.out.drewN nq);clear hcw hfw HT1 HSD;generalize wr.drewN nq=W3 at HT3 ⊢;have hc3:∀t,t<d.size -> W3.cell? ⟨g,off+t,none⟩=some (.int kK (Gk t)):=fun t ht=>by rw[AG.out];exact HT3.out.cell t O
       have hf3:∀t,t<d.size -> W3.frozen? ⟨g,off+t,none⟩=false:=fun t _=>HT3.out.free t;obtain⟨v3,hy3⟩:=cell?_setCell_some (w:=W3) (p:=⟨g,off+j',none⟩) (x:=.int kK (Gk a)) (q:=⟨g,off+a,none⟩) (hc3 a O);have HP:=uh (part_first_break ltInt d a b pivot HI.out HJ.out HDK.out hi2.out hj2.out O);have HW3:=uh ((HT3.out.drewN 1).swp j' a O O (AG.out a) (AG.out j'))
       go_wp2
       go_region
       all_goals go_wp2
       refine f_ (E_ rfl _ _ _) rfl ?_;exact⟨by rw[HP.out]<;>rfl,by rw[HP.out];exact HW3.out⟩):P:=h
theorem Ca {P:Prop}(h:P:=by
 have ca:=hT.cell a ha;have cb:=hT.cell b hb;obtain⟨x,hx⟩:∃x,d[a]! =x:=⟨_,rfl⟩;obtain⟨y,hy⟩:∃y,d[b]! =y:=⟨_,rfl⟩;rw[hx]at ca;rw[hy]at cb;have cs:w.cell? ⟨sb,0,none⟩=some (.int .i64 s):=by simpa using hT.xcell (d_ ..) 0
 have fs:w.frozen? ⟨sb,0,none⟩=false:=hT.xfree (d_ ..) 0;have HT:=uh hT;have HT1:=uh ((hT.drewN 1).xset 0 (.int .i64 ((s+1:Nat):Int)));clear hT hx hy
 first|go_enter func251,ntmps251|go_enter func277,ntmps277
 go_wp2
 go_region_with ((first|go_at_call 190|go_at_call 265);refine(lessK _ _ _).mono ?_;rintro e w' ⟨rfl,rfl⟩)
 all_goals (try go_wp2)
 all_goals first
  | (have hlt:ltInt y x=true:=by assumption
     go_ret2;exact⟨b,a,s+1,rfl,.inr ⟨rfl,rfl⟩,g_ _,HT1.out⟩)
  | (have hlt:ltInt y x=false:=by assumption
     go_ret2;exact⟨a,b,s,rfl,.inl ⟨rfl,rfl⟩,by omega,HT.out.drewN 1⟩)):P:=h
theorem Fp {P:Prop}(h:P:=by
 have C1:=uh (ZQ g off cap sb a b s c0 w0 d X t w hT ha hb O);clear hT
 first|go_enter func230,ntmps230|go_enter func275,ntmps275
 go_wp2_with fail
 refine C1.out.mono ?_;rintro _ w1 ⟨x1,y1,s1,rfl,h1,l1,hT1⟩;have C2:=uh (ZQ g off cap sb y1 c s1 c0 w0 d X t w1 hT1 O hc O);clear hT1 C1
 go_wp2_with fail
 refine C2.out.mono ?_;rintro _ w2 ⟨x2,y2,s2,rfl,h2,l2,hT2⟩;have C3:=uh (ZQ g off cap sb x1 x2 s2 c0 w0 d X t w2 hT2 O O O);clear hT2 C2
 go_wp2_with fail
 refine C3.out.mono ?_;rintro _ w3 ⟨x3,y3,s3,rfl,h3,l3,hT3⟩;have HT3:=uh hT3;clear hT3 C3
 go_wp2_with fail
 go_ret;exact⟨y3,s3,rfl,by omega,by omega,HT3.out⟩):P:=h
theorem Fu {P:Prop}(h:P:=by
 have C1:=uh (Ez g off cap sb (a-1) a (a+1) s c0 w0 d X t w hT O O hb hs);rw[show((a-1:Nat):Int)=(a:Int)-1 by omega,show((a+1:Nat):Int)=(a:Int)+1 by omega]at C1;clear hT
 first|go_enter func229,ntmps229|go_enter func274,ntmps274
 go_wp2_with fail
 refine C1.out.mono ?_;rintro _ w1 ⟨x1,s1,rfl,h1,l1,hT1⟩;have HT1:=uh hT1;clear hT1 C1
 go_wp2_with fail
 go_ret;exact⟨x1,s1,rfl,by omega,by omega,l1,HT1.out⟩):P:=h
theorem C8 {P:Prop}(h:P:=by
 have HT:=uh hT;clear hT
 first|go_enter func189,ntmps189|go_enter func264,ntmps264
 go_wp2
 go_loopw [7,8] (fun vi vs wr=>∃(i s:Nat) (dk:Array Int),vi=.int .i64 i /\ vs=.int .i64 s /\ s <= 5 /\ a<i /\ i <= b /\ dk.size=d.size /\ Ts kK tK g off c0 w0 dk X wr /\ partialIns ltInt a b (5-s) i dk=partialIns ltInt a b 5 (a+1) d) (fun _ vs _=>5-(intOf vs).toNat)
 case atStart=>exact⟨a+1,0,d,by go_num,rfl,by omega,by omega,by omega,rfl,HT.out,rfl⟩
 case round=>
  clear HT;obtain⟨i,s,dk,rfl,rfl,hs5,hai,hib,hsk,hT,hO⟩:=hrel;have HO:=uh hO;have HT:=uh hT;clear hO hT
  by_cases hs:s<5
  · go_wp2
    go_loopw [7] (fun vi wr2=>∃(k:Nat),vi=.int .i64 k /\ i <= k /\ k <= b /\ Ts kK tK g off c0 w0 dk X wr2 /\ scanSorted ltInt dk b k=scanSorted ltInt dk b i) (fun vi _=>b-(intOf vi).toNat)
    case atStart=>exact⟨i,rfl,g_ _,hib,HT.out,rfl⟩
    case round=>
     clear HT;obtain⟨k,rfl,hik,hkb,hT2,hS⟩:=hrel;obtain⟨G,hG⟩:∃G:Nat -> Int,∀t,G t=dk[t]! :=⟨fun t=>dk[t]!,fun _=>rfl⟩;have hcw:∀t,t<d.size -> wr.cell? ⟨g,off+t,none⟩=some (.int kK (G t)):=fun t ht=>by rw[hG];exact hT2.cell t O
     have hfw:∀t,t<d.size -> wr.frozen? ⟨g,off+t,none⟩=false:=fun t _=>hT2.free t;have HG:=uh hG;have HT2:=uh hT2;have HS:=uh hS;clear hT2 hG hS
     go_wp2
     by_cases hkb':k<b
     · by_cases h50:b-a<50
       · go_quiet (first|((first|go_at_call 190|go_at_call 265);refine Calls.quiet_of_same (lessK _ _ _)))
         go_wp2
         · have hl:ltInt (G k) (G (k-1))=false:=by
             have h:(!ltInt (G k) (G (k-1)))=true:=by assumption
             simpa using h
           go_roundw
           case rel=>exact⟨k+1,by go_num,by omega,by omega,HT2.out.drewN _,by rw[←HS.out,scanSorted_go ltInt dk b k hkb' (by rw[←HG.out,←HG.out];exact hl)]⟩
           case measure=>simp[intOf];omega
         · have hl:ltInt (G k) (G (k-1))=true:=by
             have h:(!ltInt (G k) (G (k-1)))=false:=by assumption
             simpa using h
           have hv:partialInsertionSort ltInt d a b=(dk,false):=by
            unfold partialInsertionSort;rw[←HO.out,pi_short ltInt a b s i dk hs (by rw[←HS.out,scanSorted_stop ltInt dk b k (Or.inr (by rw[←HG.out,←HG.out];exact hl))];omega) O]
           rw[hv];go_ret;exact⟨rfl,HT2.out.drewN _⟩
       · go_quiet (first|((first|go_at_call 190|go_at_call 265);refine Calls.quiet_of_same (lessK _ _ _)))
         go_wp2
         · have hl:ltInt (G k) (G (k-1))=false:=by
             have h:(!ltInt (G k) (G (k-1)))=true:=by assumption
             simpa using h
           go_roundw
           case rel=>exact⟨k+1,by go_num,by omega,by omega,HT2.out.drewN _,by rw[←HS.out,scanSorted_go ltInt dk b k hkb' (by rw[←HG.out,←HG.out];exact hl)]⟩
           case measure=>simp[intOf];omega
         · have hl:ltInt (G k) (G (k-1))=true:=by
             have h:(!ltInt (G k) (G (k-1)))=false:=by assumption
             simpa using h
           have HK:Hid (scanSorted ltInt dk b i=k):=(HS.out.symm.trans (scanSorted_stop ltInt dk b k (Or.inr (by rw[←HG.out,←HG.out];exact hl))));have hs1:(Sort.swp dk k (k-1)).size=d.size:=by rw[size_swp];exact hsk
           go_region
           have HW:=uh ((HT2.out.drewN (nq+1)).swp k (k-1) O O (HG.out _) (HG.out _));clear HT2 HG hcw hfw HS hl;generalize((wr.drewN (nq+1)).setCell ⟨g,off+k,none⟩ (.int kK (G (k-1)))).setCell ⟨g,off+(k-1),none⟩ (.int kK (G k))=W3 at*
           go_upto_if 61 with fail
           go_cut []from 14 to 132 (fun wx=>∃dj:Array Int,dj.size=d.size /\ fixDown ltInt a k (Sort.swp dk k (k-1))=dj /\ Ts kK tK g off c0 w0 dj X wx)
           case first=>
            by_cases hka:k-a ≥ 2
            · go_wp2
              go_loopw [9] (fun vj wr2=>∃(j:Nat) (dj:Array Int),vj=.int .i64 j /\ j <= k-1 /\ dj.size=d.size /\ Ts kK tK g off c0 w0 dj X wr2 /\ shiftDown ltInt (j) dj=shiftDown ltInt (k-1) (Sort.swp dk k (k-1))) (fun vj _=>(intOf vj).toNat)
              case atStart=>exact⟨k-1,(Sort.swp dk k (k-1)),by first|rfl|(congr 1;omega)|go_num,g_ _,hs1,HW.out,rfl⟩
              case round=>
               obtain⟨j,dj,rfl,hjk,hsj,hTj,hDn⟩:=hrel;obtain⟨G,hG⟩:∃G:Nat -> Int,∀t,G t=dj[t]! :=⟨fun t=>dj[t]!,fun _=>rfl⟩;have hcw:∀t,t<d.size -> wr.cell? ⟨g,off+t,none⟩=some (.int kK (G t)):=fun t ht=>by rw[hG];exact hTj.cell t O
               have hfw:∀t,t<d.size -> wr.frozen? ⟨g,off+t,none⟩=false:=fun t _=>hTj.free t;have HG:=uh hG;have HTj:=uh hTj;have HDn:=uh hDn;clear hTj hG hDn HW
               by_cases hc:1 <= j
               · go_wp2
                 go_quiet (first|((first|go_at_call 190|go_at_call 265);refine Calls.quiet_of_same (lessK _ _ _)))
                 go_wp2
                 · have hl:ltInt (G j) (G (j-1))=false:=by
                     have h:(!ltInt (G j) (G (j-1)))=true:=by assumption
                     simpa using h
                   go_meet
                   case rel=>exact⟨dj,hsj,by unfold fixDown;rw[v_ hka,←HDn.out,shiftDown_stop ltInt j dj (Or.inr (by rw[←HG.out,←HG.out];exact hl))],HTj.out.drewN _⟩
                 · have hl:ltInt (G j) (G (j-1))=true:=by
                     have h:(!ltInt (G j) (G (j-1)))=false:=by assumption
                     simpa using h
                   go_region
                   all_goals go_wp2
                   go_roundw
                   case rel=>exact⟨j-1,Sort.swp dj j (j-1),by first|go_num|(congr 1;omega),by omega,by rw[size_swp];exact hsj,((HTj.out.drewN (nq+1)).swp j (j-1) O O (HG.out _) (HG.out _)),by rw[←HDn.out,shiftDown_go ltInt j dj O (by rw[←HG.out,←HG.out];exact hl)]⟩
                   case measure=>simp[intOf];omega
               · go_wp2
                 go_meet
                 case rel=>exact⟨dj,hsj,by unfold fixDown;rw[v_ hka,←HDn.out,shiftDown_stop ltInt j dj (Or.inl O)],HTj.out⟩
            · go_wp2
              go_meet
              case rel=>exact⟨_,hs1,by unfold fixDown;rw[y_ hka],HW.out⟩
           case rest=>
            obtain⟨dj0,hsj0,hFD,hTj0⟩:=hcut;have HD:=uh hFD;have HTj0:=uh hTj0;clear hFD hTj0 HW
            by_cases hbk:b-k ≥ 2
            · go_wp2
              go_loopw [10] (fun vj wr2=>∃(j:Nat) (dj:Array Int),vj=.int .i64 j /\ k+1 <= j /\ j <= b /\ dj.size=d.size /\ Ts kK tK g off c0 w0 dj X wr2 /\ shiftUp ltInt b (j) dj=shiftUp ltInt b (k+1) dj0) (fun vj _=>b-(intOf vj).toNat)
              case atStart=>exact⟨k+1,dj0,by first|rfl|(congr 1;omega)|go_num,g_ _,by omega,hsj0,HTj0.out,rfl⟩
              case round=>
               obtain⟨j,dj,rfl,hkj,hjb,hsj,hTj,hDn⟩:=hrel;obtain⟨G,hG⟩:∃G:Nat -> Int,∀t,G t=dj[t]! :=⟨fun t=>dj[t]!,fun _=>rfl⟩;have hcw:∀t,t<d.size -> wr.cell? ⟨g,off+t,none⟩=some (.int kK (G t)):=fun t ht=>by rw[hG];exact hTj.cell t O
               have hfw:∀t,t<d.size -> wr.frozen? ⟨g,off+t,none⟩=false:=fun t _=>hTj.free t;have HG:=uh hG;have HTj:=uh hTj;have HDn:=uh hDn;clear hTj hG hDn HTj0
               by_cases hc:j<b
               · go_wp2
                 go_quiet (first|((first|go_at_call 190|go_at_call 265);refine Calls.quiet_of_same (lessK _ _ _)))
                 go_wp2
                 · have hl:ltInt (G j) (G (j-1))=false:=by
                     have h:(!ltInt (G j) (G (j-1)))=true:=by assumption
                     simpa using h
                   go_roundw
                   case rel=>exact⟨k,s+1,dj,rfl,by go_num,by omega,by omega,by omega,hsj,HTj.out.drewN _,by rw[←HO.out,pi_go ltInt a b s i k dk hs HK.out O O,HD.out];unfold fixUp;rw[v_ O,←HDn.out,shiftUp_stop ltInt b j dj (Or.inr (by rw[←HG.out,←HG.out];exact hl))]⟩
                   case measure=>simp[intOf];omega
                 · have hl:ltInt (G j) (G (j-1))=true:=by
                     have h:(!ltInt (G j) (G (j-1)))=false:=by assumption
                     simpa using h
                   go_region
                   all_goals go_wp2
                   go_roundw
                   case rel=>exact⟨j+1,Sort.swp dj j (j-1),by first|go_num|(congr 1;omega),by omega,by omega,by rw[size_swp];exact hsj,((HTj.out.drewN (nq+1)).swp j (j-1) O O (HG.out _) (HG.out _)),by rw[←HDn.out,shiftUp_go ltInt b j dj O (by rw[←HG.out,←HG.out];exact hl)]⟩
                   case measure=>simp[intOf];omega
               · go_wp2
                 go_roundw
                 case rel=>exact⟨k,s+1,dj,rfl,by go_num,by omega,by omega,by omega,hsj,HTj.out,by rw[←HO.out,pi_go ltInt a b s i k dk hs HK.out O O,HD.out];unfold fixUp;rw[v_ O,←HDn.out,shiftUp_stop ltInt b j dj (Or.inl O)]⟩
                 case measure=>simp[intOf];omega
            · go_wp2
              go_roundw
              case rel=>exact⟨k,s+1,dj0,rfl,by go_num,by omega,by omega,by omega,hsj0,HTj0.out,by rw[←HO.out,pi_go ltInt a b s i k dk hs HK.out O O,HD.out];unfold fixUp;rw[y_ O]⟩
              case measure=>simp[intOf];omega
     · go_quiet (first|((first|go_at_call 190|go_at_call 265);refine Calls.quiet_of_same (lessK _ _ _)))
       go_wp2
       obtain rfl:k=b:=O
       have hv:partialInsertionSort ltInt d a k=(dk,true):=by
        unfold partialInsertionSort;rw[←HO.out,pi_true ltInt a k s i dk hs (by rw[←HS.out,scanSorted_stop ltInt dk k k (Or.inl O)])]
       rw[hv];go_ret;exact⟨rfl,HT2.out.drewN _⟩
  · obtain rfl:s=5:=O
    go_wp2
    have hv:partialInsertionSort ltInt d a b=(dk,false):=by
     unfold partialInsertionSort;rw[←HO.out,pi_end]
    rw[hv];go_ret;exact⟨rfl,HT.out⟩):P:=h
theorem Fm {P:Prop}(h:P:=by
 have h:=partialInsertionSort_holds QV d a b hab hb hB;refine(Fy g off cap a b c0 w0 d X w hT hab hb hsz).mono ?_;rintro e w' ⟨rfl,h2⟩;exact⟨_,_,rfl,h.1,h.2,h2⟩):P:=h
theorem Fs {P:Prop}(h:P:=by
 obtain⟨L,rfl⟩:∃L,b=a+L:=⟨b-a,by omega⟩
 by_cases h8:8 <= L
 · obtain⟨M,hM⟩:∃M:Nat,M=1 <<< bitsLen L:=⟨_,rfl⟩
   have hM1:1 <= M:=(by rw[hM,Nat.one_shiftLeft];exact Nat.two_pow_pos _);have hM2:M <= 2*L:=(by rw[hM,Nat.one_shiftLeft];exact two_pow_bitsLen_le (by omega));have hNP:=uh (fun w=>gp L (by omega) w);rw[←hM]at hNP;have HT0:=uh (hT.alloc (.cells #[.int .u64 ((L:Nat):Int)] 349));clear hT hM
   first|go_enter func186,ntmps186|go_enter func261,ntmps261
   go_wp2_with (first|(go_at_call 227;rw[show((a:Int)+(L:Int)-(a:Int))=(L:Int)by omega];refine(hNP.out _).mono ?_;rintro e w' ⟨rfl,rfl⟩))
   go_loopw [9] (fun vi wr=>∃(t R:Nat) (dk:Array Int),vi=.int .i64 ((a+L/4*2-1+t:Nat):Int) /\ t <= 3 /\ R<18446744073709551616 /\ PermIn a (a+L) d dk /\
    Ts kK tK g off c0 w0 dk ((w.heap.size,.cells #[.int .u64 (R:Int)] 349 (0,0))::X) wr) (fun vi _=>a+L/4*2+3-(intOf vi).toNat)
   case atStart=>exact⟨0,L,d,by congr 1;omega,by omega,by omega,permIn_refl _ _ _,HT0.out⟩
   case round=>
    clear HT0;obtain⟨t,R,dk,rfl,ht,lR,hP,hT⟩:=hrel;have hsk:dk.size=d.size:=hP.1;obtain⟨R',hR'⟩:∃R':Nat,R'=xorNextN R:=⟨_,rfl⟩;have lR':R'<18446744073709551616:=by rw[hR'];exact xorNextN_lt R lR
    obtain⟨O,hO⟩:∃O:Nat,O=R' &&& (M-1):=⟨_,rfl⟩;have lO:O <= M-1:=by rw[hO];exact Nat.and_le_right
    have eAnd:bits .and .u64 (R':Int) ((M:Int)-1)=(O:Int):=by
     rw[show((M:Int)-1)=((M-1:Nat):Int)by omega,bits_and_u64_nat _ _ lR' (by omega),hO]
    obtain⟨G,hG⟩:∃G:Nat -> Int,∀x,G x=dk[x]! :=⟨fun x=>dk[x]!,fun _=>rfl⟩;have HT1:Hid (Ts kK tK g off c0 w0 dk ((w.heap.size,.cells #[.int .u64 (R':Int)] 349 (0,0))::X) ((wr.setCell ⟨w.heap.size,0,none⟩ (.int .u64 (R':Int))).drewN 3)):=(hT.xset 0 (.int .u64 (R':Int))).drewN 3;have hNext:=uh (QG w.heap.size R lR wr (by simpa using hT.xcell (d_ ..) 0) (hT.xfree (d_ ..) 0));rw[←hR']at hNext;have HT:=uh hT;have HG:=uh hG;have HP:=uh hP;clear hG hT hP hR' hO
    go_wp2_with fail
    · refine hNext.out.mono ?_
      rintro e w' ⟨rfl,hw⟩;rw[←hw]at HT1;clear hw hNext HT;have hcw:∀x,x<d.size -> w'.cell? ⟨g,off+x,none⟩=some (.int kK (G x)):=fun x hx=>by rw[HG.out];exact HT1.out.cell x (by omega)
      have hfw:∀x,x<d.size -> w'.frozen? ⟨g,off+x,none⟩=false:=fun x _=>HT1.out.free x
      have SW:=uh (fun(k:Nat) (hk:k<L)=>(And.intro (permIn_trans _ _ _ a (a+L) HP.out (swp_permIn dk a (a+L) (a+L/4*2-1+t) (a+k) (by omega) (by omega) (by omega) (by omega) (by omega)))
       ((HT1.out.drewN 1).swp (a+L/4*2-1+t) (a+k) (by omega) (by omega) (HG.out _) (HG.out _))))
      clear HP HT1
      go_wp2_with fail
      · have hLO:L <= O:=by omega
        by_cases hEq:a+L/4*2-1+t=a+(O-L)
        all_goals
         go_region
         all_goals go_wp2
         go_roundw
         case rel=>exact⟨t+1,R',Sort.swp dk (a+L/4*2-1+t) (a+(O-L)),by first|rfl|(congr 1<;>omega),by omega,lR',(SW.out (O-L) (by omega)).1,by(try rw[hEq]);(try rw[hEq]at SW);exact(SW.out (O-L) (by omega)).2⟩
         case measure=>simp[intOf];omega
      · have hLO:¬L <= O:=by omega
        by_cases hEq:a+L/4*2-1+t=a+O
        all_goals
         go_region
         all_goals go_wp2
         go_roundw
         case rel=>exact⟨t+1,R',Sort.swp dk (a+L/4*2-1+t) (a+O),by first|rfl|(congr 1<;>omega),by omega,lR',(SW.out O (by omega)).1,by(try rw[hEq]);(try rw[hEq]at SW);exact(SW.out O (by omega)).2⟩
         case measure=>simp[intOf];omega
    · obtain rfl:t=3:=by omega
      go_end0;exact⟨rfl,dk,HP.out,HT.out.less (Qm _ X)⟩
 · have HT:=uh hT
   clear hT
   first|go_enter func186,ntmps186|go_enter func261,ntmps261
   go_wp2
   go_end0;exact⟨rfl,d,permIn_refl _ _ _,HT.out⟩):P:=h
theorem Fk {P:Prop}(h:P:=by
 intro n
 induction n with
 | zero=>intro _ _ _ _ _ _ _ _ _ _ _ h;exact absurd h (Jn _)
 | succ n ih=>
  intro g off cap c0 w0 d X a b limit w hN hT hab hb hsz hlimit hBel0;have HT:=uh hT;have HB:=uh hBel0;have IH:=uh ih;clear hT hBel0 ih
  first|go_enter func141,ntmps141|go_enter func248,ntmps248
  go_wp2
  go_loopg [1,2,3,8,9] (b-a) (fun k s1 s2 s3 s8 s9 wr=>∃(a' b' lim:Nat) (wb wp:Bool) (dk:Array Int),s1=.int .i64 a' /\ s2=.int .i64 b' /\ s3=.int .i64 lim /\ s8=.bool wb /\ s9=.bool wp /\
   a' <= b' /\ b' <= d.size /\ b'-a' <= k /\ k <= b-a /\ lim <= limit /\ dk.size=d.size /\ Below ltInt a' b' dk /\ Ts kK tK g off c0 w0 dk X wr /\ RC a b d a' b' dk)
  case atStart=>exact⟨a,b,limit,true,true,d,rfl,rfl,rfl,rfl,rfl,hab,hb,g_ _,g_ _,g_ _,rfl,HB.out,HT.out,RC.refl⟩
  case round=>
   clear HT HB;obtain⟨a',b',lim,wb,wp,dk,rfl,rfl,rfl,rfl,rfl,hab',hb',hk,hkN,hlim,hds,hBel,hT,hF⟩:=hrel;have HF:=uh hF;have HBel:=uh hBel;have HT:=uh hT;clear hF hBel hT
   by_cases h12:b'-a' <= 12
   · have h12z:(b':Int)-(a':Int) <= 12:=O
     have hc:=insK g off cap a' b' c0 w0 dk X wr HT.out hab' O O;rw[hds]at hc;have HC:=uh hc;clear hc HT
     go_wp2_with fail
     refine HC.out.mono ?_;rintro e w1 ⟨rfl,hT1⟩;have HT1:=uh hT1;clear hT1 HC
     go_wp2_with fail
     (try simp only[Exit.inBlock,Exit.then]);refine f_ (Zg rfl _ _ _) rfl ?_
     exact⟨rfl,_,HF.out.ins hab' O,HT1.out⟩
   · have h12z:¬((b':Int)-(a':Int) <= 12):=O
     by_cases hl0:lim=0
     · subst hl0
       have hc:=FF g off cap c0 w0 dk X a' b' wr HT.out hab' O O;rw[hds]at hc;have HC:=uh hc;clear hc HT
       go_wp2_with fail
       refine HC.out.mono ?_;rintro e w1 ⟨rfl,hT1⟩;have HT1:=uh hT1;clear hT1 HC
       go_wp2_with fail
       (try simp only[Exit.inBlock,Exit.then]);refine f_ (Zg rfl _ _ _) rfl ?_
       exact⟨rfl,_,HF.out.heap hab' O,HT1.out⟩
     · have hl0z:¬((lim:Int)=0):=O
       go_upto_if 35 with fail
       go_cut [3]from 19 (fun s3 wc=>∃(lim2:Nat) (d1:Array Int),s3=.int .i64 lim2 /\ lim2 <= lim /\ PermIn a' b' dk d1 /\ Ts kK tK g off c0 w0 d1 X wc)
       case first=>
        cases wb
        · have hc:=gS g off cap a' b' c0 w0 dk X wr HT.out hab' O O
          rw[hds]at hc;have HC:=uh hc;clear hc HT
          go_wp2_with fail
          refine HC.out.mono ?_;rintro e w1 ⟨rfl,d1,hP1,hT1⟩;have HX:=uh (And.intro hP1 hT1);clear hT1 hP1 HC
          go_wp2_with fail
          go_meet
          case rel=>exact⟨lim-1,d1,by congr 1;omega,by omega,HX.out.1,HX.out.2⟩
        · go_wp2_with fail
          go_meet
          case rel=>exact⟨lim,dk,rfl,g_ _,permIn_refl _ _ _,HT.out⟩
       case rest=>
        obtain⟨lim2,d1,rfl,hl2,hP1,hT1⟩:=hcut;have hs1:d1.size=d.size:=hP1.1.trans hds;have hc:=g8 g off cap a' b' c0 w0 d1 X wc hT1 O O O;rw[hs1]at hc;have HC:=uh hc;have HP1:=uh hP1;clear hc hT1 HT hP1
        go_upto_if 50 with((first|go_at_call 187|go_at_call 262);refine HC.out.mono ?_;rintro e w2 ⟨p,h,rfl,hp1,hp2,hh,hT2⟩;have HT2:=uh hT2;clear hT2)
        clear HC
        go_cut [11,12]from 19 (fun s11 s12 wc=>∃(pv h2:Nat) (d2:Array Int),s11=.int .i64 pv /\ s12=.int .i64 h2 /\ a' <= pv /\ pv<b' /\ PermIn a' b' dk d2 /\ Ts kK tK g off c0 w0 d2 X wc)
        case first=>
         by_cases h2:h=2
         · subst h2
           have hc:=g2 g off cap c0 w0 d1 X a' b' w2 HT2.out hab' O O;rw[hs1]at hc;have HC:=uh hc;clear hc HT2
           go_wp2_with fail
           refine HC.out.mono ?_;rintro e w3 ⟨rfl,d2,hP2,hT3⟩;have HX:=uh (And.intro (permIn_trans _ _ _ a' b' HP1.out hP2) hT3);clear hT3 hP2 HC
           go_wp2_with fail
           go_meet
           case rel=>exact⟨(b'-1)-(p-a'),1,d2,by congr 1;omega,rfl,by omega,by omega,HX.out.1,HX.out.2⟩
         · have h2z:¬((h:Int)=2):=O
           go_wp2_with fail
           go_meet
           case rel=>exact⟨p,h,d1,rfl,rfl,hp1,hp2,HP1.out,HT2.out⟩
        case rest=>
         obtain⟨pv,h2,d2,rfl,rfl,hv1,hv2,hP2,hT3⟩:=hcut;have hs2:d2.size=d.size:=hP2.1.trans hds;have HP2:=uh hP2;have HT3:=uh hT3;clear hP2 hT3 HP1 HT2 hp1 hp2 hh
         go_upto_region 15 with fail
         go_cut [68]from 19 (fun s68 wx=>∃t:Bool,s68=.bool t /\ wx=wc)
         case first=>
          by_cases h3:h2=1
          · subst h3
            cases wb<;>cases wp<;>
             (go_wp2_with fail
              go_meet
              exact⟨_,rfl,rfl⟩)
          · have h3z:((h2:Int) == 1)=false:=by simpa using(by omega:(h2:Int)≠1)
            cases wb<;>cases wp<;>
             (go_wp2_with fail
              go_meet
              exact⟨_,rfl,rfl⟩)
         case rest=>
          obtain⟨t,rfl,rfl⟩:=hcut
          go_upto_if 68 with fail
          go_cut []from 19 (fun wx=>∃d3,PermIn a' b' dk d3 /\ Ts kK tK g off c0 w0 d3 X wx)
          case first=>
           cases t
           · go_wp2_with fail
             go_meet
             case rel=>exact⟨d2,HP2.out,HT3.out⟩
           · have hc:=gm g off cap a' b' c0 w0 d2 X wc HT3.out O O O (HBel.out.perm O HP2.out)
             rw[hs2]at hc;have HC:=uh hc;clear hc HT3
             go_wp2_with fail
             refine HC.out.mono ?_;rintro e w4 ⟨r,d3,rfl,hP3,hS3,hT4⟩;have HX:=uh (And.intro (permIn_trans _ _ _ a' b' HP2.out hP3) hT4);clear hT4 hP3 HC
             cases r
             · clear hS3
               go_wp2_with fail
               go_meet
               case rel=>exact⟨d3,HX.out.1,HX.out.2⟩
             · have HS:=uh (HF.out d3 HX.out.1 (hS3 rfl))
               clear hS3
               go_wp2_with fail
               (try simp only[Exit.inBlock,Exit.then]);refine f_ (Zg rfl _ _ _) rfl ?_
               exact⟨rfl,d3,HS.out,HX.out.2⟩
          case rest=>
           obtain⟨d3,hP3,hT5⟩:=hcut;have hs3:d3.size=d.size:=hP3.1.trans hds;obtain⟨G,hG⟩:∃G:Nat -> Int,∀t,G t=d3[t]! :=⟨fun t=>d3[t]!,fun _=>rfl⟩;have hcw:∀t,t<d.size -> wc.cell? ⟨g,off+t,none⟩=some (.int kK (G t)):=fun t ht=>by rw[hG];exact hT5.cell t O
           have hfw:∀t,t<d.size -> wc.frozen? ⟨g,off+t,none⟩=false:=fun t _=>hT5.free t;have HG:=uh hG;have HB3:=uh (HBel.out.perm O hP3);have HF3:=uh (HF.out.perm hP3);have HT5:=uh hT5;clear hG hP3 hT5 HT3 HP2 HBel HF
           go_upto_region 17 with fail
           go_cut [87]from 19 (fun s87 wx=>s87=.bool (decide (a' > 0) && !ltInt (G (a'-1)) (G pv)) /\ Ts kK tK g off c0 w0 d3 X wx)
           case first=>
            rcases Nat.eq_zero_or_pos a' with ha0|ha0
            · have ha0z:decide ((a':Int) > 0)=false:=b_ O
              go_big_quiet (first|((first|go_at_call 190|go_at_call 265);refine Calls.quiet_of_same (lessK _ _ _)))
              go_wp2_with fail
              go_meet
              case rel=>exact⟨by simp[ha0],HT5.out.drewN nq⟩
            · have ha0z:(a':Int) > 0:=O
              go_big_quiet (first|((first|go_at_call 190|go_at_call 265);refine Calls.quiet_of_same (lessK _ _ _)))
              go_wp2_with fail
              go_meet
              case rel=>exact⟨by simp[ha0],HT5.out.drewN nq⟩
           case rest=>
            obtain⟨rfl,hT6⟩:=hcut;clear hcw hfw HT5
            cases h87:(decide (a' > 0) && !ltInt (G (a'-1)) (G pv))
            · obtain⟨mid,ap,d4,hx⟩:∃mid ap d4,partition ltInt d3 a' b' pv=(mid,ap,d4):=⟨(partition ltInt d3 a' b' pv).1,(partition ltInt d3 a' b' pv).2.1,(partition ltInt d3 a' b' pv).2.2,rfl⟩
              obtain⟨r1,r2,r3,r4,r5,r6,r7⟩:=round_part QV (partition_holds ltInt) hv1 hv2 (show b' <= d3.size by omega) HB3.out hx;have hc:=Fz g off cap c0 w0 d3 X a' b' pv wc hT6 hv1 hv2 O O;rw[hs3,hx]at hc;have HC:=uh hc;have R4:=uh r4;have R5:=uh r5;have R6:=uh r6;have R7:=uh r7;clear hc hT6 hx r4 r5 r6 r7
              go_upto_if 113 with((first|go_at_call 192|go_at_call 267);refine HC.out.mono ?_;rintro e w7 ⟨rfl,hT7⟩;have HT7:=uh hT7;clear hT7)
              clear HC;have hs4:d4.size=d.size:=r3.trans hs3
              by_cases h4:mid-a'<b'-mid
              · have h4z:(mid:Int)-(a':Int)<(b':Int)-(mid:Int):=O
                have hc:=IH.out g off cap c0 w0 d4 X a' mid lim2 w7 O HT7.out O O O O R4.out;rw[hs4]at hc;have HC:=uh hc;clear hc HT7
                go_wp2_with fail
                refine HC.out.mono ?_;rintro e w8 ⟨rfl,L,⟨pL,sL⟩,hT8⟩;have HX:=uh (R6.out L pL sL);have hsL:L.size=d.size:=pL.1.trans hs4;have HT8:=uh hT8;clear hT8 HC pL sL R6 R7 R5 R4
                go_wp2_with fail
                go_roundg (b'-(mid+1))
                case measure=>omega
                case rel=>exact⟨mid+1,b',lim2,decide (mid-a' ≥ (b'-a')/8),ap,L,by simp,rfl,rfl,Qu Value.bool (De O O),rfl,by omega,by omega,g_ _,by omega,by omega,hsL,HX.out.1,HT8.out,HF3.out.step HX.out.2⟩
              · have h4z:¬((mid:Int)-(a':Int)<(b':Int)-(mid:Int)):=O
                have hc:=IH.out g off cap c0 w0 d4 X (mid+1) b' lim2 w7 O HT7.out O O O O R5.out;rw[hs4]at hc;have HC:=uh hc;clear hc HT7
                go_wp2_with fail
                refine HC.out.mono ?_;rintro e w8 ⟨rfl,L,⟨pL,sL⟩,hT8⟩;have HX:=uh (R7.out L pL sL);have hsL:L.size=d.size:=pL.1.trans hs4;have HT8:=uh hT8;clear hT8 HC pL sL R6 R7 R5 R4
                go_wp2_with fail
                go_roundg (mid-a')
                case measure=>omega
                case rel=>exact⟨a',mid,lim2,decide (b'-mid ≥ (b'-a')/8),ap,L,rfl,rfl,rfl,Qu Value.bool (De O O),rfl,by omega,by omega,g_ _,by omega,by omega,hsL,HX.out.1,HT8.out,HF3.out.step HX.out.2⟩
            · have h87':=h87
              simp only[Xn,Zx,Bool.not_eq_true',HG.out]at h87';obtain⟨mid,d4,hx⟩:∃mid d4,partitionEqual ltInt d3 a' b' pv=(mid,d4):=⟨(partitionEqual ltInt d3 a' b' pv).1,(partitionEqual ltInt d3 a' b' pv).2,rfl⟩;obtain⟨r1,r2,r3,r4,r5⟩:=round_eq QV (partitionEqual_holds ltInt) h87'.1 hv1 hv2 (show b' <= d3.size by omega) HB3.out h87'.2 hx;have hc:=ZP g off cap c0 w0 d3 X a' b' pv wc hT6 hv1 hv2 O O;rw[hs3,hx]at hc;have HC:=uh hc;have R4:=uh r4;have R5:=uh r5;clear hc hT6 hx r4 r5 h87'
              go_wp2_with fail
              refine HC.out.mono ?_;rintro e w7 ⟨rfl,hT7⟩;have HT7:=uh hT7;clear hT7 HC
              go_wp2_with fail
              go_roundg (b'-mid)
              case measure=>omega
              case rel=>exact⟨mid,b',lim2,wb,wp,d4,rfl,rfl,rfl,rfl,rfl,r2,hb',g_ _,by omega,by omega,r3.trans hs3,R4.out,HT7.out,HF3.out.step R5.out⟩):P:=h
theorem Fg {P:Prop}(h:P:=by
 have hk:bitsLen d.size <= 62:=(bitsLen_le_iff d.size 62).2 O;have Hb:=uh (fun w=>gW d.size hsz w);have Hp:=uh (gh (d.size+1) g off cap c0 w0 d X 0 d.size (bitsLen d.size) w O hT (u_ _) (g_ _) hsz O (Or.inl rfl));clear hT
 first|go_enter func89,ntmps89|go_enter func217,ntmps217
 go_wp2_with (first
  | (go_at_call 142;refine(Hb.out _).mono ?_;rintro e w' ⟨rfl,hw⟩;rw[hw];clear hw w')
  | fail)
 refine Hp.out.mono ?_;rintro e w1 ⟨rfl,d',hP,hT1⟩;have HX:=uh (And.intro hP hT1);clear hP hT1 Hp Hb
 go_wp2_with fail
 go_end0;exact⟨rfl,d',HX.out.1,HX.out.2⟩):P:=h
theorem Wm {P:Prop}(h:P:=by
 first|go_enter func184,ntmps184|go_enter func259,ntmps259
 go_wp2
 go_loopw [6] (fun v6 wr=>v6=.int .i64 1 /\ wr=w) (fun _ _=>0)
 case atStart=>exact⟨rfl,rfl⟩
 case round=>
  obtain⟨rfl,rfl⟩:=hrel
  go_wp2
  go_end0;exact⟨rfl,rfl⟩):P:=h
theorem Wh {P:Prop}(h:P:=by
 first|go_enter func141,ntmps141|go_enter func248,ntmps248
 go_wp2
 go_loopw [1,2,3,8,9] (fun v1 v2 v3 v8 v9 wr=>v1=.int .i64 0 /\ v2=.int .i64 0 /\ v3=.int .i64 k /\ v8=.bool true /\ v9=.bool true /\ wr=w) (fun _ _ _ _ _ _=>0)
 case atStart=>exact⟨rfl,rfl,rfl,rfl,rfl,rfl⟩
 case round=>
  obtain⟨rfl,rfl,rfl,rfl,rfl,rfl⟩:=hrel
  go_wp2_with (first
   | ((first|go_at_call 184|go_at_call 259);refine(insnilK _).mono ?_;rintro e w' ⟨rfl,hw⟩;rw[hw];clear hw w')
   | fail)
  (try simp only[Exit.inBlock,Exit.then]);refine f_ (Zg rfl _ _ _) rfl ?_
  exact⟨rfl,rfl⟩):P:=h
theorem Wg {P:Prop}(h:P:=by
 have Hb:=uh (fun w=>gW 0 O w)
 first|go_enter func89,ntmps89|go_enter func217,ntmps217
 go_wp2_with (first
  | (go_at_call 142;refine(Hb.out _).mono ?_;rintro e w' ⟨rfl,hw⟩;rw[hw];clear hw w')
  | ((first|go_at_call 141|go_at_call 248);refine(pdqnilK _ _).mono ?_;rintro e w' ⟨rfl,hw⟩;rw[hw];clear hw w')
  | fail)
 go_end0;exact⟨rfl,rfl⟩):P:=h
theorem Fj {P:Prop}(h:P:=by
 have HT0:Hid (Ts kK tK g off c0 w0 d ((w.heap.size,.cells #[.int .i64 ((0:Nat):Int)] 3 (0,0))::X) (w.alloc (.cells #[.int .i64 0] 3))):=hT.alloc _;have c0':(w.alloc (.cells #[.int .i64 0] 3)).cell? ⟨w.heap.size,0,none⟩=some (.int .i64 0):=HT0.out.xcell (d_ ..) 0;clear hT;obtain⟨I,hI⟩:∃I:Nat,I=a+(b-a)/4*1:=⟨_,rfl⟩;obtain⟨J,hJ⟩:∃J:Nat,J=a+(b-a)/4*2:=⟨_,rfl⟩;obtain⟨K,hK⟩:∃K:Nat,K=a+(b-a)/4*3:=⟨_,rfl⟩;have eI:((a:Int)+((b:Int)-(a:Int))/4)=(I:Int):=O;have eJ:((a:Int)+((b:Int)-(a:Int))/4*2)=(J:Int):=O;have eK:((a:Int)+((b:Int)-(a:Int))/4*3)=(K:Int):=O
 by_cases h8:b-a ≥ 8
 · by_cases h50:b-a ≥ 50
   · have hb1:a<I /\ I+1<b /\ a<J /\ J+1<b /\ a<K /\ K+1<b:=O
     obtain⟨b1,b2,b3,b4,b5,b6⟩:=hb1;clear hI hJ hK;have C1:=uh (F3 g off cap _ I 0 c0 w0 d X _ _ HT0.out O O hsz O);clear HT0
     first|go_enter func187,ntmps187|go_enter func262,ntmps262
     go_wp2_with fail
     refine C1.out.mono ?_;rintro _ w1 ⟨i1,s1,rfl,h1,h1',l1,hT1⟩;have C2:=uh (F3 g off cap _ J s1 c0 w0 d X _ _ hT1 O O hsz O);clear hT1 C1 c0'
     go_wp2_with fail
     refine C2.out.mono ?_;rintro _ w2 ⟨j1,s2,rfl,h2,h2',l2,hT2⟩;have C3:=uh (F3 g off cap _ K s2 c0 w0 d X _ _ hT2 O O hsz O);clear hT2 C2
     go_wp2_with fail
     refine C3.out.mono ?_;rintro _ w3 ⟨k1,s3,rfl,h3,h3',l3,hT3⟩;have C4:=uh (Ez g off cap _ i1 j1 k1 s3 c0 w0 d X _ _ hT3 O O O O);clear hT3 C3
     go_wp2_with fail
     refine C4.out.mono ?_;rintro _ w4 ⟨p,s,rfl,h4,l4,hT4⟩;have cs:w4.cell? ⟨w.heap.size,0,none⟩=some (.int .i64 s):=(by simpa using hT4.xcell (d_ ..) 0);have hp:a <= p /\ p<b:=O;have HT4:=uh (hT4.less (Qm _ X));clear hT4 C4 eI eJ eK h1 h1' h2 h2' h3 h3' h4
     go_wp2_with fail
     all_goals
      go_ret2
      first
       | exact⟨p,1,rfl,hp.1,hp.2,by omega,HT4.out⟩
       | exact⟨p,2,rfl,hp.1,hp.2,by omega,HT4.out⟩
       | exact⟨p,0,rfl,hp.1,hp.2,by omega,HT4.out⟩
   · have hb1:a <= I /\ I<b /\ a <= J /\ J<b /\ a <= K /\ K<b:=O
     obtain⟨b1,b2,b3,b4,b5,b6⟩:=hb1;clear hI hJ hK;have C4:=uh (Ez g off cap _ I J K 0 c0 w0 d X _ _ HT0.out O O O O);clear HT0
     first|go_enter func187,ntmps187|go_enter func262,ntmps262
     go_wp2_with fail
     refine C4.out.mono ?_;rintro _ w4 ⟨p,s,rfl,h4,l4,hT4⟩;have cs:w4.cell? ⟨w.heap.size,0,none⟩=some (.int .i64 s):=(by simpa using hT4.xcell (d_ ..) 0);have hp:a <= p /\ p<b:=O;have HT4:=uh (hT4.less (Qm _ X));clear hT4 C4 eI eJ eK h4 c0'
     go_wp2_with fail
     all_goals
      go_ret2
      first
       | exact⟨p,1,rfl,hp.1,hp.2,by omega,HT4.out⟩
       | exact⟨p,2,rfl,hp.1,hp.2,by omega,HT4.out⟩
       | exact⟨p,0,rfl,hp.1,hp.2,by omega,HT4.out⟩
 · have HT4:=uh (HT0.out.less (Qm _ X))
   have hp:a <= J /\ J<b:=O;clear HT0 hI hJ hK
   first|go_enter func187,ntmps187|go_enter func262,ntmps262
   go_wp2_with fail
   go_ret2;exact⟨J,1,rfl,hp.1,hp.2,by omega,HT4.out⟩):P:=h
namespace q8
abbrev kK:IntKind:=.u8
abbrev tK:TypeId:=5
theorem gy (x:Int)(w:World):Calls prog 231 #[.int .u8 x] w fun e w'=>e=.returned (.bool false) /\ w'=w:=Fn
theorem lessK (x y:Int)(w:World):Calls prog 190 #[.int .u8 x,.int .u8 y] w fun e w'=>e=.returned (.bool (ltInt x y)) /\ w'=w:=Cb
theorem insK (g off cap a b:Nat)(c0:Array Value)(w0:World)(d:Array Int)(X:List Blk)(w:World)(hT:Ts .u8 5 g off c0 w0 d X w)(hab:a <= b)(hb:b <= d.size)(hsz:d.size<4611686018427387904):
  Calls prog 184 #[.slice (some ⟨g,off,none⟩) d.size cap,.int .i64 a,.int .i64 b] w fun e w'=>e=.returned (.tuple #[]) /\ Ts .u8 5 g off c0 w0 (insertionSort ltInt d a b) X w':=Fq
end q8
abbrev jU:= @q8.lessK
abbrev kd:= @q8.insK
namespace q8
theorem BY (g off cap:Nat)(c0:Array Value)(w0:World)(d:Array Int)(len:Nat)(hlen:d.size=len)(X:List Blk)(lo hi first:Nat)(w:World)(hT:Ts .u8 5 g off c0 w0 d X w)(hlo:lo <= hi)(hb:first+hi <= d.size)(hsz:d.size<4611686018427387904):
  Calls prog 226 #[.slice (some ⟨g,off,none⟩) len cap,.int .i64 lo,.int .i64 hi,.int .i64 first] w fun e w'=>e=.returned (.tuple #[]) /\ Ts .u8 5 g off c0 w0 (siftDown ltInt hi first lo d) X w':=C7
theorem FF (g off cap:Nat)(c0:Array Value)(w0:World)(d:Array Int)(X:List Blk)(a b:Nat)(w:World)(hT:Ts .u8 5 g off c0 w0 d X w)(hab:a <= b)(hb:b <= d.size)(hsz:d.size<4611686018427387904):
  Calls prog 185 #[.slice (some ⟨g,off,none⟩) d.size cap,.int .i64 a,.int .i64 b] w fun e w'=>e=.returned (.tuple #[]) /\ Ts .u8 5 g off c0 w0 (heapSort ltInt d a b) X w':=Cc
theorem g2 (g off cap:Nat)(c0:Array Value)(w0:World)(d:Array Int)(X:List Blk)(a b:Nat)(w:World)(hT:Ts .u8 5 g off c0 w0 d X w)(hab:a <= b)(hb:b <= d.size)(hsz:d.size<4611686018427387904):
  Calls prog 188 #[.slice (some ⟨g,off,none⟩) d.size cap,.int .i64 a,.int .i64 b] w fun e w'=>e=.returned (.tuple #[]) /\ ∃d',PermIn a b d d' /\ Ts .u8 5 g off c0 w0 d' X w':=Fh
end q8
namespace q8
theorem ZP (g off cap:Nat)(c0:Array Value)(w0:World)(d:Array Int)(X:List Blk)(a b pivot:Nat)(w:World)(hT:Ts .u8 5 g off c0 w0 d X w)(hap:a <= pivot)(hpb:pivot<b)(hb:b <= d.size)(hsz:d.size<4611686018427387904):
  Calls prog 191 #[.slice (some ⟨g,off,none⟩) d.size cap,.int .i64 a,.int .i64 b,.int .i64 pivot] w fun e w'=>e=.returned (.int .i64 (partitionEqual ltInt d a b pivot).1) /\ Ts .u8 5 g off c0 w0 (partitionEqual ltInt d a b pivot).2 X w':=Wk
theorem Fz (g off cap:Nat)(c0:Array Value)(w0:World)(d:Array Int)(X:List Blk)(a b pivot:Nat)(w:World)(hT:Ts .u8 5 g off c0 w0 d X w)(hap:a <= pivot)(hpb:pivot<b)(hb:b <= d.size)(hsz:d.size<4611686018427387904):
  Calls prog 192 #[.slice (some ⟨g,off,none⟩) d.size cap,.int .i64 a,.int .i64 b,.int .i64 pivot] w fun e w'=>e=.returned (.tuple #[.int .i64 (partition ltInt d a b pivot).1,.bool (partition ltInt d a b pivot).2.1]) /\ Ts .u8 5 g off c0 w0 (partition ltInt d a b pivot).2.2 X w':=C9
end q8
namespace q8
theorem ZQ (g off cap sb a b s:Nat)(c0:Array Value)(w0:World)(d:Array Int)(X:List Blk)(t:TypeId)(w:World)(hT:Ts .u8 5 g off c0 w0 d ((sb,.cells #[.int .i64 s] t (0,0))::X) w)(ha:a<d.size)(hb:b<d.size)(hs:s<4611686018427387904):
  Calls prog 251 #[.slice (some ⟨g,off,none⟩) d.size cap,.int .i64 a,.int .i64 b,pt sb] w fun e w'=>∃x y s':Nat,e=.returned (.tuple #[.int .i64 x,.int .i64 y]) /\ (x=a /\ y=b∨x=b /\ y=a) /\ s' <= s+1 /\ Ts .u8 5 g off c0 w0 d ((sb,.cells #[.int .i64 s'] t (0,0))::X) w':=Ca
theorem Ez (g off cap sb a b c s:Nat)(c0:Array Value)(w0:World)(d:Array Int)(X:List Blk)(t:TypeId)(w:World)(hT:Ts .u8 5 g off c0 w0 d ((sb,.cells #[.int .i64 s] t (0,0))::X) w)(ha:a<d.size)(hb:b<d.size)(hc:c<d.size)(hs:s+3<4611686018427387904):
  Calls prog 230 #[.slice (some ⟨g,off,none⟩) d.size cap,.int .i64 a,.int .i64 b,.int .i64 c,pt sb] w fun e w'=>∃x s':Nat,e=.returned (.int .i64 x) /\ (x=a∨x=b∨x=c) /\ s' <= s+3 /\ Ts .u8 5 g off c0 w0 d ((sb,.cells #[.int .i64 s'] t (0,0))::X) w':=Fp
theorem F3 (g off cap sb a s:Nat)(c0:Array Value)(w0:World)(d:Array Int)(X:List Blk)(t:TypeId)(w:World)(hT:Ts .u8 5 g off c0 w0 d ((sb,.cells #[.int .i64 s] t (0,0))::X) w)(ha:1 <= a)(hb:a+1<d.size)(hsz:d.size<4611686018427387904)(hs:s+3<4611686018427387904):
  Calls prog 229 #[.slice (some ⟨g,off,none⟩) d.size cap,.int .i64 a,pt sb] w fun e w'=>∃x s':Nat,e=.returned (.int .i64 x) /\ a-1 <= x /\ x <= a+1 /\ s' <= s+3 /\ Ts .u8 5 g off c0 w0 d ((sb,.cells #[.int .i64 s'] t (0,0))::X) w':=Fu
end q8
namespace q8
theorem g8 (g off cap a b:Nat)(c0:Array Value)(w0:World)(d:Array Int)(X:List Blk)(w:World)(hT:Ts .u8 5 g off c0 w0 d X w)(hab:a<b)(hb:b <= d.size)(hsz:d.size<4611686018427387904):
  Calls prog 187 #[.slice (some ⟨g,off,none⟩) d.size cap,.int .i64 a,.int .i64 b] w fun e w'=>∃p h:Nat,e=.returned (.tuple #[.int .i64 p,.int .i64 h]) /\ a <= p /\ p<b /\ h <= 2 /\ Ts .u8 5 g off c0 w0 d X w':=Fj
end q8
namespace q8
theorem Fy (g off cap a b:Nat)(c0:Array Value)(w0:World)(d:Array Int)(X:List Blk)(w:World)(hT:Ts .u8 5 g off c0 w0 d X w)(hab:a<b)(hb:b <= d.size)(hsz:d.size<4611686018427387904):
  Calls prog 189 #[.slice (some ⟨g,off,none⟩) d.size cap,.int .i64 a,.int .i64 b] w fun e w'=>e=.returned (.bool (partialInsertionSort ltInt d a b).2) /\ Ts .u8 5 g off c0 w0 (partialInsertionSort ltInt d a b).1 X w':=C8
theorem gm (g off cap a b:Nat)(c0:Array Value)(w0:World)(d:Array Int)(X:List Blk)(w:World)(hT:Ts .u8 5 g off c0 w0 d X w)(hab:a<b)(hb:b <= d.size)(hsz:d.size<4611686018427387904)(hB:Below ltInt a b d):
  Calls prog 189 #[.slice (some ⟨g,off,none⟩) d.size cap,.int .i64 a,.int .i64 b] w fun e w'=>∃(r:Bool) (d':Array Int),e=.returned (.bool r) /\ PermIn a b d d' /\ (r=true -> SortedIn ltInt a b d') /\ Ts .u8 5 g off c0 w0 d' X w':=Fm
end q8
namespace q8
theorem gS (g off cap a b:Nat)(c0:Array Value)(w0:World)(d:Array Int)(X:List Blk)(w:World)(hT:Ts .u8 5 g off c0 w0 d X w)(hab:a <= b)(hb:b <= d.size)(hsz:d.size<4611686018427387904):
  Calls prog 186 #[.slice (some ⟨g,off,none⟩) d.size cap,.int .i64 a,.int .i64 b] w fun e w'=>e=.returned (.tuple #[]) /\ ∃d',PermIn a b d d' /\ Ts .u8 5 g off c0 w0 d' X w':=Fs
end q8
namespace q8
theorem gh:∀(n g off cap:Nat) (c0:Array Value) (w0:World) (d:Array Int) (X:List Blk) (a b limit:Nat) (w:World),b-a<n -> Ts .u8 5 g off c0 w0 d X w -> a <= b -> b <= d.size -> d.size<4611686018427387904 -> limit<4611686018427387904 -> Below ltInt a b d ->
  Calls prog 141 #[.slice (some ⟨g,off,none⟩) d.size cap,.int .i64 a,.int .i64 b,.int .i64 limit] w fun e w'=>e=.returned (.tuple #[]) /\ ∃d',(PermIn a b d d' /\ SortedIn ltInt a b d') /\ Ts .u8 5 g off c0 w0 d' X w':=Fk
end q8
namespace q8
theorem srtK (g off cap:Nat)(c0:Array Value)(w0:World)(d:Array Int)(X:List Blk)(w:World)(hT:Ts .u8 5 g off c0 w0 d X w)(hsz:d.size<4611686018427387904):
  Calls prog 89 #[.slice (some ⟨g,off,none⟩) d.size cap] w fun e w'=>e=.returned (.tuple #[]) /\ ∃d',(PermIn 0 d.size d d' /\ SortedIn ltInt 0 d.size d') /\ Ts .u8 5 g off c0 w0 d' X w':=Fg
theorem insnilK (w:World):Calls prog 184 #[.slice none 0 0,.int .i64 0,.int .i64 0] w fun e w'=>e=.returned (.tuple #[]) /\ w'=w:=Wm
theorem pdqnilK (k:Int)(w:World):Calls prog 141 #[.slice none 0 0,.int .i64 0,.int .i64 0,.int .i64 k] w fun e w'=>e=.returned (.tuple #[]) /\ w'=w:=Wh
theorem srtnilK (w:World):Calls prog 89 #[.slice none 0 0] w fun e w'=>e=.returned (.tuple #[]) /\ w'=w:=Wg
end q8
abbrev jt:= @q8.srtK
abbrev jd:= @q8.insnilK
abbrev j9:= @q8.pdqnilK
abbrev Eg:= @q8.srtnilK
end
section
open Go Go.RowKit Go.IntWalk
def J0 (xs:List Nat):Nat -> List Nat
 | 0=>[]
 | k+1=>J0 xs k++if k≠0 /\ xs.getD (k-1) 0=xs.getD k 0 then []else [xs.getD k 0]
theorem TR (xs:List Nat):∀k,(J0 xs k).length <= k
 | 0=>g_ _
 | k+1=>by
  have:=TR xs k;unfold J0;rw[e_]
  split
  ·simp;omega
  ·simp;omega
theorem UQ {xs:List Nat}{k:Nat}(r:k≠0)(h:xs.getD (k-1) 0=xs.getD k 0):J0 xs (k+1)=J0 xs k:=by
 rw[J0,v_ ⟨r,h⟩,p_]
theorem TN {xs:List Nat}{k:Nat}(h:xs.getD (k-1) 0≠xs.getD k 0):J0 xs (k+1)=J0 xs k++[xs.getD k 0]:=by
 rw[J0,y_ fun h2=>h h2.2]
theorem Dk (xs:List Nat):J0 xs 1=[xs.getD 0 0]:=by simp[J0]
theorem RP {xs:List Nat}{k:Nat}(h:k<xs.length):xs.take (k+1)=xs.take k++[xs.getD k 0]:=by
 rw[List.take_succ_eq_append_getElem h,M_,a_ h]
 rfl
theorem SH {xs:List Nat}{k:Nat}(h:k<xs.length):xs[k]?= some (xs.getD k 0):=by
 rw[M_,a_ h]
 rfl
theorem gP (g cap:Nat)(xs:List Nat)(E:Array Value)(w:World)(hn:0<xs.length)(aC:xs.length <= cap)(ah:xs.length <= E.size)(aB:xs.length<4611686018427387904)(hc:∀j,j<xs.length -> E[j]?= some (yV (xs.getD j 0)))(hH:Has w [(g,.cells E 5 (0,0))]):
  Calls prog 90 #[.slice (some (aD g 0)) xs.length cap] w fun e w'=>∃c:Array Value,e=.returned (.slice (some (aD g 0)) (J0 xs xs.length).length cap) /\ (∀(j v:Nat),(J0 xs xs.length)[j]?= some v -> c[j]?= some (yV (v:Nat))) /\ Turn [(g,.cells E 5 (0,0))] w [(g,.cells c 5 (0,0))] w':=by
 obtain⟨n,ak⟩:∃n,xs.length=n:=⟨_,rfl⟩;have aG:=uh ak
 have a8:=uh (fun(h:J0 xs n=xs.take n)=>(⟨by rw[h,Qh,ak,Nat.min_self],fun j v J=>by
  rw[h]at J;have h2:j<n:=by have:=(m_.1 J).1;rw[Qh]at this;omega
  rw[Xr h2,SH O]at J;rw[hc j O]
  cases J
  rfl⟩:(J0 xs n).length=n /\ ∀(j v:Nat),(J0 xs n)[j]?= some v -> E[j]?= some (yV (v:Nat))))
 have av:=uh (fun(k:Nat) (hk:k <= n) (j v:Nat) (J:(xs.take k)[j]?= some v)=>(by
  have h2:j<k:=by have:=(m_.1 J).1;rw[Qh]at this;omega
  rw[Xr h2,SH O]at J;rw[hc j O]
  cases J
  rfl:E[j]?= some (yV (v:Nat))))
 have a1:=uh (fun r (h:xs.getD r 0≠xs.getD (r+1) 0)=>TN (xs:=xs) (k:=r+1) h);have am:=uh (fun(k:Nat) (hk:k <= n)=>(by rw[Qh];omega:(xs.take k).length=k));have a9:=uh (fun k (hk:k<n) (h:J0 xs k=xs.take k) (Z:xs.getD (k-1) 0≠xs.getD k 0)=>(by rw[TN Z,h,RP O]:J0 xs (k+1)=xs.take (k+1)));have a0:=uh (fun r (h:xs.getD r 0=xs.getD (r+1) 0)=>UQ (xs:=xs) (k:=r+1) O h);have a3:=uh (by rw[Dk,RP O,List.take_zero];rfl:J0 xs 1=xs.take 1);rw[ak]at hn aC ah aB hc ⊢;obtain⟨G,hG⟩:∃G:Nat -> Nat,∀j,xs.getD j 0=G j:=⟨_,fun _=>rfl⟩;simp only[hG]at a9 a0 a1 hc;have HG:=uh hG;clear hG
 by_cases h2:n<2
 · obtain rfl:n=1:=O
   have HX:=uh (And.intro (a8.out a3.out) (r_ hH));clear hc hH ah
   go_enter func90,ntmps90
   go_wp2
   go_ret;exact⟨E,by rw[HX.out.1.1];rfl,HX.out.1.2,HX.out.2⟩
 · have aH:¬(n:Int)<2:=O
   have hz:∀w,(zeroValue 5).run prog w=.ok (yV 0) w:=fun _=>by kernel_rfl
   have HF:=uh (fun(w':World) (c:Array Value) (V:Turn [(g,.cells E 5 (0,0))] w [(g,.cells c 5 (0,0))] w') (j:Nat)=>V.has.cell (d_ ..) j)
   have HC:=uh (fun(w':World) (c:Array Value) (m:Nat) (hm:m<n) (aa:n <= c.size) (V:Turn [(g,.cells E 5 (0,0))] w [(g,.cells c 5 (0,0))] w')=>(by
    obtain⟨vs,h1,h2⟩:=Uc (P:=prog) w' 32 5 0 _ underlying32 hz (by simp[Value.cells,Value.oneCell']) g m (n-m) (cap-m) O (V.has.there (b:=g) (c:=c) (e:=5) (by simp) _ _ (by simp[Value.cells];omega));exact⟨vs,by simpa [Value.cells]using h1,fun ty=>h2⟩:∃vs:List Value,vs.length=n-m /\ ∀ty,(Builtin.clear_ #[32] ty #[.slice (some (aD g m)) (n-m) (cap-m)]).run prog w'=.ok (.tuple #[]) (w'.setCells g m vs)))
   have HT:=uh (r_ hH);have Hc:=uh hc;clear hc hH hz
   go_enter func90,ntmps90
   go_wp2
   go_loopw [3] (fun v3 wr=>∃k:Nat,v3=iV k /\ 1 <= k /\ k <= n /\ J0 xs k=xs.take k /\ Turn [(g,.cells E 5 (0,0))] w [(g,.cells E 5 (0,0))] wr) (fun v3 _=>n-(intOf v3).toNat)
   case atStart=>exact⟨1,rfl,g_ _,by omega,a3.out,HT.out⟩
   case round=>
    clear HT a3;obtain⟨k,rfl,aL,aM,an,N⟩:=hrel;have ac:=uh an;clear an
    by_cases ap:k<n
    · have aF:(k:Int)<(n:Int):=O
      have r1:wr.cell? (aD g k)=some (yV (G k)):=(by rw[HF.out wr E N k,Hc.out k ap]);obtain⟨r,rfl⟩:∃r,k=r+1:=⟨k-1,by omega⟩;have r2:wr.cell? (aD g r)=some (yV (G r)):=(by rw[HF.out wr E N r,Hc.out r O]);have a4:=uh N;have aq:((r+1:Nat):Int)-1=(r:Int):=O;clear N
      by_cases ab:G r=G (r+1)
      · have az:(((G (r+1):Nat):Int) == ((G r:Nat):Int))=true:=by rw[Qx];omega
        have aj:=a0.out r ab;rw[ac.out]at aj;have a7:=uh aj;have aJ:¬cap=r+1:=O;clear aj ab
        go_wp2
        go_quiet (fail)
        have a5:=uh (a4.out.drewN nq);clear a4 r1 r2;generalize wr.drewN nq=w1 at*
        go_wp2_with fail
        go_loopw [3,5] (fun v3 v5 wr=>∃(q:Nat) (c:Array Value),v5=iV q /\ v3=iV (J0 xs (r+1+q)).length /\ 1 <= q /\ r+1+q <= n /\ (J0 xs (r+1+q)).length <= r+q /\ n <= c.size /\ (∀(j v:Nat),(J0 xs (r+1+q))[j]?= some v -> c[j]?= some (yV (v:Nat))) /\ (∀j,r+q <= j -> j<n -> c[j]?= some (yV (G j))) /\ Turn [(g,.cells E 5 (0,0))] w [(g,.cells c 5 (0,0))] wr) (fun _ v5 _=>n-(intOf v5).toNat)
        case atStart=>exact⟨1,E,rfl,by rw[a7.out,am.out _ O],g_ _,by omega,by rw[a7.out,am.out _ O];exact g_ _,ah,by rw[a7.out];exact av.out _ O,fun j _ J=>Hc.out j J,a5.out⟩
        case round=>
         clear a5 a7 aq;obtain⟨q,c,rfl,rfl,aR,aS,aP,aa,ag,a2,N⟩:=hrel;obtain⟨y,rfl⟩:∃y,q=y+1:=⟨q-1,by omega⟩;have ae:=uh ag;have af:=uh a2;have a6:=uh N;have ay:=uh (a0.out (r+1+y));have ax:=uh (a1.out (r+1+y));generalize hD:J0 xs (r+1+(y+1))=D at*;have HD:=uh hD
         by_cases aN:r+1+(y+1)<n
         · have l1:(y:Int)+1<((n-(r+1):Nat):Int):=O
           have l2:(y:Int)+1<(n:Int)-((r:Int)+1):=O;have l3:((y+1:Nat):Int)<((n-(r+1):Nat):Int):=O;have r1:wr.cell? (aD g (r+1+(y+1)))=some (yV (G (r+1+(y+1)))):=(by rw[HF.out wr c N];exact a2 _ O O);have r2:wr.cell? (aD g (r+1+y))=some (yV (G (r+1+y))):=(by rw[HF.out wr c N];exact a2 _ O O);have s1:((y+1:Nat):Int)-1=(y:Int):=O;clear N ag a2 hD
           by_cases Z:G (r+1+y)=G (r+1+(y+1))
           · have hb:((((G (r+1+(y+1)):Nat):Int)) != ((G (r+1+y):Nat):Int))=false:=by rw[Xm];omega
             have M:Hid (J0 xs (r+1+(y+1+1))=D):=uh (ay.out Z);clear Z
             go_wp2
             go_quiet (fail)
             have U:=uh (a6.out.drewN nq);clear r1 r2 a6
             go_wp2
             go_roundw
             case rel=>exact⟨y+1+1,c,by go_num,by rw[M.out],by omega,by omega,by rw[M.out];omega,aa,by rw[M.out];exact ae.out,fun j h1 h2=>af.out j O h2,U.out⟩
             case measure=>simp[intOf];omega
           · have hb:((((G (r+1+(y+1)):Nat):Int)) != ((G (r+1+y):Nat):Int))=true:=by rw[Qe];omega
             have M:Hid (J0 xs (r+1+(y+1+1))=D++[G (r+1+(y+1))]):=uh (ax.out Z);clear Z
             go_wp2
             go_quiet (fail)
             have U:=uh (a6.out.drewN nq);clear r2 a6;obtain⟨u,hu⟩:∃u,c[D.length]?= some u:=⟨c[D.length]'O,Ye _⟩;have p1:(wr.drewN nq).cell? (aD g D.length)=some u:=(by rw[HF.out _ c U.out,hu]);have p2:=U.out.free1 D.length;have r1:(wr.drewN nq).cell? (aD g (r+1+(y+1)))=some (yV (G (r+1+(y+1)))):=(by rw[HF.out _ c U.out];exact af.out _ O O);generalize wr.drewN nq=w4 at*;have au:=uh (U.out.setCell D.length (yV (G (r+1+(y+1)))))
             go_wp2
             go_roundw
             case rel=>
              refine⟨y+1+1,_,by go_num,by rw[M.out];simp,by omega,by omega,by rw[M.out];simp;omega,by simpa using aa,?_,?_,au.out⟩
              · intro j v J
                rw[M.out]at J
                by_cases aA:j<D.length
                · rw[Qz aA]at J
                  rw[Jg O];exact ae.out j v J
                · rw[Qg O]at J
                  obtain rfl:j=D.length:=by
                   have:=(m_.1 J).1;simp at this;omega
                  rw[Jc]at J
                  cases J
                  rw[Array.getElem?_setIfInBounds_self_of_lt O]
              · intro j h1 h2
                rw[Jg O];exact af.out j O h2
             case measure=>simp[intOf];omega
         · obtain rfl:n=r+1+(y+1):=O
           have l1:¬(y:Int)+1<((r+1+(y+1)-(r+1):Nat):Int):=O;obtain⟨vs,aT,aE⟩:=HC.out wr c D.length O aa N;have U:=uh (Turn.setCells vs D.length c _ N);have aK:¬cap=D.length:=O;clear N ag a2 hD
           go_wp2
           go_ret
           exact⟨by rw[HD.out];rfl,J8 c D.length vs,fun j v J=>by
            rw[HD.out]at J;rw[Lb _ _ _ _ (.inl (m_.1 J).1)];exact ae.out j v J,U.out⟩
      · have az:(((G (r+1):Nat):Int) == ((G r:Nat):Int))=false:=by rw[j_];omega
        have M:=uh (a9.out (r+1) ap ac.out ab);clear ab
        go_wp2
        go_quiet (fail)
        have a5:=uh (a4.out.drewN nq);clear a4 r1 r2
        go_wp2
        go_roundw
        case rel=>exact⟨r+1+1,by go_num,by omega,by omega,M.out,a5.out⟩
        case measure=>simp[intOf];omega
    · obtain rfl:k=n:=O
      have HX:=uh (And.intro (a8.out ac.out) N);have aQ:¬(k:Int)<(k:Int):=O;clear N
      go_wp2
      go_ret;exact⟨by rw[HX.out.1.1];rfl,E,HX.out.1.2,HX.out.2⟩
def Gf (l:List Nat):List Value:=l.map fun n=>uV (n:Nat)
theorem G8 (l:List Nat):(Gf l).length=l.length:=by simp[Gf]
theorem JL {l:List Nat}{i v:Nat}(h:l[i]?= some v):(Gf l)[i]?= some (uV v):=by unfold Gf;rw[G_,h];rfl
def Jz (f:Nat)(e:TypeId)(p:Option Addr)(w:World)(xs:List Nat):Prop:=∀w',Below w.heap.size w w' -> Calls prog f #[.pointer p] w' fun en w2=>∃ao cap l,en=.returned (.slice ao xs.length cap) /\ Gh e 1 ao xs.length cap (Gf xs) l /\ Turn [] w' l w2
theorem Jz.below {f:Nat}{e:TypeId}{p:Option Addr}{w w':World}{xs:List Nat}(h:Jz f e p w xs)(r:Below w.heap.size w w'):Jz f e p w' xs:=fun E y=>h E (r.trans (y.mono r.size))
theorem Z2 (w:World)(sb a aw tb bb:Nat){W B:List Nat}(bo:Option Addr)(J:Nat)(Z:Option Addr)(N:Nat)(L:List Ty)(cs:List Ce)(hA:SbAt w sb a aw tb bb W B bo J Z N L)(hI:SdIn L W B cs)(bs:Nat)(a1:w.cell? (aD bs 0)=some (pt sb))(v:Nat)(hv:v<18446744073709551616):
  Calls prog 56 #[uV v,pt bs] w fun e w'=>e=.returned (.bool (JJ cs v)) /\ Below w.heap.size w w':=by
 have U:=(r_ (C_ w)).alloc (.cells #[uV v] 36);have Hp:=uh (gU _ sb a aw tb bb bo J Z N L cs (hA.below U.below) hI v w.heap.size hv (U.cell1 0));have HB:=uh U.below;clear hA hI U
 go_enter func56,ntmps56
 go_wp2_with fail
 refine Hp.out.mono ?_;rintro e w1 ⟨ao,n,cap,ec,rfl,r,V⟩;have E:=uh (HB.out.trans (V.mono HB.out.size));clear V HB Hp
 by_cases he:ec=0
 · subst he
   by_cases y:0<n
   · have a0:(0:Int)<(n:Int):=O
     have G:=uh (r.1 ⟨rfl,y⟩);have HN:=uh y;clear r y
     go_wp2_with fail
     go_ret;exact⟨by rw[G.out];show Ending.returned (Value.bool (decide (0<n)))=_;rw[k_ HN.out],E.out⟩
   · have a0:¬(0:Int)<(n:Int):=O
     have M:JJ cs v=false:=Jf.2 (fun h=>y (r.2 h).2);have G:=uh M;have HN:=uh y;clear r y M
     go_wp2_with fail
     go_ret;exact⟨by rw[G.out];show Ending.returned (Value.bool (decide (0<n)))=_;rw[b_ HN.out],E.out⟩
 · have M:JJ cs v=false:=Jf.2 (fun h=>he (r.2 h).1)
   have G:=uh M;clear r M
   go_wp2_with fail
   go_ret;exact⟨by rw[G.out];rfl,E.out⟩
def GK (k:Nat)(cs:List Ce)(l:List (Nat×Nat)):List Br:=(l.filter fun x=> !JJ cs x.2).map fun x=>(k,0,0,x.1,0)
theorem UF (k:Nat)(cs:List Ce)(l:List (Nat×Nat))(x:Nat×Nat):GK k cs (l++[x])=GK k cs l++if JJ cs x.2=true then []else [(k,0,0,x.1,0)]:=by
 unfold GK;rw[Xv,Za]
 congr 1
 by_cases h:JJ cs x.2=true<;>simp[h]
theorem NA {k:Nat}{cs:List Ce}{l:List (Nat×Nat)}{i:Nat}{x:Nat×Nat}(h:l[i]?= some x):GK k cs (l.take (i+1))=GK k cs (l.take i)++if JJ cs x.2=true then []else [(k,0,0,x.1,0)]:=by
 rw[Qr,h];exact UF k cs (l.take i) x
theorem NB (k:Nat)(cs:List Ce)(l:List (Nat×Nat))(i:Nat):(GK k cs (l.take i)).length <= i:=by
 unfold GK;rw[n_];refine Qf (Zm ..) ?_;rw[Qh];omega
def J5 (cs:List Ce)(l:List (Nat×Nat)):List Br:=GK 5 cs (l.filter fun x=>x.2 != 0)
theorem Tp {cs:List Ce}{l:List (Nat×Nat)}{i:Nat}{x:Nat×Nat}(h:l[i]?= some x):J5 cs (l.take (i+1))=J5 cs (l.take i)++if x.2=0∨JJ cs x.2=true then []else [(5,0,0,x.1,0)]:=by
 rw[Qr,h];unfold J5
 show GK 5 cs ((l.take i++[x]).filter _)=_
 rw[Xv]
 by_cases r:x.2=0
 ·simp[r]
 · rw[Xh (by simpa using r),List.filter_nil,UF]
   simp[r]
theorem Tq (cs:List Ce)(l:List (Nat×Nat))(i:Nat):(J5 cs (l.take i)).length <= i:=by
 unfold J5;have h:=NB 5 cs ((l.take i).filter fun x=>x.2 != 0) ((l.take i).filter fun x=>x.2 != 0).length;rw[D_]at h;refine Qf h (Qf (Zm ..) ?_);rw[Qh];omega
theorem PS (w:World)(sb a aw tb bb:Nat){W B:List Nat}(bo:Option Addr)(a4:Nat)(aC:Option Addr)(ae:Nat)(L:List Ty)(cs:List Ce)(hA:SbAt w sb a aw tb bb W B bo a4 aC ae L)(hI:SdIn L W B cs)(bs bl bh:Nat)(p:Option Addr)(r:List (Nat×Nat))(a8:w.cell? (aD bs 0)=some (pt sb))
  (a7:w.cell? (aD bl 0)=some (.func (.func 56) #[] #[pt bs]))(a6:w.cell? (aD bh 0)=some (.pointer p))(U:∀x∈r,x.2<18446744073709551616)(aW:r.length <= 65536)
  (hR:Jz 42 36 p w (r.map (·.2)))(ap:Jz 59 89 p w (r.map (·.1))):
  Calls prog 58 #[pt bh,pt bl] w fun e w'=>∃ao cap l,e=.returned (.slice ao (GK 3 cs r).length cap) /\ Gh 39 5 ao (GK 3 cs r).length cap (Nm (GK 3 cs r)) l /\ Turn [] w l w':=by
 have aJ:=uh (fun w' (y:Below w.heap.size w w') (v:Nat) (hv:v<18446744073709551616)=>Z2 w' sb a aw tb bb bo a4 aC ae L cs (hA.below y) hI bs ((y.cell (p:=(aD bs 0)) (c_ w _ a8)).trans a8) v hv);have aG:=uh (fun w' (y:Below w.heap.size w w')=>(y.cell (p:=(aD bl 0)) (c_ w _ a7)).trans a7);have aF:=uh (fun w' (y:Below w.heap.size w w')=>(y.cell (p:=(aD bh 0)) (c_ w _ a6)).trans a6);have Hx:=uh (fun(i:Nat) (x:Nat×Nat) (h:r[i]?= some x)=>U x (q_ h));have aM:=uh (fun(i:Nat) (x:Nat×Nat) (h:r[i]?= some x)=>NA (k:=3) (cs:=cs) h);have aK:=uh (NB 3 cs r);have HR:=uh (hR w (T_ _ _));have ag:=uh (fun w' (y:Below w.heap.size w w')=>ap w' y);clear hA hI a8 a7 U hR ap
 go_enter func58,ntmps58
 go_wp2_with fail
 refine HR.out.mono ?_;rintro e w1 ⟨a3,p3,l1,rfl,az,T1⟩;have aE:=aF.out w1 T1.below;have af:=uh (ag.out w1 T1.below);have ak:=uh az;have ah:=uh T1;clear az T1 HR ag a6
 go_wp2_with fail
 refine af.out.mono ?_;rintro e w2 ⟨a9,p9,l2,rfl,aB,T2⟩;have am:=uh aB;have aj:=uh (ah.out.grow T2);have aa:(r.map (·.1)).length=r.length:=n_ ..;have ab:(r.map (·.2)).length=r.length:=n_ ..;rw[aa]at am;rw[ab]at ak
 try simp only[n_]
 clear aB T2 ah af aE aa ab
 go_wp2_with fail
 go_loopw [2,11] (fun v2 vi wr=>∃(i:Nat) (a2:Option Addr) (p2:Nat) (lr Z:List Blk),i <= r.length /\ vi=iV i /\ v2=.slice a2 (GK 3 cs (r.take i)).length p2 /\ Gh 39 5 a2 (GK 3 cs (r.take i)).length p2 (Nm (GK 3 cs (r.take i))) lr /\ Turn [] w (lr++(Z++(l2++l1))) wr) (fun _ vi _=>r.length-(intOf vi).toNat)
 case atStart=>exact⟨0,none,0,[],[],u_ _,by go_num,rfl,Zb _ _,aj.out⟩
 case round=>
  clear aj;obtain⟨i,a2,p2,lr,Z,hi,rfl,rfl,N,V⟩:=hrel
  by_cases aQ:i<r.length
  · have aT:(i:Int)<(r.length:Int):=O
    obtain⟨x,U⟩:∃x,r[i]?= some x:=⟨r[i],a_ aQ⟩;have aS:=Hx.out i x U;have aV:=aK.out i;have G:=aM.out i x U;have aN:(GK 3 cs (r.take i)).length+1 <= maxLen:=(by unfold maxLen;omega);have aP:((GK 3 cs (r.take i)).length+1)*40 <= 140737488355328:=O;have aq:=ak.out.src (V.has.perm (l':=l1++(lr++(Z++l2))) po);obtain⟨b1,ac,rfl,av⟩:=aq.form (by rw[G8,n_];omega);have q1:=av i _ (JL (l:=r.map (·.2)) (v:=x.2) (by rw[G_,U];rfl));have au:=am.out.src (V.has.perm (l':=l2++(lr++(Z++l1))) po);obtain⟨b2,aU,rfl,ax⟩:=au.form (by rw[G8,n_];omega);have q2:=ax i _ (JL (l:=r.map (·.1)) (v:=x.1) (by rw[G_,U];rfl));have a0:=uh N;have HL:=uh (fun u (y:Below wr.heap.size wr u)=>(⟨aG.out u (V.below.trans (y.mono V.size)),(y.cell (p:=(aD b1 (ac+i))) (c_ wr _ q1)).trans q1⟩:u.cell? (aD bl 0)=some (.func (.func 56) #[] #[pt bs]) /\ u.cell? (aD b1 (ac+i))=some (uV x.2)));have hV:=V;have V:=uh hV;clear N hV U aq au av ax
    go_wp2_with fail
    clear q1 q2;refine F_ ?_;have J:Below wr.heap.size wr wr.drew:=(r_ (C_ wr)).drew.below;refine rG (S:=fun u=>Below wr.heap.size wr u) 7 ?_;generalize wr.drew=u0 at*;refine Jt 0 16 J (fun w a5=>(HL.out w a5).1) ?_;refine G2 1 17 J ?_;refine G2 2 18 J ?_;refine G2 3 19 J ?_;refine Jt 4 20 J (fun w a5=>(HL.out w a5).2) ?_;refine G5 5 (fun K hK=>?_)
    go_simp
    refine(aJ.out u0 (V.out.below.trans (J.mono V.out.size)) x.2 aS).mono ?_;rintro e w4 ⟨rfl,an⟩;have a1:Below wr.heap.size wr w4:=J.trans (an.mono J.size);have V4:=uh (V.out.call a1);clear an J;refine hK.out _ _ a1 fun _=>?_;clear hK K;simp only[Gb,G7,G6];refine G2 6 22 a1 ?_;refine P_ kr ?_ _;refine z_ ?_;clear a1
    by_cases E:JJ cs x.2=true
    · rw[v_ E,p_]at G
      have M:=uh G;rw[E];clear G E
      go_wp2_with fail
      go_roundw
      case rel=>exact⟨i+1,a2,p2,lr,Z,by omega,by go_num,by rw[M.out],by rw[M.out];exact a0.out,V4.out⟩
      case measure=>simp[intOf];omega
    · rw[y_ E]at G
      have M:=uh G;rw[Jf.2 E];clear G E
      go_wp2_with (first
       | (at_builtin;have T6:=uh (V4.out.alloc (.cells #[yV 3,iV 0,iV 0,uV x.1,iV 0] 39));refine K_ rfl _ _ rfl GB rfl a0.out (R:=(w4.heap.size,.cells #[yV 3,iV 0,iV 0,uV x.1,iV 0] 39)::(Z++(l2++l1))) (T6.out.perm po).has rfl (news:=[yV 3,iV 0,iV 0,uV x.1,iV 0]) rfl (Qy (A_ _ _)) (by simp[Value.oneCell']) aN aP ?_;intro a9 p9 l9 w8 aA V9 aR;have aH:=uh ((T6.out.perm po).trans V9);have aL:=uh aA;clear V9 aA aR)
       | fail)
      go_roundw
      case rel=>
       have ay:(GK 3 cs (r.take (i+1))).length=(GK 3 cs (r.take i)).length+1:=(by rw[M.out];simp);refine⟨i+1,a9,p9,l9,_::Z,by omega,by go_num,by rw[ay],?_,aH.out⟩;rw[ay,M.out,Gy];exact aL.out
      case measure=>simp[intOf];omega
  · obtain rfl:i=r.length:=O
    have aX:¬((r.length:Nat):Int)<(r.length:Int):=O;rw[D_]at N ⊢;have a0:=uh N;have HV:=uh V;clear N V
    go_wp2_with fail
    go_ret;exact⟨a2,p2,rfl,lr,a0.out,HV.out.sub (x_ ..)⟩
theorem gN (w:World)(sb a aw tb bb:Nat){W B:List Nat}(bo:Option Addr)(a0:Nat)(ap:Option Addr)(aa:Nat)(L:List Ty)(cs:List Ce)(hA:SbAt w sb a aw tb bb W B bo a0 ap aa L)(hI:SdIn L W B cs)(bs bl bh:Nat)(p:Option Addr)(r:List (Nat×Nat))(a5:w.cell? (aD bs 0)=some (pt sb))
  (a4:w.cell? (aD bl 0)=some (.func (.func 56) #[] #[pt bs]))(a1:w.cell? (aD bh 0)=some (.pointer p))(U:∀x∈r,x.2<18446744073709551616)(aL:r.length <= 65536)
  (ag:Jz 61 36 p w (r.map (·.2)))(M:∀x∈r,x.1=x.2):
  Calls prog 60 #[pt bh,pt bl] w fun e w'=>∃ao cap l,e=.returned (.slice ao (GK 4 cs r).length cap) /\ Gh 39 5 ao (GK 4 cs r).length cap (Nm (GK 4 cs r)) l /\ Turn [] w l w':=by
 have ax:=uh (fun w' (G:Below w.heap.size w w') (v:Nat) (hv:v<18446744073709551616)=>Z2 w' sb a aw tb bb bo a0 ap aa L cs (hA.below G) hI bs ((G.cell (p:=(aD bs 0)) (c_ w _ a5)).trans a5) v hv);have au:=uh (fun w' (G:Below w.heap.size w w')=>(G.cell (p:=(aD bl 0)) (c_ w _ a4)).trans a4);have aJ:=uh (fun w' (G:Below w.heap.size w w')=>(G.cell (p:=(aD bh 0)) (c_ w _ a1)).trans a1);have Hx:=uh (fun(i:Nat) (x:Nat×Nat) (h:r[i]?= some x)=>U x (q_ h));have aA:=uh (fun(i:Nat) (x:Nat×Nat) (h:r[i]?= some x)=>NA (k:=4) (cs:=cs) h);have ay:=uh (NB 4 cs r);have ab:=uh (ag w (T_ _ _));have aq:=uh (fun(i:Nat) (x:Nat×Nat) (h:r[i]?= some x)=>M x (q_ h));clear hA hI a5 a4 U ag M
 go_enter func60,ntmps60
 go_wp2_with fail
 refine ab.out.mono ?_;rintro e w2 ⟨a3,p3,l1,rfl,am,T2⟩;have ae:=uh am;have ac:=uh T2;have a6:(r.map (·.2)).length=r.length:=n_ ..;rw[a6]at ae
 try simp only[n_]
 clear am T2 ab a1 a6
 go_wp2_with fail
 go_loopw [2,8] (fun v2 vi wr=>∃(i:Nat) (a2:Option Addr) (p2:Nat) (lr lj:List Blk),i <= r.length /\ vi=iV i /\ v2=.slice a2 (GK 4 cs (r.take i)).length p2 /\ Gh 39 5 a2 (GK 4 cs (r.take i)).length p2 (Nm (GK 4 cs (r.take i))) lr /\ Turn [] w (lr++(lj++l1)) wr) (fun _ vi _=>r.length-(intOf vi).toNat)
 case atStart=>exact⟨0,none,0,[],[],u_ _,by go_num,rfl,Zb _ _,ac.out⟩
 case round=>
  clear ac;obtain⟨i,a2,p2,lr,lj,hi,rfl,rfl,N,V⟩:=hrel
  by_cases aE:i<r.length
  · have aH:(i:Int)<(r.length:Int):=O
    obtain⟨x,U⟩:∃x,r[i]?= some x:=⟨r[i],a_ aE⟩;have aG:=Hx.out i x U;have aK:=ay.out i;have y:=aA.out i x U;have aB:(GK 4 cs (r.take i)).length+1 <= maxLen:=(by unfold maxLen;omega);have aC:((GK 4 cs (r.take i)).length+1)*40 <= 140737488355328:=O;have ah:=ae.out.src (V.has.perm (l':=l1++(lr++(lj++[]))) po);obtain⟨b1,a8,rfl,aj⟩:=ah.form (by rw[G8,n_];omega);have q1:=aj i _ (JL (l:=r.map (·.2)) (v:=x.2) (by rw[G_,U];rfl));have M:=aq.out i x U;have Z:=uh N;have HL:=uh (fun u (G:Below wr.heap.size wr u)=>(⟨au.out u (V.below.trans (G.mono V.size)),(G.cell (p:=(aD b1 (a8+i))) (c_ wr _ q1)).trans q1⟩:u.cell? (aD bl 0)=some (.func (.func 56) #[] #[pt bs]) /\ u.cell? (aD b1 (a8+i))=some (uV x.2)));have hV:=V;have V:=uh hV;clear N hV U ah aj;have ql:=(HL.out wr (T_ _ _)).1;have a7:(4,0,0,x.1,0)=((4,0,0,x.2,0):Br):=(by rw[M]);rw[a7]at y;clear a7 M
    go_wp2_with fail
    refine(ax.out wr V.out.below x.2 aG).mono ?_;rintro e w4 ⟨rfl,af⟩;have V4:=uh (V.out.call af);clear af q1 ql V
    by_cases E:JJ cs x.2=true
    · rw[v_ E,p_]at y
      have J:=uh y;rw[E];clear y E
      go_wp2_with fail
      go_roundw
      case rel=>exact⟨i+1,a2,p2,lr,lj,by omega,by go_num,by rw[J.out],by rw[J.out];exact Z.out,V4.out⟩
      case measure=>simp[intOf];omega
    · rw[y_ E]at y
      have J:=uh y;rw[Jf.2 E];clear y E
      go_wp2_with (first
       | (at_builtin;have T6:=uh (V4.out.alloc (.cells #[yV 4,iV 0,iV 0,uV x.2,iV 0] 39));refine K_ rfl _ _ rfl GB rfl Z.out (R:=(w4.heap.size,.cells #[yV 4,iV 0,iV 0,uV x.2,iV 0] 39)::(lj++l1)) (T6.out.perm po).has rfl (news:=[yV 4,iV 0,iV 0,uV x.2,iV 0]) rfl (Qy (A_ _ _)) (by simp[Value.oneCell']) aB aC ?_;intro a9 p9 l9 w8 an V9 aF;have av:=uh ((T6.out.perm po).trans V9);have az:=uh an;clear V9 an aF)
       | fail)
      go_roundw
      case rel=>
       have ak:(GK 4 cs (r.take (i+1))).length=(GK 4 cs (r.take i)).length+1:=(by rw[J.out];simp);refine⟨i+1,a9,p9,l9,_::lj,by omega,by go_num,by rw[ak],?_,av.out⟩;rw[ak,J.out,Gy];exact az.out
      case measure=>simp[intOf];omega
  · obtain rfl:i=r.length:=O
    have aM:¬((r.length:Nat):Int)<(r.length:Int):=O;rw[D_]at N ⊢;have Z:=uh N;have HV:=uh V;clear N V
    go_wp2_with fail
    go_ret;exact⟨a2,p2,rfl,lr,Z.out,HV.out.sub (x_ ..)⟩
theorem PR (w:World)(sb a aw tb bb:Nat){W B:List Nat}(bo:Option Addr)(a0:Nat)(aA:Option Addr)(ab:Nat)(L:List Ty)(cs:List Ce)(hA:SbAt w sb a aw tb bb W B bo a0 aA ab L)(hI:SdIn L W B cs)(bs bl bh:Nat)(p:Option Addr)(r:List (Nat×Nat))(a6:w.cell? (aD bs 0)=some (pt sb))
  (a5:w.cell? (aD bl 0)=some (.func (.func 56) #[] #[pt bs]))(a4:w.cell? (aD bh 0)=some (.pointer p))(U:∀x∈r,x.2<18446744073709551616)(aV:r.length <= 65536)
  (hR:Jz 64 36 p w (r.map (·.2)))(am:Jz 63 115 p w (r.map (·.1))):
  Calls prog 62 #[pt bh,pt bl] w fun e w'=>∃ao cap l,e=.returned (.slice ao (J5 cs r).length cap) /\ Gh 39 5 ao (J5 cs r).length cap (Nm (J5 cs r)) l /\ Turn [] w l w':=by
 have aG:=uh (fun w' (E:Below w.heap.size w w') (v:Nat) (hv:v<18446744073709551616)=>Z2 w' sb a aw tb bb bo a0 aA ab L cs (hA.below E) hI bs ((E.cell (p:=(aD bs 0)) (c_ w _ a6)).trans a6) v hv);have aE:=uh (fun w' (E:Below w.heap.size w w')=>(E.cell (p:=(aD bl 0)) (c_ w _ a5)).trans a5);have aC:=uh (fun w' (E:Below w.heap.size w w')=>(E.cell (p:=(aD bh 0)) (c_ w _ a4)).trans a4);have Hx:=uh (fun(i:Nat) (x:Nat×Nat) (h:r[i]?= some x)=>U x (q_ h));have aK:=uh (fun(i:Nat) (x:Nat×Nat) (h:r[i]?= some x)=>Tp (cs:=cs) h);have aH:=uh (Tq cs r);have HR:=uh (am w (T_ _ _));have ae:=uh (fun w' (E:Below w.heap.size w w')=>hR w' E);clear hA hI a6 a5 U hR am
 go_enter func62,ntmps62
 go_wp2_with fail
 refine HR.out.mono ?_;rintro e w1 ⟨a3,p3,l1,rfl,ax,T1⟩;have aB:=aC.out w1 T1.below;have ac:=uh (ae.out w1 T1.below);have aj:=uh ax;have ag:=uh T1;clear ax T1 HR ae a4
 go_wp2_with fail
 refine ac.out.mono ?_;rintro e w2 ⟨a9,p9,l2,rfl,az,T2⟩;have ak:=uh az;have ah:=uh (ag.out.grow T2);have a7:(r.map (·.1)).length=r.length:=n_ ..;have a8:(r.map (·.2)).length=r.length:=n_ ..;rw[a8]at ak;rw[a7]at aj
 try simp only[n_]
 clear az T2 ag ac aB a7 a8
 go_wp2_with fail
 go_loopw [2,11] (fun v2 vi wr=>∃(i:Nat) (a2:Option Addr) (p2:Nat) (lr Z:List Blk),i <= r.length /\ vi=iV i /\ v2=.slice a2 (J5 cs (r.take i)).length p2 /\ Gh 39 5 a2 (J5 cs (r.take i)).length p2 (Nm (J5 cs (r.take i))) lr /\ Turn [] w (lr++(Z++(l2++l1))) wr) (fun _ vi _=>r.length-(intOf vi).toNat)
 case atStart=>exact⟨0,none,0,[],[],u_ _,by go_num,rfl,Zb _ _,ah.out⟩
 case round=>
  clear ah;obtain⟨i,a2,p2,lr,Z,hi,rfl,rfl,N,V⟩:=hrel
  by_cases aP:i<r.length
  · have aS:(i:Int)<(r.length:Int):=O
    obtain⟨x,U⟩:∃x,r[i]?= some x:=⟨r[i],a_ aP⟩;have aR:=Hx.out i x U;have aU:=aH.out i;have y:=aK.out i x U;have aM:(J5 cs (r.take i)).length+1 <= maxLen:=(by unfold maxLen;omega);have aN:((J5 cs (r.take i)).length+1)*40 <= 140737488355328:=O;have an:=aj.out.src (V.has.perm (l':=l1++(lr++(Z++l2))) po);obtain⟨b1,aa,rfl,aq⟩:=an.form (by rw[G8,n_];omega);have q1:=aq i _ (JL (l:=r.map (·.1)) (v:=x.1) (by rw[G_,U];rfl));have ap:=ak.out.src (V.has.perm (l':=l2++(lr++(Z++l1))) po);obtain⟨b2,aT,rfl,au⟩:=ap.form (by rw[G8,n_];omega);have q2:=au i _ (JL (l:=r.map (·.2)) (v:=x.2) (by rw[G_,U];rfl));have M:=uh N;have HL:=uh (fun u (E:Below wr.heap.size wr u)=>(⟨aE.out u (V.below.trans (E.mono V.size)),(E.cell (p:=(aD b1 (aa+i))) (c_ wr _ q1)).trans q1⟩:u.cell? (aD bl 0)=some (.func (.func 56) #[] #[pt bs]) /\ u.cell? (aD b1 (aa+i))=some (uV x.1)));have hV:=V;have V:=uh hV;clear N hV an ap aq au;have ql:=(HL.out wr (T_ _ _)).1;have af:=uh (fun u (E:Below wr.heap.size wr u)=>(HL.out u E).2);clear q1 U
    by_cases h0:x.2=0
    · have aL:((x.2:Nat):Int)=0:=O
      rw[v_ (Or.inl h0),p_]at y;have G:=uh y;clear y h0
      go_wp2_with fail
      go_roundw
      case rel=>exact⟨i+1,a2,p2,lr,Z,by omega,by go_num,by rw[G.out],by rw[G.out];exact M.out,V.out⟩
      case measure=>simp[intOf];omega
    · have aL:¬((x.2:Nat):Int)=0:=O
      go_wp2_with fail
      refine(aG.out wr V.out.below x.2 aR).mono ?_;rintro e w4 ⟨rfl,a1⟩;have V4:=uh (V.out.call a1);have q4:=af.out w4 a1;clear a1 q2 ql V af
      by_cases J:JJ cs x.2=true
      · rw[v_ (Or.inr J),p_]at y
        have G:=uh y;rw[J];clear y J
        go_wp2_with fail
        go_roundw
        case rel=>exact⟨i+1,a2,p2,lr,Z,by omega,by go_num,by rw[G.out],by rw[G.out];exact M.out,V4.out⟩
        case measure=>simp[intOf];omega
      · rw[y_ (fun h=>h.elim h0 J)]at y
        have G:=uh y;rw[Jf.2 J];clear y J
        go_wp2_with (first
         | (at_builtin;have T6:=uh (V4.out.alloc (.cells #[yV 5,iV 0,iV 0,uV x.1,iV 0] 39));refine K_ rfl _ _ rfl GB rfl M.out (R:=(w4.heap.size,.cells #[yV 5,iV 0,iV 0,uV x.1,iV 0] 39)::(Z++(l2++l1))) (T6.out.perm po).has rfl (news:=[yV 5,iV 0,iV 0,uV x.1,iV 0]) rfl (Qy (A_ _ _)) (by simp[Value.oneCell']) aM aN ?_;intro a9 p9 l9 w8 ay V9 aQ;have aF:=uh ((T6.out.perm po).trans V9);have aJ:=uh ay;clear V9 ay aQ)
         | fail)
        go_roundw
        case rel=>
         have av:(J5 cs (r.take (i+1))).length=(J5 cs (r.take i)).length+1:=(by rw[G.out];simp);refine⟨i+1,a9,p9,l9,_::Z,by omega,by go_num,by rw[av],?_,aF.out⟩;rw[av,G.out,Gy];exact aJ.out
        case measure=>simp[intOf];omega
  · obtain rfl:i=r.length:=O
    have aW:¬((r.length:Nat):Int)<(r.length:Int):=O;rw[D_]at N ⊢;have M:=uh N;have HV:=uh V;clear N V
    go_wp2_with fail
    go_ret;exact⟨a2,p2,rfl,lr,M.out,HV.out.sub (x_ ..)⟩
end
section
open Go Go.RowKit Go.Shelf Go.IntWalk
attribute [local go_sem] Oper.semAt_some
def j7 (n₀:Nat)(D:World -> Nat -> Prop)(A B:World):Prop:=KpD n₀ D A B /\ KeepsWalks A B
theorem XH {L L':List Blk}{A B:World}(h:Turn L A L' B)(E:Has A L)(G:∀x∈L,x.2.isWalk=false):KeepsWalks A B:=
 ⟨h.size,fun k o y M=>(h.same k (Qk y) (fun J=>by
  obtain⟨o',h1⟩:=GE.1 J;have h2:=E.own k o' h1;rw[y]at h2
  cases h2
  have r:=G _ h1;simp only at r;rw[M]at r
  cases r)).trans y⟩
theorem Obj.walk_no {o:Obj}(h:o.isCells=true):o.isWalk=false:=by
 cases o<;>first|rfl|cases h
def Z4 (n4:Nat)(A:World):Prop:=∀b,KF n4 A b -> n4 <= b /\ b<A.heap.size
theorem Z4.old {r:Nat}{A B:World}{b:Nat}(E:Z4 r A)(y:Below A.heap.size A B)(h:KF r B b):KF r A b:=by
 rcases h with h|⟨k,cap,t,h⟩
 ·exact .inl h
 · refine .inr ⟨k,cap,t,?_⟩
   rw[←y.block r (E r (.inl rfl)).2];exact h
theorem Es {e J:TypeId}{size n cap:Nat}{xs:List Value}{ao:Option Addr}{G:List Blk}{r:Nat}{w W:World}(h:Gh e size ao n cap xs G)(T:Turn [] w (G++[(r,.cells #[.slice ao n cap] J)]) W)(V:w.heap.size=r):Z4 r W:=by
 intro b y
 have E:b∈keys (G++[(r,Obj.cells #[.slice ao n cap] J)]):=by
  rcases y with rfl|⟨k,N,t,y⟩
  ·simp[keys]
  · have h1:=T.has.own r _ (by simp:(r,Obj.cells #[.slice ao n cap] J)∈_)
    rw[h1]at y;simp only[Option.some.injEq,Obj.cells.injEq,Array.mk.injEq,List.cons.injEq,Value.slice.injEq]at y;obtain⟨⟨⟨rfl,rfl,rfl⟩,-⟩,-⟩:=y;rcases h.2.2.2 with⟨h2,-⟩|⟨g,U,h2,rfl,-⟩
    ·cases h2
    · cases h2
      simp[keys]
 refine⟨?_,T.has.lt E⟩;rcases T.new b E with M|M
 ·cases M
 ·omega
theorem gZ (w:World)(gf:Nat)(lb:Array Value)(N:Nat)(hN:N <= 65536)(Nx:List Nat -> Nat -> Prop)(S:List Nat -> Prop)(a7:∀pre x,Nx pre x -> pre.length+1 <= N)(eg:∀args w,(callFunc gf args).run prog w=.ok (.enter gf args) w)
  (a2:∀V,Below w.heap.size w V -> Uh Fence.wide 5 prog gf lb (fun x:Nat=>#[uV x]) (j7 w.heap.size (KF w.heap.size)) Nx S (Z4 w.heap.size) V):
  Calls prog 167 #[.slice none 0 0,.func (.func gf) #[] lb] w fun e w'=>∃xs ao cap l,S xs /\ e=.returned (.slice ao xs.length cap) /\ Gh 36 1 ao xs.length cap (Gf xs) l /\ Turn [] w l w':=by
 refine(N_ (n:=6)).1 ?_;have h3:Fence.wide.fn 167:= trivial;have h6:Fence.wide.fn gf:=trivial;have ab:Fence.wide.round=none:=rfl;have h1:1 <= 6:=O;have T0:=(r_ (C_ w)).alloc (.cells #[.slice none 0 0] 24);refine callsIn_of_wp_marks func167 rfl h3 ?_ ab;simp only[ntmps167,Z_,B_,Qj,Nat.reduceAdd,Nat.reduceSub,S_,R_,Qc,X_,L_,Qd];have HS:=uh a2;have ah:=uh a7;clear a2 a7
 gi_wp2_with fail
 have a3:(w.alloc (.cells #[.slice none 0 0] 24)).heap.size=w.heap.size+1:=by simp
 generalize hW:w.alloc (.cells #[.slice none 0 0] 24)=V at T0 a3 ⊢;clear hW;obtain⟨E,a0⟩:∃E,w.heap.size=E:=⟨_,rfl⟩;have R8:Below w.heap.size w V:=T0.below;have a4:=HS.out V R8;have T8:Turn [] w ([]++[(E,.cells #[.slice none 0 0] 24)]) V:=by rw[←a0];exact T0
 rw[a0]at a3 a4 ⊢;clear T0 HS
 apply JD (β:=Nat) ab h1 (gf:=gf) (lb:=lb) rfl h6 eg a4
  (fun h k=>⟨h.1.t k.1,h.2.trans k.2⟩) (fun W l o o' hl h hc hw=>⟨KpD.b (n₀:=E) (D:=KF E) (w:=V) O (fun W l o' hl b=>KF.put O o') W l o o' hl h hc hw,KeepsWalks.putObj _ h hw⟩) (T_ _ _) (fun _=>rfl)
  (fun pre W'=>∃ao cap G,Gh 36 1 ao pre.length cap (Gf pre) G /\ pre.length <= 65536 /\ Turn [] w (G++[(E,.cells #[.slice ao pre.length cap] 24)]) W')
  (fun x nb pre W'=>∃ao cap G,Gh 36 1 ao pre.length cap (Gf pre) G /\ pre.length+1 <= 65536 /\ Turn [] w (G++[(E,.cells #[.slice ao pre.length cap] 24)]) W')
  (fun s A D row ⟨ao,cap,G,U,e2,J⟩ hg hr=>⟨ao,cap,G,U,e2,J.grownB O (Kf U) hg hr⟩)
  (fun x nb s A D row ⟨ao,cap,G,U,e2,J⟩ hg hr=>⟨ao,cap,G,U,e2,J.grownB O (Kf U) hg hr⟩)
  ⟨none,0,[],Zb _ _,by simp,T8⟩
  (fun pre W' ⟨ao,cap,G,U,e2,J⟩=>Es U J a0)
 case hassign=>
  rintro l1 pre x M aa ⟨ao,cap,G,U,e2,J⟩;have av:=ah.out pre x aa;have HX:=uh (⟨U,(by omega:pre.length+1 <= 65536),J⟩:Gh 36 1 ao pre.length cap (Gf pre) G /\ pre.length+1 <= 65536 /\ Turn [] w (G++[(E,.cells #[.slice ao pre.length cap] 24)]) M);have HK:=uh (⟨KpD.of (L:=[]) (L':=[]) (r_ (C_ M)) (Qf O J.size) (fun b hb=>by cases hb) (fun b _ hd=>hd),KeepsWalks.refl M⟩:j7 E (KF E) M M);clear aa J U
  gi_wp2_with fail
  obtain⟨nb,-⟩:∃nb:Nat,nb=0:=⟨0,rfl⟩;exact⟨(KeepsOthers.refl _).from _,HK.out,nb,rfl,ao,cap,G,HX.out⟩
 case hbody=>
  rintro l1 pre x nb M-⟨ao,cap,G,U,e2,J⟩;have q0:M.cell? (aD E 0)=some (.slice ao pre.length cap):=J.has.cell (b:=E) (c:=#[.slice ao pre.length cap]) (e:=24) (f:=(0,0)) (by simp) 0;have am:pre.length+1 <= maxLen:=by unfold maxLen;omega
  have an:(pre.length+1)*8 <= 140737488355328:=O
  have aq:∀u∈([uV x]:List Value),u.oneCell'=true:=by
   intro u hu;rw[Qa.1 hu]
   rfl
  have HT:=uh J;have Z:=uh U;have HH:=uh J.has;clear J U
  gi_wp2_with (first
   | (gi_at_builtin;have T3:=uh (HT.out.alloc (.cells #[uV x] 36));have K3:=uh (((r_ HH.out).alloc (.cells #[uV x] 36)).perm (l2:=G++[(M.heap.size,.cells #[uV x] 36),(E,.cells #[.slice ao pre.length cap] 24)]) po);refine Gj (Gu _ _ _) rfl (by intro c h;cases h) (JB _ _ rfl GF rfl Z.out (R:=[(M.heap.size,.cells #[uV x] 36),(E,.cells #[.slice ao pre.length cap] 24)]) K3.out.has rfl (news:=[uV x]) rfl (Qy (A_ _ _)) aq am an ?_);intro a9 p9 l9 w4 a1 V4 au;have T4:=((T3.out.perm (l2:=G++[(M.heap.size,.cells #[uV x] 36),(E,.cells #[.slice ao pre.length cap] 24)]) po).trans V4).perm (l2:=(E,.cells #[.slice ao pre.length cap] 24)::(l9++[(M.heap.size,.cells #[uV x] 36)])) po;have q5:=T4.cell1 0;have f5:=T4.free1 0;have K5:=((K3.out.trans V4).perm (l2:=(E,.cells #[.slice ao pre.length cap] 24)::(l9++[(M.heap.size,.cells #[uV x] 36)])) po).setCell 0 (.slice a9 (pre.length+1) p9);have aj:=uh (T4.setCell 0 (.slice a9 (pre.length+1) p9));have ae:=uh (KpD.res (n₀:=E) Z.out a1 K5 HH.out O (fun b hb=>by have:=(HT.out.new b (by simp[keys]at hb ⊢;exact .inl hb)).resolve_left (by simp[keys]);omega));have af:=uh (Turn.keepsOthers K5 HH.out (Kf Z.out));have ag:=uh (XH K5 HH.out (fun y hy=>Obj.walk_no (Kf Z.out y hy)));have ak:=uh a1;clear V4 T4 K5 K3 T3 au a1 q0)
   | fail)
  have ap:Gf (pre++[x])=Gf pre++[uV x]:=by simp[Gf]
  have a8:(pre++[x]).length=pre.length+1:=by simp
  refine⟨af.out.from _,⟨ae.out,ag.out⟩,a9,p9,l9,by rw[a8,ap];exact ak.out,by omega,by rw[a8];exact((aj.out.perm (l2:=(M.heap.size,.cells #[uV x] 36)::(l9++[(E,.cells #[.slice a9 (pre.length+1) p9] 24)])) po)).tail⟩
 case hdone=>
  rintro D xs M hD hS ⟨ao,cap,G,U,e2,J⟩ hK;have a6:Has M ((E,.cells #[.slice ao xs.length cap] 24)::G):=J.has.perm po;have q0:M.cell? (aD E 0)=some (.slice ao xs.length cap):=a6.cell (d_ ..) 0;have HS:=uh hS;have HT:=uh J;have Z:=uh U;have HK:=uh hK;clear J U a6 hK hS
  gi_wp2_with fail
  have a5:=(HT.out.perm (l2:=(E,.cells #[.slice ao xs.length cap] 24)::G) po).grownB (B:=V.heap.size) O (fun y hy=>by
   rcases t_.1 hy with rfl|hy
   ·rfl
   ·exact Z.out.cells y hy) (grownBy_putObj' _ D (.deferred none)) (fun r e=>by cases e;exact⟨hD,_,HK.out,rfl⟩)
  have ac:=uh a5;clear a5 HT q0;refine⟨by simp,.inl ⟨_,_,rfl,run_takeDeferred HK.out,?_⟩⟩;exact⟨_,results_tmp rfl _ _ _,xs,ao,cap,G,HS.out,rfl,Z.out,ac.out.tail⟩
theorem FK (w:World)(gf:Nat)(lb:Array Value)(N:Nat)(Z:N <= 65536)(E:List Nat -> Nat -> Prop)(S:List Nat -> Prop)(y:∀pre x,E pre x -> pre.length+1 <= N)(M:∀args w,(callFunc gf args).run prog w=.ok (.enter gf args) w)
  (r:∀J,Below w.heap.size w J -> Uh Fence.wide 5 prog gf lb (fun x:Nat=>#[uV x]) (j7 w.heap.size (KF w.heap.size)) E S (Z4 w.heap.size) J):
  Calls prog 118 #[.func (.func gf) #[] lb] w fun e w'=>∃xs ao cap l,S xs /\ e=.returned (.slice ao xs.length cap) /\ Gh 36 1 ao xs.length cap (Gf xs) l /\ Turn [] w l w':=by
 have H:=uh (gZ w gf lb N Z E S y M r);clear r y M
 go_enter func118,ntmps118
 go_wp2_with fail
 refine H.out.mono ?_;rintro e w2 ⟨xs,ao,cap,l,U,rfl,V,T⟩;have G:=uh (⟨U,V,T⟩:S xs /\ Gh 36 1 ao xs.length cap (Gf xs) l /\ Turn [] w l w2);clear U V T H
 go_wp2_with fail
 go_ret;exact⟨xs,ao,cap,l,G.out.1,rfl,G.out.2⟩
end
section
open Go Go.RowKit Go.Sort
namespace q64
abbrev kK:IntKind:=.u64
abbrev tK:TypeId:=36
theorem gy (x:Int)(w:World):Calls prog 276 #[.int .u64 x] w fun e w'=>e=.returned (.bool false) /\ w'=w:=Fn
theorem lessK (x y:Int)(w:World):Calls prog 265 #[.int .u64 x,.int .u64 y] w fun e w'=>e=.returned (.bool (ltInt x y)) /\ w'=w:=Cb
theorem insK (g off cap a b:Nat)(c0:Array Value)(w0:World)(d:Array Int)(X:List Blk)(w:World)(hT:Ts .u64 36 g off c0 w0 d X w)(hab:a <= b)(hb:b <= d.size)(hsz:d.size<4611686018427387904):
  Calls prog 259 #[.slice (some ⟨g,off,none⟩) d.size cap,.int .i64 a,.int .i64 b] w fun e w'=>e=.returned (.tuple #[]) /\ Ts .u64 36 g off c0 w0 (insertionSort ltInt d a b) X w':=Fq
end q64
abbrev jF:= @q64.lessK
abbrev jV:= @q64.insK
namespace q64
theorem BY (g off cap:Nat)(c0:Array Value)(w0:World)(d:Array Int)(len:Nat)(hlen:d.size=len)(X:List Blk)(lo hi first:Nat)(w:World)(hT:Ts .u64 36 g off c0 w0 d X w)(hlo:lo <= hi)(hb:first+hi <= d.size)(hsz:d.size<4611686018427387904):
  Calls prog 273 #[.slice (some ⟨g,off,none⟩) len cap,.int .i64 lo,.int .i64 hi,.int .i64 first] w fun e w'=>e=.returned (.tuple #[]) /\ Ts .u64 36 g off c0 w0 (siftDown ltInt hi first lo d) X w':=C7
theorem FF (g off cap:Nat)(c0:Array Value)(w0:World)(d:Array Int)(X:List Blk)(a b:Nat)(w:World)(hT:Ts .u64 36 g off c0 w0 d X w)(hab:a <= b)(hb:b <= d.size)(hsz:d.size<4611686018427387904):
  Calls prog 260 #[.slice (some ⟨g,off,none⟩) d.size cap,.int .i64 a,.int .i64 b] w fun e w'=>e=.returned (.tuple #[]) /\ Ts .u64 36 g off c0 w0 (heapSort ltInt d a b) X w':=Cc
theorem g2 (g off cap:Nat)(c0:Array Value)(w0:World)(d:Array Int)(X:List Blk)(a b:Nat)(w:World)(hT:Ts .u64 36 g off c0 w0 d X w)(hab:a <= b)(hb:b <= d.size)(hsz:d.size<4611686018427387904):
  Calls prog 263 #[.slice (some ⟨g,off,none⟩) d.size cap,.int .i64 a,.int .i64 b] w fun e w'=>e=.returned (.tuple #[]) /\ ∃d',PermIn a b d d' /\ Ts .u64 36 g off c0 w0 d' X w':=Fh
end q64
namespace q64
theorem ZP (g off cap:Nat)(c0:Array Value)(w0:World)(d:Array Int)(X:List Blk)(a b pivot:Nat)(w:World)(hT:Ts .u64 36 g off c0 w0 d X w)(hap:a <= pivot)(hpb:pivot<b)(hb:b <= d.size)(hsz:d.size<4611686018427387904):
  Calls prog 266 #[.slice (some ⟨g,off,none⟩) d.size cap,.int .i64 a,.int .i64 b,.int .i64 pivot] w fun e w'=>e=.returned (.int .i64 (partitionEqual ltInt d a b pivot).1) /\ Ts .u64 36 g off c0 w0 (partitionEqual ltInt d a b pivot).2 X w':=Wk
theorem Fz (g off cap:Nat)(c0:Array Value)(w0:World)(d:Array Int)(X:List Blk)(a b pivot:Nat)(w:World)(hT:Ts .u64 36 g off c0 w0 d X w)(hap:a <= pivot)(hpb:pivot<b)(hb:b <= d.size)(hsz:d.size<4611686018427387904):
  Calls prog 267 #[.slice (some ⟨g,off,none⟩) d.size cap,.int .i64 a,.int .i64 b,.int .i64 pivot] w fun e w'=>e=.returned (.tuple #[.int .i64 (partition ltInt d a b pivot).1,.bool (partition ltInt d a b pivot).2.1]) /\ Ts .u64 36 g off c0 w0 (partition ltInt d a b pivot).2.2 X w':=C9
end q64
namespace q64
theorem ZQ (g off cap sb a b s:Nat)(c0:Array Value)(w0:World)(d:Array Int)(X:List Blk)(t:TypeId)(w:World)(hT:Ts .u64 36 g off c0 w0 d ((sb,.cells #[.int .i64 s] t (0,0))::X) w)(ha:a<d.size)(hb:b<d.size)(hs:s<4611686018427387904):
  Calls prog 277 #[.slice (some ⟨g,off,none⟩) d.size cap,.int .i64 a,.int .i64 b,pt sb] w fun e w'=>∃x y s':Nat,e=.returned (.tuple #[.int .i64 x,.int .i64 y]) /\ (x=a /\ y=b∨x=b /\ y=a) /\ s' <= s+1 /\ Ts .u64 36 g off c0 w0 d ((sb,.cells #[.int .i64 s'] t (0,0))::X) w':=Ca
theorem Ez (g off cap sb a b c s:Nat)(c0:Array Value)(w0:World)(d:Array Int)(X:List Blk)(t:TypeId)(w:World)(hT:Ts .u64 36 g off c0 w0 d ((sb,.cells #[.int .i64 s] t (0,0))::X) w)(ha:a<d.size)(hb:b<d.size)(hc:c<d.size)(hs:s+3<4611686018427387904):
  Calls prog 275 #[.slice (some ⟨g,off,none⟩) d.size cap,.int .i64 a,.int .i64 b,.int .i64 c,pt sb] w fun e w'=>∃x s':Nat,e=.returned (.int .i64 x) /\ (x=a∨x=b∨x=c) /\ s' <= s+3 /\ Ts .u64 36 g off c0 w0 d ((sb,.cells #[.int .i64 s'] t (0,0))::X) w':=Fp
theorem F3 (g off cap sb a s:Nat)(c0:Array Value)(w0:World)(d:Array Int)(X:List Blk)(t:TypeId)(w:World)(hT:Ts .u64 36 g off c0 w0 d ((sb,.cells #[.int .i64 s] t (0,0))::X) w)(ha:1 <= a)(hb:a+1<d.size)(hsz:d.size<4611686018427387904)(hs:s+3<4611686018427387904):
  Calls prog 274 #[.slice (some ⟨g,off,none⟩) d.size cap,.int .i64 a,pt sb] w fun e w'=>∃x s':Nat,e=.returned (.int .i64 x) /\ a-1 <= x /\ x <= a+1 /\ s' <= s+3 /\ Ts .u64 36 g off c0 w0 d ((sb,.cells #[.int .i64 s'] t (0,0))::X) w':=Fu
end q64
namespace q64
theorem g8 (g off cap a b:Nat)(c0:Array Value)(w0:World)(d:Array Int)(X:List Blk)(w:World)(hT:Ts .u64 36 g off c0 w0 d X w)(hab:a<b)(hb:b <= d.size)(hsz:d.size<4611686018427387904):
  Calls prog 262 #[.slice (some ⟨g,off,none⟩) d.size cap,.int .i64 a,.int .i64 b] w fun e w'=>∃p h:Nat,e=.returned (.tuple #[.int .i64 p,.int .i64 h]) /\ a <= p /\ p<b /\ h <= 2 /\ Ts .u64 36 g off c0 w0 d X w':=Fj
end q64
namespace q64
theorem Fy (g off cap a b:Nat)(c0:Array Value)(w0:World)(d:Array Int)(X:List Blk)(w:World)(hT:Ts .u64 36 g off c0 w0 d X w)(hab:a<b)(hb:b <= d.size)(hsz:d.size<4611686018427387904):
  Calls prog 264 #[.slice (some ⟨g,off,none⟩) d.size cap,.int .i64 a,.int .i64 b] w fun e w'=>e=.returned (.bool (partialInsertionSort ltInt d a b).2) /\ Ts .u64 36 g off c0 w0 (partialInsertionSort ltInt d a b).1 X w':=C8
theorem gm (g off cap a b:Nat)(c0:Array Value)(w0:World)(d:Array Int)(X:List Blk)(w:World)(hT:Ts .u64 36 g off c0 w0 d X w)(hab:a<b)(hb:b <= d.size)(hsz:d.size<4611686018427387904)(hB:Below ltInt a b d):
  Calls prog 264 #[.slice (some ⟨g,off,none⟩) d.size cap,.int .i64 a,.int .i64 b] w fun e w'=>∃(r:Bool) (d':Array Int),e=.returned (.bool r) /\ PermIn a b d d' /\ (r=true -> SortedIn ltInt a b d') /\ Ts .u64 36 g off c0 w0 d' X w':=Fm
end q64
namespace q64
theorem gS (g off cap a b:Nat)(c0:Array Value)(w0:World)(d:Array Int)(X:List Blk)(w:World)(hT:Ts .u64 36 g off c0 w0 d X w)(hab:a <= b)(hb:b <= d.size)(hsz:d.size<4611686018427387904):
  Calls prog 261 #[.slice (some ⟨g,off,none⟩) d.size cap,.int .i64 a,.int .i64 b] w fun e w'=>e=.returned (.tuple #[]) /\ ∃d',PermIn a b d d' /\ Ts .u64 36 g off c0 w0 d' X w':=Fs
end q64
namespace q64
theorem gh:∀(n g off cap:Nat) (c0:Array Value) (w0:World) (d:Array Int) (X:List Blk) (a b limit:Nat) (w:World),b-a<n -> Ts .u64 36 g off c0 w0 d X w -> a <= b -> b <= d.size -> d.size<4611686018427387904 -> limit<4611686018427387904 -> Below ltInt a b d ->
  Calls prog 248 #[.slice (some ⟨g,off,none⟩) d.size cap,.int .i64 a,.int .i64 b,.int .i64 limit] w fun e w'=>e=.returned (.tuple #[]) /\ ∃d',(PermIn a b d d' /\ SortedIn ltInt a b d') /\ Ts .u64 36 g off c0 w0 d' X w':=Fk
end q64
namespace q64
theorem srtK (g off cap:Nat)(c0:Array Value)(w0:World)(d:Array Int)(X:List Blk)(w:World)(hT:Ts .u64 36 g off c0 w0 d X w)(hsz:d.size<4611686018427387904):
  Calls prog 217 #[.slice (some ⟨g,off,none⟩) d.size cap] w fun e w'=>e=.returned (.tuple #[]) /\ ∃d',(PermIn 0 d.size d d' /\ SortedIn ltInt 0 d.size d') /\ Ts .u64 36 g off c0 w0 d' X w':=Fg
theorem insnilK (w:World):Calls prog 259 #[.slice none 0 0,.int .i64 0,.int .i64 0] w fun e w'=>e=.returned (.tuple #[]) /\ w'=w:=Wm
theorem pdqnilK (k:Int)(w:World):Calls prog 248 #[.slice none 0 0,.int .i64 0,.int .i64 0,.int .i64 k] w fun e w'=>e=.returned (.tuple #[]) /\ w'=w:=Wh
theorem srtnilK (w:World):Calls prog 217 #[.slice none 0 0] w fun e w'=>e=.returned (.tuple #[]) /\ w'=w:=Wg
end q64
abbrev QW:= @q64.srtK
abbrev gG:= @q64.insnilK
abbrev gg:= @q64.pdqnilK
abbrev BR:= @q64.srtnilK
end
section
open Go Go.RowKit Go.Shelf Go.IntWalk Go.Maps Go.MapKept Go.WideElems
theorem YE {H:Type}(l:List (Lit×DataW H))(E:Lit):has (.map (l.foldr DataW.insert [])) E=true↔∃p∈l,p.1.sameKey E=true:=by
 rw[has_eq,List.any_eq_true]
 constructor
 · rintro⟨p,r,y⟩
   exact⟨p,(WideShapes.sorted_perm l).mem_iff.1 r,y⟩
 · rintro⟨p,r,y⟩
   exact⟨p,(WideShapes.sorted_perm l).mem_iff.2 r,y⟩
theorem Kt.ownsQ {P:Program}{w:World}{b:Nat}{q:IntKind}{m:List (Int×Value)}{o:Obj}{kt:TypeId}(h:Kt q m o)(hb:w.heap[b]?= some o)(hk:P.underlying kt=some (.int q))(hw:∀p∈m,(Lit.int q p.1).wf=true)(hl:m.length <= maxLen):
  ∃D,w.ownsMap (H:=Unit) P kt (fun _=>some (.lit (.bool true),[])) b m.length D /\ (∀x:Int,has D (.int q x)=true↔x∈m.map (·.1)) /\ Maps.size D=m.length:=by
 obtain⟨U,N,rfl,h,a0⟩:=h
 have Z:U.size=m.length:=by
  have:=Qu List.length h
  simpa using this
 have r:∀x∈U.toList,∃p∈m,x.key=Value.int q p.1 /\ keyOf P kt x.key=some (.int q p.1):=by
  intro x M
  have h1:(x.key,x.val)∈m.map (fun p=>(Value.int q p.1,p.2)):=by
   rw[←h];exact U_.2 ⟨x,M,rfl⟩
  obtain⟨p,J,G⟩:=U_.1 h1;have e:x.key=Value.int q p.1:=by simpa using(Qu Prod.fst G).symm
  exact⟨p,J,e,by rw[e];exact keyOf_int_mk hk (hw p J)⟩
 refine⟨_,⟨U,N,hb,⟨by omega,a0,?_⟩,by omega,rfl⟩,?_,?_⟩
 · intro x M
   obtain⟨p,-,-,E⟩:=r x M;exact⟨_,by unfold rd;rw[E];rfl⟩
 · intro x
   rw[YE]
   constructor
   · rintro⟨y,hy,hs⟩
     obtain⟨e,G,rfl⟩:=U_.1 hy;obtain⟨p,J,-,E⟩:=r e G
     have V:(rg (H:=Unit) P kt (fun _=>some (.lit (.bool true),[])) e).1=.int q p.1:=by
      unfold rg rd;rw[E]
      rfl
     rw[V]at hs;have:p.1=x:=(by simpa [Lit.sameKey]using hs);exact U_.2 ⟨p,J,this⟩
   · intro M
     obtain⟨p,J,rfl⟩:=U_.1 M
     have h1:(Value.int q p.1,p.2)∈U.toList.map (fun e=>(e.key,e.val)):=by
      rw[h];exact U_.2 ⟨p,J,rfl⟩
     obtain⟨e,G,h2⟩:=U_.1 h1;obtain⟨p2,-,h3,E⟩:=r e G;have e2:e.key=Value.int q p.1:=Qu Prod.fst h2;rw[e2]at h3;have h4:p2.1=p.1:=(by simpa using h3.symm);rw[h4]at E;refine⟨_,U_.2 ⟨e,G,rfl⟩,?_⟩
     have V:(rg (H:=Unit) P kt (fun _=>some (.lit (.bool true),[])) e).1=.int q p.1:=by
      unfold rg rd;rw[E]
      simp_all
     rw[V];simp[Lit.sameKey]
 ·rw[size_eq,length_sorted,n_,Yy,Z]
def Z5 (D0:DataW Unit)(left:Lit -> Bool)(ss:List Nat):Prop:=ss.Nodup /\ ∀x:Nat,x∈ss↔(has D0 (.int .u64 x)=true /\ left (.int .u64 x)=false)
theorem Z5.start (r:DataW Unit):Z5 r (has r) []:=⟨List.nodup_nil,fun x=>by cases has r (.int .u64 x)<;>simp⟩
theorem Z5.step {r:DataW Unit}{left:Lit -> Bool}{J:List Nat}(h:Z5 r left J){x:Nat}{y:DataW Unit}(U:left (.int .u64 x)=true)(M:∀zd,r.atKey (.int .u64 x) zd=y):Z5 r (fun z=>left z && !z.sameKey (.int .u64 x)) (J++[x]):=by
 have E:has r (.int .u64 x)=true:=has_true_of_atKey M;have G:x∉J:=fun hx=>by have:=((h.2 x).1 hx).2;rw[U]at this;cases this
 refine⟨Yt.2 ⟨h.1,by simp,fun a Z b N=>by simp at N;subst N;exact fun e=>G (e ▸ Z)⟩,fun y=>?_⟩
 by_cases V:y=x
 ·subst V;simp[E,Lit.sameKey]
 · have:¬(y:Int)=(x:Int):=O
   simp[h.2 y,V,Lit.sameKey,this]
theorem ZT {k:TypeId}(y:prog.underlying k=some (.int .u64)){key:Value}{r:Lit}(h:keyOf prog k key=some r):∃x:Nat,key=.int .u64 x /\ r=.int .u64 x /\ x<18446744073709551616:=by
 obtain⟨x,rfl,rfl,E⟩:=Maps.keyOf_int_inv y h;obtain⟨h1,h2⟩:IntKind.u64.min <= x /\ x <= IntKind.u64.max:=by simpa [Lit.wf]using E
 rw[show IntKind.u64.min=0 from rfl]at h1;rw[show IntKind.u64.max=18446744073709551615 from by decide]at h2;obtain⟨u,rfl⟩:∃u:Nat,x=u:=⟨x.toNat,by omega⟩;exact⟨u,rfl,rfl,by omega⟩
attribute [local go_sem] Oper.semAt_some
theorem PE (n:Nat)(hn:1 <= n)(w:World)(b Z Bm:Nat)(E:DataW Unit){R:Value -> Option (DataW Unit×List MemPlace)}(M:w.ownsMap prog 36 R b Z E)(hm:w.cell? ⟨Bm,0,none⟩=some (.map (some b)))(n₀:Nat)(D:World -> Nat -> Prop)(G:World -> Prop):
  Uh Fence.wide n prog 218 #[pt Bm] (fun x:Nat=>#[.int .u64 x]) (j7 n₀ D) (fun pre x=>pre.length+1 <= Maps.size E /\ x<18446744073709551616) (fun y=>y.Nodup /\ y.length <= Maps.size E /\ ∀x:Nat,x∈y↔has E (.int .u64 x)=true) G w:=fun l J W hW hJ hG hY h0=>by
 have a1:W.ownsMap prog 36 R b Z E:=by
  have ac:=M.lt;obtain⟨es,a0,hb,Ft,hs,hD⟩:=M;exact⟨es,a0,(hW.block b ac).trans hb,Ft,hs,hD⟩
 have au:W.cell? ⟨Bm,0,none⟩=some (.map (some b)):=(hW.cell (p:=⟨Bm,0,none⟩) (c_ w _ hm)).trans hm;have HY:=uh hY;have HJ:=uh hJ;have H0:=uh h0;have a8:Fence.wide.fn 218:= trivial;have N:prog.underlying 36= some (.int .u64):=underlying36;have av:Fence.wide.round=none:=rfl;clear hY hJ hG h0 M hm hW;refine Xk func218 rfl a8 ?_ rfl;simp only[ntmps218,Z_,B_,Qj,Nat.reduceAdd,Nat.reduceSub,S_,R_,Qc,X_,L_,Qd]
 gi_wp2_with (first
  | (gi_at_range;refine wpListIn_range_own _ rfl _ 202 rfl 36 3 (int_keyed N) underlying202 _ b Z _ rfl a1 ?_;intro w0 a5 ae ax)
  | gi_in)
 try go_frame
 gi_loopw [3] (fun _ wr=>∃(left:Lit -> Bool) (cnt:Nat) (y:List Nat),wr.ranges prog 36 R b W.heap.size Z E left cnt /\ y.length+cnt <= Maps.size E /\ Z5 E left y /\ J y wr)
  (fun _ wr=>wr.rangeLeft b W.heap.size)
 case atStart=>
  exact⟨_,_,[],a5,by simp,Z5.start E,HJ.out [] W w0 none H0.out ae (fun r e=>by cases e)⟩
 case round=>
  obtain⟨left,cnt,y,U,ap,hC,a2⟩:=hrel
  gi_wp2_with (first
   | (gi_at_next;refine wpListIn_next_ranges _ rfl _ rfl 36 (int_keyed N) R (fun x:Nat=>Value.int .u64 x) id (fun key kl hk=>by obtain⟨x,hx,_⟩:=ZT N hk;exact⟨x,hx⟩) (fun v _ _=>⟨v,rfl⟩) b W.heap.size Z _ _ _ rfl U ?_ ?_)
   | gi_in)
  · intro an ah
    gi_wp2
    go_end0;exact⟨⟨_,rfl⟩,y,⟨hC.1,by omega,fun x=>by rw[hC.2 x,ah];simp⟩,a2⟩
  · intro x c kl yd yp w2 a3 a4 aj hv ab a6 ak af am aq
    obtain⟨x',ex,rfl,a7⟩:=ZT N a4
    obtain rfl : x = x' := by have h9 : (x : Int) = (x' : Int) := by simpa using ex
                              omega
    have a9:J y w2:=HJ.out y wr w2 (some W.heap.size) a2 af (fun r e=>by cases e;exact⟨g_ _,U.iter_walk⟩);obtain⟨fn,tmps,assign,body,hy,hR⟩:=HY.out y x w2 ⟨by omega,a7⟩ a9;clear am
    gi_wp2
    refine hR.mono ?_;rintro e W3 ⟨rfl,aa,ag⟩
    gi_wp2
    have V:=a6.of_walks ag.2
    go_roundw
    case rel=>exact⟨_,a3,y++[x],V,by simp;omega,hC.step aj ab,aa⟩
    case measure=>rw[V.left_eq,U.left_eq];exact ak
end
section
open Go Go.RowKit Go.Shelf Go.IntWalk Go.Maps Go.Sort
theorem EL {l:List Int}(r:∀x∈l,0 <= x):(l.map Int.toNat).map (fun n:Nat=>Value.int .u64 n)=l.map (Value.int .u64):=by
 rw[Zv];refine Jh fun x y=>?_
 show Value.int .u64 (x.toNat:Int)=_
 rw[Yx (r x y)]
theorem Pb (w:World)(xs:List Nat)(ao:Option Addr)(cap:Nat)(l:List Blk)(hr:Gh 36 1 ao xs.length cap (Gf xs) l)(hH:Has w l)(hn:xs.length <= 65536):
  Calls prog 217 #[.slice ao xs.length cap] w fun e w'=>e=.returned (.tuple #[]) /\ ∃ys l',ys.Perm xs /\ ys.Pairwise (· <= ·) /\ Gh 36 1 ao xs.length cap (Gf ys) l' /\ Turn l w l' w':=by
 obtain⟨hx,hc,hm,h|⟨g,J,rfl,rfl,a5,a3⟩⟩:=hr
 · obtain⟨rfl,V,rfl⟩:=h
   have a4:xs=[]:=by
    cases xs with
    | nil=>rfl
    | cons a b=>simp at hc;omega
   subst a4;subst V;refine(BR w).mono ?_;rintro e w' ⟨rfl,rfl⟩;exact⟨rfl,[],[],.refl _,.nil,Zb _ _,r_ hH⟩
 · have Z:∀j v,xs[j]?= some v -> J[j]?= some (Value.int .u64 (v:Nat)):=fun j v y=>by
     rw[M5 a3 j (by have:=(m_.1 y).1;omega)];exact JL y
   obtain⟨d,hd⟩:∃d:Array Int,d=(xs.map Int.ofNat).toArray:=⟨_,rfl⟩;have M:d.size=xs.length:=(by rw[hd];simp);have Rx:d.toList=xs.map Int.ofNat:=by rw[hd]
   have WH:Q8 .u64 J 0 d:=fun j y=>by
    obtain⟨v,hv⟩:∃v,xs[j]?= some v:=⟨xs[j]'O,a_ _⟩;rw[Q_,Z j v hv];have h1:d[j]?= some (v:Int):=(by rw[hd];simp[hv]);rw[getElem!_def,h1]
   have hs:=QW g 0 cap J w d [] w (Ts.refl hH WH) O;rw[M]at hs;refine hs.mono ?_;rintro e w' ⟨rfl,r,⟨hP,a0⟩,c,h1,h2,hT⟩;have a2:r.size=xs.length:=hP.1.trans M
   have U:r.toList.Perm (xs.map Int.ofNat):=by
    have G:=hP.2.2;rw[show r.extract 0 xs.length=r from by rw[←a2];exact Array.extract_size,show d.extract 0 xs.length=d from by rw[←M];exact Array.extract_size,Rx]at G;exact G
   have h0:∀x∈r.toList,0 <= x:=fun x hx=>by
    obtain⟨n,-,rfl⟩:=U_.1 (U.mem_iff.1 hx);exact Yb n
   have E:(r.toList.map Int.toNat).Perm xs:=by
    have G:=U.map Int.toNat;rw[Zv]at G
    have h4:xs.map (Int.toNat ∘ Int.ofNat)=xs:=by
     rw[show(Int.toNat ∘ Int.ofNat)=id from by funext n;rfl,List.map_id]
    rw[h4]at G;exact G
   have a6:(r.toList.map Int.toNat).length=xs.length:=E.length_eq;refine⟨rfl,r.toList.map Int.toNat,_,E,?_,⟨by rw[G8];omega,hc,hm,.inr ⟨g,c,rfl,rfl,by omega,?_⟩⟩,hT⟩
   · rw[Yd]
     intro i j hi y a1;have N:j<r.size:=(by simpa using y);have h5:=a0 i j (u_ _) a1 O;rw[getElem!_pos r i O,getElem!_pos r j N]at h5;have h6:r[i]'O <= r[j]'N:=(by simpa [ltInt]using h5);simp only[List.getElem_map,Array.getElem_toList];omega
   · unfold Gf
     rw[EL h0,Xs];refine Xq fun j=>?_
     by_cases y:j<xs.length
     · rw[Xr y,Zj]
       have h7:=h2 j O;rw[Q_]at h7;rw[h7,G_,Zj,Ye O,getElem!_pos r j O]
       rfl
     ·rw[Qb (by rw[Qh];omega),Qb (by rw[n_,Yy];omega)]
theorem BT (w:World)(b N:Nat)(m:List (Int×Value))(o:Obj)(hb:w.heap[b]?= some o)(hm:Kt .u64 m o)(hk:∀p∈m,0 <= p.1 /\ p.1<18446744073709551616)(hl:m.length <= 4096)(hc:w.cell? ⟨N,0,none⟩=some (.map (some b))):
  Calls prog 169 #[.func (.func 218) #[] #[pt N]] w fun e w'=>∃(r:List Nat) (ao:Option Addr) (cap:Nat) (l:List Blk),e=.returned (.slice ao r.length cap) /\ r.Nodup /\ r.Pairwise (· <= ·) /\ r.length <= 4096 /\ (∀x:Nat,x∈r↔(x:Int)∈m.map (·.1)) /\ Gh 36 1 ao r.length cap (Gf r) l /\ Turn [] w l w':=by
 obtain⟨Z,E,U,M⟩:=hm.ownsQ (P:=prog) (kt:=36) hb underlying36 (fun p y=>by
  have h:=hk p y;have h2:IntKind.u64.min <= p.1 /\ p.1 <= IntKind.u64.max:=⟨by rw[show IntKind.u64.min=0 from rfl];exact h.1,by rw[show IntKind.u64.max=18446744073709551615 from by decide];omega⟩
  simpa [Lit.wf]using h2) (Qf hl (by decide))
 have HC:=uh (FK w 218 #[pt N] 4096 O (fun pre x=>pre.length+1 <= Maps.size Z /\ x<18446744073709551616) (fun ss=>ss.Nodup /\ ss.length <= Maps.size Z /\ ∀x:Nat,x∈ss↔has Z (.int .u64 x)=true) (fun pre x h=>by omega)
  (enters_of func218 kr rfl)
  (fun W0 hB=>PE 5 O W0 b _ N Z (by
    have a4:=E.lt;obtain⟨es,a0,hb,Ft,hs,hD⟩:=E;exact⟨es,a0,(hB.block b a4).trans hb,Ft,hs,hD⟩) ((hB.cell (p:=⟨N,0,none⟩) (c_ w _ hc)).trans hc) _ _ _))
 have HH:=uh U;have Hz:=uh M;clear E U M hm hb hk hc
 go_enter func169,ntmps169
 go_wp2_with fail
 refine HC.out.mono ?_;rintro e w2 ⟨xs,ao,cap,l,⟨a1,a2,V⟩,rfl,G,T⟩;have a5:xs.length <= 4096:=by rw[Hz.out]at a2;omega
 have Hs:=uh (Pb w2 xs ao cap l G T.has O);have HT:=uh T;have HX:=uh (⟨a1,fun x=>(V x).trans (HH.out x)⟩:xs.Nodup /\ ∀x:Nat,x∈xs↔(x:Int)∈m.map (·.1));clear a1 V a2 G T HC HH Hz
 go_wp2_with fail
 refine Hs.out.mono ?_;rintro e w3 ⟨rfl,r,l',y,J,G,T⟩;have HY:=uh (⟨y,J,G,HT.out.trans T⟩:r.Perm xs /\ r.Pairwise (· <= ·) /\ Gh 36 1 ao xs.length cap (Gf r) l' /\ Turn [] w l' w3);clear y J G T HT Hs
 go_wp2_with fail
 go_ret;obtain⟨y,J,G,T⟩:=HY.out;have a3:=y.length_eq;exact⟨r,ao,cap,l',by rw[a3];rfl,y.nodup_iff.2 HX.out.1,J,by omega,fun x=>y.mem_iff.trans (HX.out.2 x),by rw[a3];exact G,T⟩
end
section
open Go Go.RowKit Go.IntWalk Go.Sort
theorem D5 {l:List Int}(r:∀x∈l,0 <= x):(l.map Int.toNat).map (fun n:Nat=>yV n)=l.map (Value.int .u8):=by
 rw[Zv];refine Jh fun x y=>?_
 show yV (x.toNat:Int)=_
 rw[Yx (r x y)]
theorem QX (w:World)(xs:List Nat)(ao:Option Addr)(cap:Nat)(l:List Blk)(hr:Gh 5 1 ao xs.length cap (Sm xs) l)(hH:Has w l)(hn:xs.length <= 4294967296):
  Calls prog 89 #[.slice ao xs.length cap] w fun e w'=>e=.returned (.tuple #[]) /\ ∃ys l',ys.Perm xs /\ ys.Pairwise (· <= ·) /\ Gh 5 1 ao xs.length cap (Sm ys) l' /\ Turn l w l' w':=by
 obtain⟨hx,hc,hm,h|⟨g,J,rfl,rfl,a5,a3⟩⟩:=hr
 · obtain⟨rfl,V,rfl⟩:=h
   have a4:xs=[]:=by
    cases xs with
    | nil=>rfl
    | cons a b=>simp at hc;omega
   subst a4;subst V;refine(Eg w).mono ?_;rintro e w' ⟨rfl,rfl⟩;exact⟨rfl,[],[],.refl _,.nil,Zb _ _,r_ hH⟩
 · have Z:∀j v,xs[j]?= some v -> J[j]?= some (yV (v:Nat)):=fun j v y=>by
     rw[M5 a3 j (by have:=(m_.1 y).1;omega)];exact N5 y
   obtain⟨d,hd⟩:∃d:Array Int,d=(xs.map Int.ofNat).toArray:=⟨_,rfl⟩;have M:d.size=xs.length:=(by rw[hd];simp);have Rx:d.toList=xs.map Int.ofNat:=by rw[hd]
   have WH:Q8 .u8 J 0 d:=fun j y=>by
    obtain⟨v,hv⟩:∃v,xs[j]?= some v:=⟨xs[j]'O,a_ _⟩;rw[Q_,Z j v hv];have h1:d[j]?= some (v:Int):=(by rw[hd];simp[hv]);rw[getElem!_def,h1]
   have hs:=jt g 0 cap J w d [] w (Ts.refl hH WH) O;rw[M]at hs;refine hs.mono ?_;rintro e w' ⟨rfl,r,⟨hP,a0⟩,c,h1,h2,hT⟩;have a2:r.size=xs.length:=hP.1.trans M
   have U:r.toList.Perm (xs.map Int.ofNat):=by
    have G:=hP.2.2;rw[show r.extract 0 xs.length=r from by rw[←a2];exact Array.extract_size,show d.extract 0 xs.length=d from by rw[←M];exact Array.extract_size,Rx]at G;exact G
   have h0:∀x∈r.toList,0 <= x:=fun x hx=>by
    obtain⟨n,-,rfl⟩:=U_.1 (U.mem_iff.1 hx);exact Yb n
   have E:(r.toList.map Int.toNat).Perm xs:=by
    have G:=U.map Int.toNat;rw[Zv]at G
    have h4:xs.map (Int.toNat ∘ Int.ofNat)=xs:=by
     rw[show(Int.toNat ∘ Int.ofNat)=id from by funext n;rfl,List.map_id]
    rw[h4]at G;exact G
   have a6:(r.toList.map Int.toNat).length=xs.length:=E.length_eq;refine⟨rfl,r.toList.map Int.toNat,_,E,?_,⟨by rw[KG];omega,hc,hm,.inr ⟨g,c,rfl,rfl,by omega,?_⟩⟩,hT⟩
   · rw[Yd]
     intro i j hi y a1;have N:j<r.size:=(by simpa using y);have h5:=a0 i j (u_ _) a1 O;rw[getElem!_pos r i O,getElem!_pos r j N]at h5;have h6:r[i]'O <= r[j]'N:=(by simpa [ltInt]using h5);simp only[List.getElem_map,Array.getElem_toList];omega
   · unfold Sm
     rw[D5 h0,Xs];refine Xq fun j=>?_
     by_cases y:j<xs.length
     · rw[Xr y,Zj]
       have h7:=h2 j O;rw[Q_]at h7;rw[h7,G_,Zj,Ye O,getElem!_pos r j O]
       rfl
     ·rw[Qb (by rw[Qh];omega),Qb (by rw[n_,Yy];omega)]
theorem TQ (xs:List Nat):∀k,k <= xs.length -> ∀v,v∈J0 xs k↔v∈xs.take k
 | 0,_,v=>by simp[J0]
 | k+1,hk,v=>by
  have r:=TQ xs k O;rw[RP O,s_,Qa,←r,J0,s_]
  by_cases h:k≠0 /\ xs.getD (k-1) 0=xs.getD k 0
  · rw[v_ h]
    constructor
    · rintro(h1|h1)
      ·exact .inl h1
      ·cases h1
    · rintro(h1|rfl)
      ·exact .inl h1
      · refine .inl ((r _).2 ?_)
        rw[←h.2];exact q_ (i:=k-1) (by rw[Xr O];exact SH O)
  ·rw[y_ h,Qa]
theorem VD (xs:List Nat)(M:xs.Pairwise (· <= ·)):∀k,k <= xs.length -> (J0 xs k).Pairwise (· < ·) /\ ∀v∈J0 xs k,k≠0 /\ v <= xs.getD (k-1) 0
 | 0,_=>⟨.nil,fun v h=>by cases h⟩
 | k+1,hk=>by
  have y:=VD xs M k O
  have E:∀i,i<k -> xs.getD i 0 <= xs.getD k 0:=fun i U=>by
   have h:=Yd.1 M i k O O U;rw[M_,M_,a_ O,a_ O];exact h
  rw[J0,Nat.add_sub_cancel]
  by_cases h:k≠0 /\ xs.getD (k-1) 0=xs.getD k 0
  · rw[v_ h,p_]
    exact⟨y.1,fun v r=>⟨by omega,by have:=(y.2 v r).2;omega⟩⟩
  · rw[y_ h]
    refine⟨List.pairwise_append.2 ⟨y.1,List.pairwise_singleton ..,fun a N b J=>?_⟩,fun v r=>⟨by omega,?_⟩⟩
    · rw[Qa]at J
      subst J;have h1:=y.2 a N;have h2:=E (k-1) O;have G:¬xs.getD (k-1) 0=xs.getD k 0:=fun G=>h ⟨h1.1,G⟩;omega
    · rcases s_.1 r with r|r
      · have h1:=y.2 v r
        have h2:=E (k-1) O;omega
      · rw[Qa]at r
        omega
theorem Dm (w:World)(ao:Option Addr)(cap:Nat):Calls prog 90 #[.slice ao 0 cap] w fun e w'=>e=.returned (.slice ao 0 cap) /\ w'=w:=by
 go_enter func90,ntmps90
 go_wp2
 go_ret;exact⟨rfl,rfl⟩
theorem Pj (w:World)(xs:List Nat)(cap:Nat)(ao:Option Addr)(l:List Blk)(hr:Gh 5 1 ao xs.length cap (Sm xs) l)(hH:Has w l)(hn:xs.length <= 4294967296):
  Calls prog 30 #[.slice ao xs.length cap] w fun e w'=>∃(V:List Nat) (l':List Blk),e=.returned (.slice ao V.length cap) /\ V.Pairwise (· < ·) /\ (∀v,v∈V↔v∈xs) /\ Src w' ao V.length cap 1 (Sm V) /\ Turn l w l' w':=by
 have Hs:=uh (QX w xs ao cap l hr hH hn);clear hr hH
 go_enter func30,ntmps30
 go_wp2_with fail
 refine Hs.out.mono ?_;rintro e w1 ⟨rfl,r,l1,J,N,E,y⟩;have U:=J.length_eq;have HP:=uh J
 by_cases h0:xs.length=0
 · have a5:xs=[]:=Xt h0
   subst a5;have G:=uh (Dm w1 ao cap);have Z:=uh y;have a6:r=[]:=Xt U;subst a6;have HS:=uh (E.src (R:=[]) (by rw[p_];exact y.has));clear Hs J N E y U h0;simp only[Qj]
   go_wp2_with fail
   refine G.out.mono ?_;rintro e w2 ⟨rfl,rfl⟩
   go_wp2_with fail
   go_ret;exact⟨[],_,rfl,.nil,fun v=>Iff.rfl,HS.out,Z.out⟩
 · obtain⟨g,a0,rfl,rfl,a4,a3⟩:=E.some_of O
   have a7:=E.2.1
   have hc:∀j,j<r.length -> a0[j]?= some (yV (r.getD j 0:Nat)):=fun j M=>by
    rw[M5 a3 j O];exact N5 (SH M)
   have G:=uh (gP g cap r a0 w1 O O O O hc y.has);have HD:=uh (⟨(VD r N r.length (g_ _)).1,fun v=>by rw[TQ r r.length (g_ _),D_];exact J.mem_iff⟩:(J0 r r.length).Pairwise (· < ·) /\ ∀v,v∈J0 r r.length↔v∈xs);rw[U]at G HD;have Z:=uh y;generalize J0 r xs.length=D at*;clear Hs J N E y a4 a3 hc HP h0
   go_wp2_with fail
   refine G.out.mono ?_;rintro e w2 ⟨c,rfl,a2,a1⟩;have HX:=uh (And.intro a2 (Z.out.trans a1));clear a2 a1 Z G
   go_wp2_with fail
   go_ret;refine⟨D,_,rfl,HD.out.1,HD.out.2,⟨by rw[KG,Xs],fun h=>(by cases h),fun ad ha j u M=>?_⟩,HX.out.2⟩
   cases ha
   obtain⟨v,hv⟩:∃v,D[j]?= some v:=⟨D[j]'(by have:=(m_.1 M).1;rwa [KG]at this),a_ _⟩;rw[N5 hv]at M
   cases M
   rw[KS,Q_];exact(HX.out.2.cell1 j).trans (HX.out.1 j v hv)
abbrev Z6:=Nat×Int×Int×Nat×Int
def Le (x:Z6):List Value:=[yV x.1,iV x.2.1,iV x.2.2.1,uV x.2.2.2.1,iV x.2.2.2.2]
def FL (l:List Z6):List Value:=l.flatMap Le
theorem Rd (l:List Z6):(FL l).length=l.length*5:=LL (sz:=5) (fun _=>rfl) l
def PU (x:Br):Z6:=(x.1,x.2.1,x.2.2.1,x.2.2.2.1,x.2.2.2.2)
theorem EU (l:List Br):Nm l=FL (l.map PU):=by
 unfold Nm FL;rw[List.flatMap_map]
 rfl
theorem A7 (w:World)(l:List Z6)(ao:Option Addr)(cap:Nat)(U:Src w ao l.length cap 5 (FL l))(hl:l.length <= 4294967296):
  Calls prog 7 #[.slice ao l.length cap] w fun e w'=>∃(G:List Nat) (J:Option Addr) (M:Nat) (l':List Blk),G.Pairwise (· < ·) /\ (∀v,v∈G↔v∈l.map (·.1)) /\ e=.returned (.slice J G.length M) /\ Src w' J G.length M 1 (Sm G) /\ Turn [] w l' w':=by
 have a0:=Ns;have HS:=uh U;have a3:=uh (r_ (C_ w));clear U
 go_enter func7,ntmps7
 go_wp2_with fail
 go_loopw [2,7] (fun v2 v7 wr=>∃(i:Nat) (J:Option Addr) (M:Nat) (lr lj:List Blk),i <= l.length /\ v7=iV i /\ v2=.slice J i M /\ Gh 5 1 J i M (Sm ((l.take i).map (·.1))) lr /\ Turn [] w (lr++lj) wr) (fun _ v7 _=>l.length-(intOf v7).toNat)
 case atStart=>exact⟨0,none,0,[],[],u_ _,by go_num,rfl,Zb _ _,a3.out⟩
 case round=>
  clear a3;obtain⟨i,J,M,lr,lj,hi,rfl,rfl,N,V⟩:=hrel
  by_cases af:i<l.length
  · have aj:(i:Int)<(l.length:Int):=O
    obtain⟨b0,hb⟩:∃b,l[i]?= some b:=⟨l[i],a_ af⟩;have HN:=uh (by rw[KT (f:=fun b:Z6=>b.1) hb];simp[Sm]:Sm ((l.take (i+1)).map (·.1))=Sm ((l.take i).map (·.1))++[yV (b0.1:Nat)]);obtain⟨k,Bk,E,r,y⟩:=b0;simp only at HN;have U:=HS.out.below V.below;obtain⟨b,off,rfl,-⟩:=U.form (by rw[Rd];omega);have a6:wr.rangeAt b (off+i*5) [yV k,iV Bk,iV E,uV r,iV y]:=Src.fm (f:=Le) (fun _=>rfl) U hb;have T3:=V.alloc (.cells #[yV 0,iV 0,iV 0,uV 0,iV 0] 39);have a7:(wr.alloc (.cells #[yV 0,iV 0,iV 0,uV 0,iV 0] 39)).there wr.heap.size 0 5:=T3.there1;have a1:=uh (T3.laid [yV k,iV Bk,iV E,uV r,iV y] rfl);have ah:(#[yV k,iV Bk,iV E,uV r,iV y]:Array Value).all (·.oneCell')=true:=Yn (cs:=[yV k,iV Bk,iV E,uV r,iV y]) (by simp[Value.oneCell']);have aa:=uh N;have ac:i+1 <= maxLen:=(by unfold maxLen;omega);have ae:(i+1)*1 <= 140737488355328:=O;clear T3 V hb N U
    go_wp2_with (first
     | (show lW 39;refine J_ rfl 39 _ rfl b (off+i*5) rfl [yV k,iV Bk,iV E,uV r,iV y] _ a6 underlying39 rfl a0 ?_;clear a6)
     | (show sW 39;refine h_ rfl 39 _ _ rfl wr.heap.size 0 #[yV k,iV Bk,iV E,uV r,iV y] rfl rfl a7 a0 ah ?_;clear a7;generalize(wr.alloc (.cells #[yV 0,iV 0,iV 0,uV 0,iV 0] 39)).setCells wr.heap.size 0 [yV k,iV Bk,iV E,uV r,iV y]=w3 at*;generalize wr.heap.size=nb at*;have q0:=a1.out.cell1 0)
     | (at_builtin;have T6:=uh (a1.out.alloc (.cells #[yV k] 5));refine K_ rfl _ _ rfl Dd rfl aa.out (R:=(w3.heap.size,.cells #[yV k] 5)::(nb,.cells #[yV k,iV Bk,iV E,uV r,iV y] 39)::lj) (T6.out.perm po).has rfl (news:=[yV k]) rfl (Qy (A_ _ _)) (by simp[Value.oneCell']) ac ae ?_;intro a9 p9 l9 w8 a5 V9 ag;have a8:=uh ((T6.out.perm po).trans V9);have ab:=uh a5;clear V9 a5 ag)
     | fail)
    go_roundw
    case rel=>exact⟨i+1,a9,p9,l9,_,by omega,by go_num,rfl,by rw[HN.out];exact ab.out,a8.out⟩
    case measure=>simp[intOf];omega
  · obtain rfl:i=l.length:=O
    have ak:¬((l.length:Nat):Int)<(l.length:Int):=O;rw[D_]at N;have Hr:=uh (Pj wr (l.map (·.1)) M J lr (by rw[n_];exact N) V.has.left (by rw[n_];exact hl));rw[n_]at Hr;have HV:=uh V;clear N V
    go_wp2_with fail
    refine Hr.out.mono ?_;rintro e w2 ⟨G,l',rfl,a4,Z,hs,hT⟩;have HX:=uh (⟨a4,Z,hs,HV.out.trans (hT.more HV.out.has)⟩:G.Pairwise (· < ·) /\ (∀v,v∈G↔v∈l.map (·.1)) /\ Src w2 J G.length M 1 (Sm G) /\ Turn [] w (l'++lj) w2);clear hs hT HV Hr a4 Z
    go_wp2_with fail
    go_ret;exact⟨G,J,M,_,HX.out.1,HX.out.2.1,rfl,HX.out.2.2.1,HX.out.2.2.2⟩
end
section
open Go Go.RowKit Go.IntWalk
def XA (w:World)(pb:Option Addr)(many:Int):Prop:=(pb=none /\ many= -1)∨∃b n:Nat,pb=some (aD b 0) /\ many=n /\ n <= 65536 /\ w.cell? (aD b 2)=some (iV n)
theorem XA.below {w w':World}{pb:Option Addr}{r:Int}(h:XA w pb r)(G:Below w.heap.size w w'):XA w' pb r:=by
 rcases h with h|⟨b,n,h1,h2,E,y⟩
 ·exact .inl h
 ·exact .inr ⟨b,n,h1,h2,E,(G.cell (p:=(aD b 2)) (c_ w _ y)).trans y⟩
def Kj (many:Int)(z:Nat):List Br:=if 0 <= many /\ many≠z then [(6,many.toNat,0,0,0)]else []
theorem U6 (r:Int)(z:Nat):(Kj r z).length <= 1:=by unfold Kj;split<;>simp
theorem PW (w:World)(b n:Nat)(r:w.cell? (aD b 2)=some (iV n)):Calls prog 66 #[pt b] w fun e w'=>e=.returned (iV n) /\ w'=w:=by
 go_enter func66,ntmps66
 go_wp2
 go_ret;exact⟨rfl,rfl⟩
theorem ET (w:World)(bs V sb z:Nat)(pb:Option Addr)(r:Int)(a2:w.cell? (aD V 0)=some (.pointer pb))(a5:w.cell? (aD bs 0)=some (pt sb))(hb:XA w pb r)
  (M:∀w',Below w.heap.size w w' -> Calls prog 67 #[pt sb] w' fun e w2=>e=.returned (iV z) /\ w2=w'):
  Calls prog 65 #[pt V,pt bs] w fun e w'=>∃ao cap l,e=.returned (.slice ao (Kj r z).length cap) /\ Gh 39 5 ao (Kj r z).length cap (Nm (Kj r z)) l /\ Turn [] w l w':=by
 rcases hb with⟨rfl,rfl⟩|⟨b,n,rfl,rfl,hn,hc⟩
 · have G:Hid (Kj (-1) z=[]):=uh (y_ O)
   have E:=uh (r_ (C_ w));rw[G.out];clear M
   go_enter func65,ntmps65
   go_wp2_with fail
   go_quiet (fail)
   have y:=uh (E.out.drewN nq);clear E
   go_wp2_with fail
   go_ret;exact⟨none,0,[],rfl,Zb _ _,y.out⟩
 · have J:=uh (fun k=>PW (w.drewN k) b n hc)
   have U:=uh (fun k=>M (w.drewN k) (LJ (T_ _ _) k));have E:=uh (r_ (C_ w))
   by_cases hz:n=z
   · have G:Hid (Kj (n:Int) z=[]):=uh (y_ O)
     have hk:((n:Int) != (z:Int))=false:=(by rw[Xm];omega);rw[G.out];clear M hz
     go_enter func65,ntmps65
     go_wp2_with fail
     go_quiet (first
      | (go_at_call 66;refine Calls.quiet_of_same (J.out _))
      | (go_at_call 67;refine Calls.quiet_of_same (U.out _)))
     have y:=uh (E.out.drewN nq);clear E
     go_wp2_with fail
     go_ret;exact⟨none,0,[],rfl,Zb _ _,y.out⟩
   · have G:Hid (Kj (n:Int) z=[(6,n,0,0,0)]):=uh (by unfold Kj;rw[v_ ⟨by omega,by omega⟩,Qs])
     have hk:((n:Int) != (z:Int))=true:=(by rw[Qe];omega);rw[G.out];clear M hz
     go_enter func65,ntmps65
     go_wp2_with fail
     go_quiet (first
      | (go_at_call 66;refine Calls.quiet_of_same (J.out _))
      | (go_at_call 67;refine Calls.quiet_of_same (U.out _)))
     have y:=uh (E.out.drewN nq);have Z:=uh (J.out nq);have a4:(w.drewN nq).cell? (aD V 0)=some (pt b):=a2;clear E J U;generalize w.drewN nq=w1 at*;have T3:=uh (y.out.alloc (.cells #[yV 6,iV n,iV 0,uV 0,iV 0] 39))
     go_wp2_with (first
      | (go_at_call 66;refine Z.out.mono ?_;rintro e w' ⟨rfl,hw⟩;rw[hw];clear hw w')
      | (at_builtin;refine K_ rfl _ _ rfl GB rfl (Zb _ _) (R:=[(w1.heap.size,.cells #[yV 6,iV n,iV 0,uV 0,iV 0] 39)]) T3.out.has rfl (news:=[yV 6,iV n,iV 0,uV 0,iV 0]) rfl (Qy (A_ _ _)) (by simp[Value.oneCell']) (by decide) O ?_;intro a9 p9 l9 w8 N V9 a3;have a0:=uh (T3.out.trans V9);have a1:=uh N;clear V9 N a3)
      | fail)
     go_ret;exact⟨a9,p9,l9,rfl,a1.out,a0.out.sub (x_ ..)⟩
end
section
open Go Go.RowKit Go.Sort
end
section
open Go Go.RowKit Go.IntWalk
def MN (L:List Ty)(W:List Nat)(cs:List Ce)(hh hp hw:List (Nat×Nat)):List Br:=(S2 L W cs).map g3++(GK 3 cs hh++(GK 4 cs hp++J5 cs hw))
theorem MF (k:Nat)(cs:List Ce)(l:List (Nat×Nat)):(GK k cs l).length <= l.length:=by have h:=NB k cs l l.length;rwa [D_]at h
theorem RW (cs:List Ce)(l:List (Nat×Nat)):(J5 cs l).length <= l.length:=by have h:=Tq cs l l.length;rwa [D_]at h
def Ke (f:Nat -> Bool)(L:List Ty)(W:List Nat)(cs:List Ce)(en:Nat)(hh hp hw:List (Nat×Nat))(many:Int):List Br:=
 if Lk f (ats cs) en (W.length/2)=[]then(Jy f L W cs en).map S1++(GV cs cs.length++(GK 3 cs hh++(GK 4 cs hp++(J5 cs hw++Kj many (W.length/2)))))else(Jy f L W cs en).map S1
theorem H9 {L:List Ty}{W B:List Nat}{cs:List Ce}{en:Nat}(r:WdIn L W B)(y:Chain L W 0 cs en)(E:Ky L W en)(h:Lk (Gv B) (ats cs) en (W.length/2)=[]):SdIn L W B cs:=by
 obtain⟨rfl,G⟩:=(UL E.le).1 h
 exact⟨r.few,r.u64,r.ty,r.lt,y,r.bu,r.bl,fun i J=>by
  rw[G i J,decide_eq_true_iff,Rs]⟩
theorem WE {f:Nat -> Bool}{L:List Ty}{W:List Nat}{cs:List Ce}{en:Nat}:1∈(((Jy f L W cs en).map S1).map PU).map (·.1)↔Lk f (ats cs) en (W.length/2)≠[]:=by
 unfold Jy
 constructor
 · intro h y
   rw[y,L_]at h;simp only[Zv,U_]at h;obtain⟨x,-,r⟩:=h;exact absurd r (by show(2:Nat)≠1;decide)
 · intro h
   obtain⟨x,r⟩:=List.exists_mem_of_ne_nil _ h;have h1:=Dq r;simp only[Za,s_,Zv,U_];exact .inl ⟨x,r,h1⟩
theorem S7:∀{ys:List Nat} {lo n:Nat},ys.Pairwise (· < ·) -> (∀v∈ys,lo <= v /\ v<n) -> lo <= n -> ys.length+lo <= n
 | [],_,_,_,_,h=>by simpa using h
 | y::ys,lo,n,hp,hv,_=>by
  have h1:=hv y (d_ ..);have h2:=List.pairwise_cons.1 hp;have r:=S7 (lo:=y+1) (n:=n) h2.2 (fun v h=>⟨h2.1 v h,(hv v (V_ _ h)).2⟩) O;rw[B_];omega
theorem XX {r:List Nat}{n:Nat}(h:r.Pairwise (· < ·))(y:∀v∈r,v<n):r.length <= n:=S7 (lo:=0) h (fun v E=>⟨u_ _,y v E⟩) (u_ _)
theorem EE {F:List Ft}{v:Nat}(h:v∈((F.map S1).map PU).map (·.1)):v<256:=by
 simp only[Zv,U_]at h;obtain⟨x,-,rfl⟩:=h
 show(if x.2.2=8 then 2 else 1)<256
 split<;>omega
def JW (E A B C D:List Br):Nat -> List Br
 | 0=>E
 | 1=>E++A
 | 2=>E++(A++B)
 | 3=>E++(A++(B++C))
 | _=>E++(A++(B++(C++D)))
theorem Cs (E A B C D:List Br):JW E A B C D 1=JW E A B C D 0++A:=rfl
theorem Cr (E A B C D:List Br):JW E A B C D 2=JW E A B C D 1++B:=by simp[JW]
theorem Cq (E A B C D:List Br):JW E A B C D 3=JW E A B C D 2++C:=by simp[JW]
theorem Cp (E A B C D:List Br):JW E A B C D 4=JW E A B C D 3++D:=by simp[JW]
theorem Y1 (E A B C D:List Br)(i:Nat):(JW E A B C D i).length <= E.length+(A.length+(B.length+(C.length+D.length))):=by
 match i with
 | 0|1|2|3|i+4=>simp[JW]<;>omega
theorem j0 (w:World)(sb a aw tb bb:Nat){W B:List Nat}(bo:Option Addr)(aa:Nat)(am:Option Addr)(a7:Nat)(L:List Ty)(cs:List Ce)(en:Nat)(hA:SbAt w sb a aw tb bb W B bo aa am a7 L)(hI:WdIn L W B)(hC:Chain L W 0 cs en)(hE:Ky L W en)
  (ph pw pp:Option Addr)(hh hw hp:List (Nat×Nat))(aC:∀x∈hh,x.2<18446744073709551616)(aF:∀x∈hw,x.2<18446744073709551616)(aE:∀x∈hp,x.2<18446744073709551616)(b2:hh.length <= 65536)(b4:hw.length <= 65536)(b3:hp.length <= 65536)(aq:∀x∈hp,x.1=x.2)
  (au:Jz 42 36 ph w (hh.map (·.2)))(av:Jz 59 89 ph w (hh.map (·.1)))(ax:Jz 61 36 pp w (hp.map (·.2)))
  (ay:Jz 64 36 pw w (hw.map (·.2)))(az:Jz 63 115 pw w (hw.map (·.1)))
  (pb:Option Addr)(aj:Int)(br:XA w pb aj)(G:List Br)(bv:G=Ke (Gv B) L W cs en hh hp hw aj):
  Calls prog 17 #[pt sb,.pointer ph,.pointer pw,.pointer pp,.pointer pb] w fun e w'=>∃ao cap l,e=.returned (.tuple #[.slice ao G.length cap,iV 0]) /\ Gh 39 5 ao G.length cap (Nm G) l /\ Turn [] w l w':=by
 have bW:W.length/2 <= 32768:=by have:=hI.few;omega
 obtain⟨F,hF⟩:∃F,Jy (Gv B) L W cs en=F:=⟨_,rfl⟩;have bu:=MT hI hC hE (Gv B);rw[hF]at bu;have aK:=uh (fun w' (hk:Below w.heap.size w w')=>F4 w' sb a aw tb bb bo aa am a7 L cs en (hA.below hk) hI hC hE F hF.symm);have aV:=uh (fun w' ao cap (hS:Src w' ao (F.map S1).length cap 5 (Nm (F.map S1)))=>(by have h:=A7 w' ((F.map S1).map PU) ao cap (by rw[n_,←EU];exact hS) (by rw[n_,n_];omega);rw[n_ (f:=PU)]at h;exact h.mono fun e w2 ⟨ys,a2,p2,l',h1,h2,h3⟩=>⟨ys,a2,p2,l',XX h1 (fun v hv=>EE ((h2 v).1 hv)),h2,h3⟩:Calls prog 7 #[.slice ao (F.map S1).length cap] w' fun e w2=>∃(ys:List Nat) (a2:Option Addr) (p2:Nat) (l':List Blk),ys.length <= 256 /\ (∀v,v∈ys↔v∈((F.map S1).map PU).map (·.1)) /\ e=.returned (.slice a2 ys.length p2) /\ Src w2 a2 ys.length p2 1 (Sm ys) /\ Turn [] w' l' w2));have an:=uh (WE (f:=Gv B) (L:=L) (W:=W) (cs:=cs) (en:=en));rw[hF]at an;have aQ:=uh (fun h=>H9 hI hC hE h);have HA:=uh hA;have aS:=uh (And.intro (And.intro au av) (And.intro ax (And.intro ay az)));have aT:=uh (⟨aC,aF,aE,aq,b2,b4,b3⟩:(∀x∈hh,x.2<18446744073709551616) /\ (∀x∈hw,x.2<18446744073709551616) /\ (∀x∈hp,x.2<18446744073709551616) /\ (∀x∈hp,x.1=x.2) /\ hh.length <= 65536 /\ hw.length <= 65536 /\ hp.length <= 65536);have b7:=uh br;have HI:=uh hI;have M:=uh bv;unfold Ke at M;rw[hF]at M;obtain⟨E,aY⟩:∃E,F.map S1=E:=⟨_,rfl⟩
 have bt:E.length=F.length:=by rw[←aY,n_]
 rw[aY]at aK aV an M;rw[←bt]at aK bu;clear bt aY hF hA hI hC hE aC aF aE aq au av ax ay az br bv;have T0:=(((((r_ (C_ w)).alloc (bS sb)).alloc (.cells #[.pointer ph] 56)).alloc (.cells #[.pointer pw] 43)).alloc (.cells #[.pointer pp] 57)).alloc (.cells #[.pointer pb] 48);simp only[Y_]at T0
 go_enter func17,ntmps17
 have q5:=T0.has.cell (b:=w.heap.size) (c:=#[pt sb]) (e:=53) (f:=(0,0)) (by simp) 0;have aR:=uh T0;have aU:=uh (aK.out _ T0.below);clear T0
 go_wp2_with fail
 generalize((((w.alloc (bS sb)).alloc (.cells #[.pointer ph] 56)).alloc (.cells #[.pointer pw] 43)).alloc (.cells #[.pointer pp] 57)).alloc (.cells #[.pointer pb] 48)=W0 at*;obtain⟨r,bP⟩:∃r,w.heap.size=r:=⟨_,rfl⟩;rw[bP]at aR q5 ⊢;refine aU.out.mono ?_;rintro e w1 ⟨ao,cap,lc,rfl,aG,T1⟩;have bc:=uh (aR.out.grow T1);have aW:=uh aG;have Hk:=uh (aV.out w1 ao cap (aG.src (R:=[]) (by rw[p_];exact T1.has)));have aN:=uh (T1.below.cell (p:=(aD r 0)) (c_ W0 _ q5) |>.trans q5);clear aG T1 aR aU aK aV q5
 go_wp2_with fail
 refine Hk.out.mono ?_;rintro e w2 ⟨ys,a2,p2,lk,bQ,b5,rfl,bG,T2⟩;have ap:=uh (B0 w2 ys a2 p2 bG O 1);have aP:=uh (show decide (1∈ys)=true↔Lk (Gv B) (ats cs) en (W.length/2)≠[]from by rw[decide_eq_true_iff,b5];exact an.out);have q5:=(T2.below.cell (p:=(aD r 0)) (c_ w1 _ aN.out)).trans aN.out;have aH:=uh (bc.out.grow T2);clear bG T2 bc Hk aN b5 an bQ
 by_cases ah:Lk (Gv B) (ats cs) en (W.length/2)=[]
 case neg=>
  rw[y_ ah]at M;rw[aP.out.2 ah]at ap;clear ah aQ
  go_wp2_with (first
   | (go_at_call 54;refine ap.out.mono ?_;rintro e w' ⟨rfl,hw⟩;rw[hw];clear hw w')
   | fail)
  refine f_ (E_ rfl _ _ _) rfl ?_;exact⟨ao,cap,lc,by rw[M.out];rfl,by rw[M.out];exact aW.out,aH.out.sub ((x_ lc _).trans (Zy lk _))⟩
 case pos=>
 rw[v_ ah]at M;have b1:decide (1∈ys)=false:=Jf.2 (fun h=>aP.out.1 h ah);rw[b1]at ap;have a3:=aQ.out ah;have hA:=HA.out;obtain⟨⟨au,av⟩,ax,ay,az⟩:=aS.out;obtain⟨aC,aF,aE,aq,b2,b4,b3⟩:=aT.out;have Hg:=uh (Q6 w2 sb a aw tb am a7 L (hA.below aH.out.below).sp a3.few a3.u64 a3.ty a3.lt cs a3.chain);have bf:=uh (fun w' (hk:Below w.heap.size w w') bs y bh ae aA ac=>PS w' sb a aw tb bb bo aa am a7 L cs (hA.below hk) a3 bs y bh ph hh ae aA ac aC b2 (au.below hk) (av.below hk));have bg:=uh (fun w' (hk:Below w.heap.size w w') bs y bh ae aA ac=>gN w' sb a aw tb bb bo aa am a7 L cs (hA.below hk) a3 bs y bh pp hp ae aA ac aE b3 (ax.below hk) aq);have bj:=uh (fun w' (hk:Below w.heap.size w w') bs y bh ae aA ac=>PR w' sb a aw tb bb bo aa am a7 L cs (hA.below hk) a3 bs y bh pw hw ae aA ac aF b4 (ay.below hk) (az.below hk));have be:=uh (fun w' (hk:Below w.heap.size w w') bs bh ac ae=>ET w' bs bh sb (W.length/2) pb aj ac ae (b7.out.below hk) (fun w2 bz=>Rk w2 ((hA.below hk).below bz).sp.c0 ((hA.below hk).below bz).sp.ar a3.few));have bJ:=MF 3 cs hh;have bK:=MF 4 cs hp;have bL:=RW cs hw;have bM:=U6 aj (W.length/2);have bN:=M0 cs cs.length;have bU:=a3.chain.len;obtain⟨U,bm⟩:∃A,GK 3 cs hh=A:=⟨_,rfl⟩;obtain⟨Z,bn⟩:∃A,GK 4 cs hp=A:=⟨_,rfl⟩;obtain⟨A3,bp⟩:∃A,J5 cs hw=A:=⟨_,rfl⟩;obtain⟨A4,bq⟩:∃A,Kj aj (W.length/2)=A:=⟨_,rfl⟩;obtain⟨Gp,bx⟩:∃A,GV cs cs.length=A:=⟨_,rfl⟩;rw[bm]at bf bJ M;rw[bn]at bg bK M
 rw[bp]at bj bL M;rw[bq]at be bM M;rw[bx]at Hg bN M;clear bm bn bp bq bx hA a3 aC aF aE aq au av ax ay az aQ HA aS aT b7 HI aP b1 ah
 go_wp2_with (first
  | (go_at_call 54;refine ap.out.mono ?_;rintro e w' ⟨rfl,hw⟩;rw[hw];clear hw w')
  | fail)
 refine Hg.out.mono ?_;rintro e w3 ⟨ag,pg,lg,rfl,bF,T3⟩;have aJ:=uh (aH.out.grow T3);have ba:=uh (bF.src aJ.out.has);have aX:E.length+Gp.length <= maxLen:=by unfold maxLen;omega
 have b0:(E.length+Gp.length)*40 <= 140737488355328:=O;clear T3 bF aH Hg ap q5
 go_wp2_with (first
  | (at_builtin;refine Qv rfl _ _ rfl GB rfl rfl aW.out (R:=lg++(lk++[(r+1+1+1+1,.cells #[.pointer pb] 48),(r+1+1+1,.cells #[.pointer pp] 57),(r+1+1,.cells #[.pointer pw] 43),(r+1,.cells #[.pointer ph] 56),(r,bS sb)])) (aJ.out.perm po).has ba.out (NG _) aX b0 ?_;intro a9 p9 l9 w4 N V9;have a6:=uh (((aJ.out.perm po).trans V9).perm (l2:=l9++((lg++lk)++[(r+1+1+1+1,.cells #[.pointer pb] 48),(r+1+1+1,.cells #[.pointer pp] 57),(r+1+1,.cells #[.pointer pw] 43),(r+1,.cells #[.pointer ph] 56),(r,bS sb)])) po);have a0:=uh N;clear V9 N)
  | fail)
 have b8:=uh (Gy E Gp);have aL:(E++Gp).length=E.length+Gp.length:=e_ ..;rw[←b8.out,←aL]at a0;have bH:Hid (G=(E++Gp)++(U++(Z++(A3++A4)))):=uh (by rw[M.out,Qq]);rw[←aL];generalize E++Gp=E2 at*;have bT:E2.length <= E.length+Gp.length:=Nat.le_of_eq aL;clear M b8 aJ ba aX b0 aL
 -- four
 have T5:Turn [] w ((w4.heap.size+1,.cells #[.func (.func 58) #[] #[pt (r+1),pt w4.heap.size],.func (.func 60) #[] #[pt (r+1+1+1),pt w4.heap.size],.func (.func 62) #[] #[pt (r+1+1),pt w4.heap.size],.func (.func 65) #[] #[pt (r+1+1+1+1),pt r]] 142)::(w4.heap.size,.cells #[.func (.func 56) #[] #[pt r]] 139)::(l9++((lg++lk)++[(r+1+1+1+1,.cells #[.pointer pb] 48),(r+1+1+1,.cells #[.pointer pp] 57),(r+1+1,.cells #[.pointer pw] 43),(r+1,.cells #[.pointer ph] 56),(r,bS sb)]))) ((w4.alloc (.cells #[.func (.func 56) #[] #[pt r]] 139)).alloc (.cells #[.func (.func 58) #[] #[pt (r+1),pt w4.heap.size],.func (.func 60) #[] #[pt (r+1+1+1),pt w4.heap.size],.func (.func 62) #[] #[pt (r+1+1),pt w4.heap.size],.func (.func 65) #[] #[pt (r+1+1+1+1),pt r]] 142)):=by
  have h:=(a6.out.alloc (.cells #[.func (.func 56) #[] #[pt r]] 139)).alloc (.cells #[.func (.func 58) #[] #[pt (r+1),pt w4.heap.size],.func (.func 60) #[] #[pt (r+1+1+1),pt w4.heap.size],.func (.func 62) #[] #[pt (r+1+1),pt w4.heap.size],.func (.func 65) #[] #[pt (r+1+1+1+1),pt r]] 142);simp only[Y_]at h;exact h
 generalize(w4.alloc (.cells #[.func (.func 56) #[] #[pt r]] 139)).alloc (.cells #[.func (.func 58) #[] #[pt (r+1),pt w4.heap.size],.func (.func 60) #[] #[pt (r+1+1+1),pt w4.heap.size],.func (.func 62) #[] #[pt (r+1+1),pt w4.heap.size],.func (.func 65) #[] #[pt (r+1+1+1+1),pt r]] 142)=W5 at*;generalize w4.heap.size=y at*;have bk:=a0.out;have b9:=uh bk
 obtain⟨RS,aZ⟩:∃RS:List Blk,RS=((y+1,.cells #[.func (.func 58) #[] #[pt (r+1),pt y],.func (.func 60) #[] #[pt (r+1+1+1),pt y],.func (.func 62) #[] #[pt (r+1+1),pt y],.func (.func 65) #[] #[pt (r+1+1+1+1),pt r]] 142)::(y,.cells #[.func (.func 56) #[] #[pt r]] 139)::[(r+1+1+1+1,.cells #[.pointer pb] 48),(r+1+1+1,.cells #[.pointer pp] 57),(r+1+1,.cells #[.pointer pw] 43),(r+1,.cells #[.pointer ph] 56),(r,bS sb)]):=⟨_,rfl⟩;have a4:=uh aZ;have bd:=uh (T5.perm (l2:=l9++((lg++lk)++RS)) (Yh fun c=>by rw[aZ];simp<;>omega));clear aZ;clear bk T5 a6 a0
 go_loopw [12,50] (fun bR b6 wr=>∃(i:Nat) (a2:Option Addr) (p2:Nat) (lr lj:List Blk),i <= 4 /\ b6=iV i /\ bR=.slice a2 (JW E2 U Z A3 A4 i).length p2 /\ Gh 39 5 a2 (JW E2 U Z A3 A4 i).length p2 (Nm (JW E2 U Z A3 A4 i)) lr /\ Turn [] w (lr++(lj++RS)) wr) (fun _ b6 _=>4-(intOf b6).toNat)
 case atStart=>exact⟨0,a9,p9,l9,lg++lk,by omega,by go_num,rfl,b9.out,bd.out⟩
 case round=>
  clear bd b9;obtain⟨i,a2,p2,lr,lj,hi,rfl,rfl,bE,V⟩:=hrel;have ak:=uh bE;have aB:wr.cell? (aD r 0)=some (pt sb):=V.has.cell (b:=r) (c:=#[pt sb]) (e:=53) (f:=(0,0)) (by rw[a4.out];simp) 0;have aM:wr.cell? (aD y 0)=some (.func (.func 56) #[] #[pt r]):=V.has.cell (b:=y) (c:=#[.func (.func 56) #[] #[pt r]]) (e:=139) (f:=(0,0)) (by rw[a4.out];simp) 0;have bA:wr.cell? (aD (r+1) 0)=some (.pointer ph):=V.has.cell (b:=r+1) (c:=#[.pointer ph]) (e:=56) (f:=(0,0)) (by rw[a4.out];simp) 0;have bD:wr.cell? (aD (r+1+1) 0)=some (.pointer pw):=V.has.cell (b:=r+1+1) (c:=#[.pointer pw]) (e:=43) (f:=(0,0)) (by rw[a4.out];simp) 0;have bC:wr.cell? (aD (r+1+1+1) 0)=some (.pointer pp):=V.has.cell (b:=r+1+1+1) (c:=#[.pointer pp]) (e:=57) (f:=(0,0)) (by rw[a4.out];simp) 0;have bB:wr.cell? (aD (r+1+1+1+1) 0)=some (.pointer pb):=V.has.cell (b:=r+1+1+1+1) (c:=#[.pointer pb]) (e:=48) (f:=(0,0)) (by rw[a4.out];simp) 0;have Hh:=uh (bf.out wr V.below r y (r+1) aB aM bA);have Hp:=uh (bg.out wr V.below r y (r+1+1+1) aB aM bC);have Hw:=uh (bj.out wr V.below r y (r+1+1) aB aM bD);have Hb:=uh (be.out wr V.below r (r+1+1+1+1) bB aB);have bV:=Y1 E2 U Z A3 A4 i;clear bE aB aM bA bD bC bB;obtain rfl|rfl|rfl|rfl|rfl:i=0∨i=1∨i=2∨i=3∨i=4:=O
  · have q:wr.cell? (aD (y+1) 0)=some (.func (.func 58) #[] #[pt (r+1),pt y]):=V.has.cell (b:=y+1) (c:=#[.func (.func 58) #[] #[pt (r+1),pt y],.func (.func 60) #[] #[pt (r+1+1+1),pt y],.func (.func 62) #[] #[pt (r+1+1),pt y],.func (.func 65) #[] #[pt (r+1+1+1+1),pt r]]) (e:=142) (f:=(0,0)) (by rw[a4.out];simp) 0
    have HP:=uh (Cs E2 U Z A3 A4);have HV:=uh V;generalize JW E2 U Z A3 A4 0=P at*;clear V
    go_wp2_with fail
    refine Hh.out.mono ?_;rintro e w5 ⟨a5,p5,l5,rfl,a1,T5⟩;have J:=uh (HV.out.grow T5);have ab:P.length+U.length <= maxLen:=by unfold maxLen;omega
    have af:(P.length+U.length)*40 <= 140737488355328:=O;have a8:=uh (a1.src J.out.has);clear a1 T5 HV q Hh Hp Hw Hb
    go_wp2_with (first
     | (at_builtin;refine Qv rfl _ _ rfl GB rfl rfl ak.out (R:=l5++(lj++RS)) (J.out.perm po).has a8.out (NG _) ab af ?_;intro a9 p9 l9 w8 N V9;have a6:=uh ((J.out.perm po).trans V9);have a0:=uh N;clear V9 N)
     | fail)
    go_roundw
    case rel=>
     refine⟨1,a9,p9,l9,l5++lj,by omega,by go_num,by rw[HP.out,e_]<;>rfl,?_,?_⟩
     · rw[HP.out,e_,Gy]
       exact a0.out
     · rw[Qq]
       exact a6.out
    case measure=>simp[intOf]
  · have q:wr.cell? (aD (y+1) 1)=some (.func (.func 60) #[] #[pt (r+1+1+1),pt y]):=V.has.cell (b:=y+1) (c:=#[.func (.func 58) #[] #[pt (r+1),pt y],.func (.func 60) #[] #[pt (r+1+1+1),pt y],.func (.func 62) #[] #[pt (r+1+1),pt y],.func (.func 65) #[] #[pt (r+1+1+1+1),pt r]]) (e:=142) (f:=(0,0)) (by rw[a4.out];simp) 1
    have HP:=uh (Cr E2 U Z A3 A4);have HV:=uh V;generalize JW E2 U Z A3 A4 1=P at*;clear V
    go_wp2_with fail
    refine Hp.out.mono ?_;rintro e w5 ⟨a5,p5,l5,rfl,a1,T5⟩;have J:=uh (HV.out.grow T5);have ab:P.length+Z.length <= maxLen:=by unfold maxLen;omega
    have af:(P.length+Z.length)*40 <= 140737488355328:=O;have a8:=uh (a1.src J.out.has);clear a1 T5 HV q Hh Hp Hw Hb
    go_wp2_with (first
     | (at_builtin;refine Qv rfl _ _ rfl GB rfl rfl ak.out (R:=l5++(lj++RS)) (J.out.perm po).has a8.out (NG _) ab af ?_;intro a9 p9 l9 w8 N V9;have a6:=uh ((J.out.perm po).trans V9);have a0:=uh N;clear V9 N)
     | fail)
    go_roundw
    case rel=>
     refine⟨2,a9,p9,l9,l5++lj,by omega,by go_num,by rw[HP.out,e_]<;>rfl,?_,?_⟩
     · rw[HP.out,e_,Gy]
       exact a0.out
     · rw[Qq]
       exact a6.out
    case measure=>simp[intOf]
  · have q:wr.cell? (aD (y+1) 2)=some (.func (.func 62) #[] #[pt (r+1+1),pt y]):=V.has.cell (b:=y+1) (c:=#[.func (.func 58) #[] #[pt (r+1),pt y],.func (.func 60) #[] #[pt (r+1+1+1),pt y],.func (.func 62) #[] #[pt (r+1+1),pt y],.func (.func 65) #[] #[pt (r+1+1+1+1),pt r]]) (e:=142) (f:=(0,0)) (by rw[a4.out];simp) 2
    have HP:=uh (Cq E2 U Z A3 A4);have HV:=uh V;generalize JW E2 U Z A3 A4 2=P at*;clear V
    go_wp2_with fail
    refine Hw.out.mono ?_;rintro e w5 ⟨a5,p5,l5,rfl,a1,T5⟩;have J:=uh (HV.out.grow T5);have ab:P.length+A3.length <= maxLen:=by unfold maxLen;omega
    have af:(P.length+A3.length)*40 <= 140737488355328:=O;have a8:=uh (a1.src J.out.has);clear a1 T5 HV q Hh Hp Hw Hb
    go_wp2_with (first
     | (at_builtin;refine Qv rfl _ _ rfl GB rfl rfl ak.out (R:=l5++(lj++RS)) (J.out.perm po).has a8.out (NG _) ab af ?_;intro a9 p9 l9 w8 N V9;have a6:=uh ((J.out.perm po).trans V9);have a0:=uh N;clear V9 N)
     | fail)
    go_roundw
    case rel=>
     refine⟨3,a9,p9,l9,l5++lj,by omega,by go_num,by rw[HP.out,e_]<;>rfl,?_,?_⟩
     · rw[HP.out,e_,Gy]
       exact a0.out
     · rw[Qq]
       exact a6.out
    case measure=>simp[intOf]
  · have q:wr.cell? (aD (y+1) 3)=some (.func (.func 65) #[] #[pt (r+1+1+1+1),pt r]):=V.has.cell (b:=y+1) (c:=#[.func (.func 58) #[] #[pt (r+1),pt y],.func (.func 60) #[] #[pt (r+1+1+1),pt y],.func (.func 62) #[] #[pt (r+1+1),pt y],.func (.func 65) #[] #[pt (r+1+1+1+1),pt r]]) (e:=142) (f:=(0,0)) (by rw[a4.out];simp) 3
    have HP:=uh (Cp E2 U Z A3 A4);have HV:=uh V;generalize JW E2 U Z A3 A4 3=P at*;clear V
    go_wp2_with fail
    refine Hb.out.mono ?_;rintro e w5 ⟨a5,p5,l5,rfl,a1,T5⟩;have J:=uh (HV.out.grow T5);have ab:P.length+A4.length <= maxLen:=by unfold maxLen;omega
    have af:(P.length+A4.length)*40 <= 140737488355328:=O;have a8:=uh (a1.src J.out.has);clear a1 T5 HV q Hh Hp Hw Hb
    go_wp2_with (first
     | (at_builtin;refine Qv rfl _ _ rfl GB rfl rfl ak.out (R:=l5++(lj++RS)) (J.out.perm po).has a8.out (NG _) ab af ?_;intro a9 p9 l9 w8 N V9;have a6:=uh ((J.out.perm po).trans V9);have a0:=uh N;clear V9 N)
     | fail)
    go_roundw
    case rel=>
     refine⟨4,a9,p9,l9,l5++lj,by omega,by go_num,by rw[HP.out,e_]<;>rfl,?_,?_⟩
     · rw[HP.out,e_,Gy]
       exact a0.out
     · rw[Qq]
       exact a6.out
    case measure=>simp[intOf]
  · have HV:=uh V
    have HP:=uh (bH.out.trans (show E2++(U++(Z++(A3++A4)))=JW E2 U Z A3 A4 4 from rfl));clear V Hh Hp Hw Hb;rw[←HP.out]at ak ⊢
    go_wp2_with fail
    refine f_ (E_ rfl _ _ _) rfl ?_;exact⟨a2,p2,lr,rfl,ak.out,HV.out.sub (x_ ..)⟩
theorem WL {cs:List Ce}(h:noTouch cs):∀i,GV cs i=[]
 | 0=>rfl
 | i+1=>by
  unfold GV;rw[WL h i,L_]
  cases r:cs[i]? with
  | none=>rfl
  | some c=>exact y_ (Va h r)
theorem XG {L:List Ty}{W B:List Nat}{cs:List Ce}(M:SdIn L W B cs)(N:noTouch cs)(E G J:List (Nat×Nat)):Ke (Gv B) L W cs (W.length/2) E G J (-1)=MN L W cs E G J:=by
 have y:Lk (Gv B) (ats cs) (W.length/2) (W.length/2)=[]:=(UL (g_ _)).2 ⟨rfl,fun g U=>by
  have h1:=M.bits g U;rw[←Rs]at h1
  cases r:Gv B g with
  | true=>exact(k_ (h1.1 r)).symm
  | false=>
   refine(b_ fun h=>?_).symm;rw[h1.2 h]at r
   cases r⟩
 unfold Ke MN;rw[v_ y];unfold Jy;rw[y,WL N,L_,L_,Zv,show Kj (-1) (W.length/2)=[]from y_ O,p_]
 rfl
theorem hU (w:World)(sb a aw tb bb:Nat){W B:List Nat}(bo:Option Addr)(J:Nat)(V:Option Addr)(M:Nat)(L:List Ty)(cs:List Ce)(hA:SbAt w sb a aw tb bb W B bo J V M L)(G:SdIn L W B cs)(hN:noTouch cs)
  (N U Z:Option Addr)(r E y:List (Nat×Nat))(a9:∀x∈r,x.2<18446744073709551616)(ab:∀x∈E,x.2<18446744073709551616)(aa:∀x∈y,x.2<18446744073709551616)(a6:r.length <= 65536)(a8:E.length <= 65536)(a7:y.length <= 65536)(a0:∀x∈y,x.1=x.2)
  (a1:Jz 42 36 N w (r.map (·.2)))(a2:Jz 59 89 N w (r.map (·.1)))(a3:Jz 61 36 Z w (y.map (·.2)))
  (a4:Jz 64 36 U w (E.map (·.2)))(a5:Jz 63 115 U w (E.map (·.1))):
  Calls prog 17 #[pt sb,.pointer N,.pointer U,.pointer Z,.pointer none] w fun e w'=>∃ao cap l,e=.returned (.tuple #[.slice ao (MN L W cs r y E).length cap,iV 0]) /\ Gh 39 5 ao (MN L W cs r y E).length cap (Nm (MN L W cs r y E)) l /\ Turn [] w l w':=
 j0 w sb a aw tb bb bo J V M L cs (W.length/2) hA ⟨G.few,G.u64,G.ty,G.lt,G.bu,G.bl⟩ G.chain (.inl rfl) N U Z r E y a9 ab aa a6 a8 a7 a0 a1 a2 a3 a4 a5 none (-1) (.inl ⟨rfl,rfl⟩) _ (XG G hN r y E).symm
end
section
open Go Go.RowKit Go.Maps Go.IntWalk
theorem Turn.of_owns {L:List Blk}{w w':World}{e:TypeId}{size k:Nat}{v:Value}{xs:List Value}(E:Has w L)(N:Below w.heap.size w w')(ho:w'.ownsRow w.heap.size e size v k xs):
  ∃ao cap l',v=.slice ao k cap /\ Gh e size ao k cap xs l' /\ Turn L w (l'++L) w':=by
 have T:=Ze E N;obtain⟨M,⟨rfl,rfl⟩|⟨g,cap,y,rfl,V,J,Z,U,hs,ht⟩⟩:=ho
 · have hx:xs=[]:=Xt (by simpa using M)
   subst hx;exact⟨none,0,[],rfl,Zb _ _,T⟩
 · refine⟨some (aD g 0),cap,[(g,.cells y e)],rfl,⟨M,Z,U,.inr ⟨g,y,rfl,rfl,by omega,ht⟩⟩,T.os,T.tape,T.output,T.size,⟨?_,fun b o r=>?_⟩,fun b G=>?_,T.same⟩
   · rw[List.singleton_append,JP,Yu]
     refine⟨fun r=>?_,E.nd⟩;have:=E.lt r;omega
   · rw[List.singleton_append]at r
     rcases t_.1 r with h|h
     ·cases h;exact J
     ·exact T.has.own b o h
   · rw[List.singleton_append,JP]at G
     rcases t_.1 G with rfl|h
     ·exact .inr V
     ·exact .inl h
end
end Go.Proofs.YtoaofpohakaliaaGreatDoor
namespace Go.Proofs.YtoaofpohakaliaaGreatDoor
open Go Go.RowKit
theorem Nk {α β:Type}{f:α -> List β}{sz:Nat}(r:∀a,(f a).length=sz)(S:List α)(i j:Nat)(y:j<sz):(S.flatMap f)[i*sz+j]?= S[i]?.bind fun a=>(f a)[j]? :=by
 induction S generalizing i with
 | nil=>simp
 | cons a S ih=>
  rw[Yj]
  cases i with
  | zero=>
   rw[Nat.zero_mul,Q_,Qz (by rw[r];exact y)]
   rfl
  | succ i=>
   have e:(i+1)*sz+j=sz+(i*sz+j):=(by rw[Jd];omega);rw[e,Qg (by rw[r];omega),r,Yg,ih]
   rfl
theorem Se {α β:Type}{f:α -> List β}{sz:Nat}(r:∀a,(f a).length=sz)(S:List α)(i j:Nat)(J:j<sz)(a y:α)(v:β)(h:S[i]?= some a)(E:f y=(f a).set j v):
  (S.flatMap f).set (i*sz+j) v=(S.set i y).flatMap f:=by
 induction S generalizing i with
 | nil=>simp at h
 | cons b S ih=>
  rw[Yj]
  cases i with
  | zero=>
   have G:b=a:=(by simpa using h);subst G;rw[Nat.zero_mul,Q_,List.set_append_left _ _ (by rw[r];exact J),Xf,Yj,E]
  | succ i=>
   have e:(i+1)*sz+j=sz+(i*sz+j):=(by rw[Jd];omega);rw[e,List.set_append_right _ _ (by rw[r];omega),r,Yg,ih i (by simpa using h),List.set_cons_succ,Yj]
theorem TF {α β:Type}{f:α -> List β}{sz:Nat}(r:∀a,(f a).length=sz)(S:List α):(S.flatMap f).length=S.length*sz:=by
 induction S with
 | nil=>simp
 | cons a S ih=>rw[Yj,e_,r,ih,B_,Jd];omega
structure Slot where
 st:Nat
 addr:Int
 given:Nat
def Slot.vals (s:Slot):List Value:=[iV s.st,uV s.addr,uV s.given]
theorem Slot.vals_length (s:Slot):s.vals.length=3:=rfl
structure WkOk (S:List Slot):Prop where
 len:S.length <= 4096
 small:∀s∈S,s.given<4294967295
 states:∀s∈S,s.st <= 2
def Js (b:Nat)(S:List Slot)(l:List Blk):Prop:=
 WkOk S /\ ∃g cur,l=[(b,.cells #[.slice (some (aD g 0)) S.length S.length] 211),(g,.cells cur 223)] /\ cur.toList=S.flatMap Slot.vals
def wh (i given:Nat):Int:=((given*4294967296+i:Nat):Int)
theorem Ay (g i:Nat)(r:i<4294967296):(g*4294967296) ||| i=g*4294967296+i:=by
 have h:=Nat.two_pow_add_eq_or_of_lt (i:=32) (b:=i) (by simpa using r) g;rw[show(2^32:Nat)=4294967296 from rfl,Nat.mul_comm]at h;exact h.symm
theorem Cu (g i:Nat)(y:g<4294967295)(r:i<4294967296):bits .or .u64 ((g:Int)*4294967296) (i:Int)=wh i g:=by
 have h:=u64_or_nat (g*4294967296) i O O;rw[Int.natCast_mul]at h;rw[show((4294967296:Nat):Int)=4294967296 from rfl]at h;rw[h,Ay g i r]
 rfl
section
variable {b:Nat} {S:List Slot} {l R:List Blk}
end
end Go.Proofs.YtoaofpohakaliaaGreatDoor
namespace Go.Proofs.YtoaofpohakaliaaGreatDoor
open Go Go.RowKit
theorem Nz {α:Type}{f:α -> List Value}{sz:Nat}(r:∀a,(f a).length=sz)(y:0<sz)(a:α)(n:Nat):(madeCells (f a).toArray (n*sz)).toList=(List.replicate n a).flatMap f:=by
 refine Xq fun m=>?_
 by_cases E:m<n*sz
 · have h1:m/sz<n:=(Nat.div_lt_iff_lt_mul y).2 E
   have h2:m%sz<sz:=Nat.mod_lt _ y;have G:m=m/sz*sz+m%sz:=(Nat.div_add_mod' m sz).symm
   have J:((List.replicate n a).flatMap f)[m]?= (f a)[m%sz]? :=by
    conv=>lhs;rw[G]
    rw[Nk r _ _ _ h2];simp[h1]
   rw[J];simp[madeCells,E,r];rw[a_ (by rw[r];exact h2)]
   rfl
 ·rw[Qb (by simp[madeCells];omega),Qb (by rw[TF r];simp;omega)]
section
variable {b:Nat} {S:List Slot} {l R:List Blk}
theorem WkOk.set (h:WkOk S)(i:Nat)(s:Slot)(h1:s.given<4294967295)(h2:s.st <= 2):WkOk (S.set i s):=
 ⟨by simpa using h.len,fun x y=>by rcases Zz y with r|rfl;exact h.small x r;exact h1,fun x y=>by rcases Zz y with r|rfl;exact h.states x r;exact h2⟩
theorem Js.mk' {g:Nat}{r:Array Value}{n:Nat}(y:WkOk S)(G:n=S.length)(E:r.toList=S.flatMap Slot.vals):
  Js b S [(b,.cells #[.slice (some (aD g 0)) n n] 211),(g,.cells r 223)]:=by
 subst G;exact⟨y,g,r,rfl,E⟩
end
end Go.Proofs.YtoaofpohakaliaaGreatDoor
namespace Go.Proofs.YtoaofpohakaliaaGreatDoor
open Go Go.RowKit
structure HSlot where
 given:Nat
 addr:Int
def HSlot.vals (s:HSlot):List Value:=[uV s.given,uV s.addr]
theorem HSlot.vals_length (s:HSlot):s.vals.length=2:=rfl
def GR:HSlot:=⟨0,0⟩
structure HdOk (S:List HSlot):Prop where
 len:S.length <= 4096
 small:∀s∈S,s.given<4294967295
def JM (b:Nat)(S:List HSlot)(l:List Blk):Prop:=
 HdOk S /\ ∃g cur,l=[(b,.cells #[.slice (some (aD g 0)) S.length S.length] 166),(g,.cells cur 184)] /\ cur.toList=S.flatMap HSlot.vals
structure HCells (w:World)(b g:Nat)(S:List HSlot):Prop where
 c0:w.cell? (aD b 0)=some (.slice (some (aD g 0)) S.length S.length)
 at_:∀i s,S[i]?= some s -> w.cell? (aD g (i*2))=some (uV s.given) /\ w.cell? (aD g (i*2+1))=some (uV s.addr)
 free:∀i,w.frozen? (aD g i)=false
 ne:g≠b
theorem Kv {w:World}{b g:Nat}{S:List HSlot}{r:Array Value}{R:List Blk}(M:r.toList=S.flatMap HSlot.vals)
  (h:Has w ([(b,.cells #[.slice (some (aD g 0)) S.length S.length] 166),(g,.cells r 184)]++R)):HCells w b g S:=by
 have G:(g,Obj.cells r 184 (0,0))∈[(b,Obj.cells #[.slice (some (aD g 0)) S.length S.length] 166 (0,0)),(g,Obj.cells r 184 (0,0))]++R:=by simp
 have E:∀i s j,S[i]?= some s -> j<2 -> w.cell? (aD g (i*2+j))=s.vals[j]? :=by
  intro i s j y N;rw[h.cell G,←Zj,M,Nk HSlot.vals_length S i j N,y]
  rfl
 have J:(b,Obj.cells #[.slice (some (aD g 0)) S.length S.length] 166 (0,0))∈[(b,Obj.cells #[.slice (some (aD g 0)) S.length S.length] 166 (0,0)),(g,Obj.cells r 184 (0,0))]++R:=by simp
 refine⟨h.cell J 0,fun i s y=>⟨E i s 0 y O,E i s 1 y O⟩,fun i=>h.free G i,?_⟩;have:=h.nd;intro e;subst e;simp at this
theorem Sc {r:Array Value}{S:List HSlot}(E:r.toList=S.flatMap HSlot.vals)(i j:Nat)(J:j<2)(s y:HSlot)(v:Value)(G:S[i]?= some s)(M:y.vals=s.vals.set j v):
  (r.setIfInBounds (i*2+j) v).toList=(S.set i y).flatMap HSlot.vals:=by
 rw[Array.toList_setIfInBounds,E,Se HSlot.vals_length S i j J s y v G M]
section
variable {b:Nat} {S:List HSlot} {l R:List Blk}
theorem YF (w:World)(J:JM b S l)(G:Has w (l++R))(i:Nat)(s:HSlot)(r:S[i]?= some s):
  Calls prog 88 #[pt b,iV i] w fun e w'=>e=.returned (uV (wh i s.given)) /\ w=w':=by
 obtain⟨y,g,U,rfl,M⟩:=J;have W:=Kv M G;have V:i<S.length:=(m_.1 r).1;have N:(i:Int)<(S.length:Int):=O;obtain⟨c0,at_,-,-⟩:=W;obtain⟨a0,a1⟩:=at_ i s r;have E:=y.small s (q_ r);have hl:=y.len;have Z:=Cu s.given i E O;clear at_ r
 go_enter func88,ntmps88
 go_wp2
 go_ret;exact⟨rfl,rfl⟩
theorem WQ:Elem prog 164 184 2 16 (.agg #[uV 0,uV 0]):=Jm underlying164 kr rfl
theorem WK (w:World)(m:Nat)(Z:m <= 4096)(V:Has w R):
  Calls prog 24 #[iV m] w fun e w'=>∃b l',e=.returned (.tuple #[pt b,iV 0]) /\ JM b (List.replicate m GR) l' /\ Turn R w (l'++R) w':=by
 obtain⟨i,J,U,G,E⟩:=WQ.info;have M:=fun W:World=>JU (P:=prog) 164 184 i _ WQ.ht J U .i64 .i64 m (by rw[E];omega) O W;rw[G]at M;have Kv:(madeCells (Value.agg #[uV 0,uV 0]).cells (m*2)).toList=(List.replicate m GR).flatMap HSlot.vals:=Nz HSlot.vals_length O GR m;generalize madeCells (Value.agg #[uV 0,uV 0]).cells (m*2)=y at*;have T:=((r_ V).alloc (.cells y 184)).alloc (.cells #[.slice (some (aD w.heap.size 0)) m m] 166);have r:=uh Kv;clear J U G E Kv
 go_enter func24,ntmps24
 go_wp2
 go_ret2;rw[Y_]at T;have N:HdOk (List.replicate m GR):=⟨by simpa using Z,fun s hs=>by rw[Zp hs];exact(by decide)⟩;exact⟨w.heap.size+1,[(w.heap.size+1,.cells #[.slice (some (aD w.heap.size 0)) m m] 166),(w.heap.size,.cells y 184)],rfl,⟨N,w.heap.size,y,by simp,r.out⟩,T⟩
theorem JM.mk' {g:Nat}{r:Array Value}{n:Nat}(y:HdOk S)(G:n=S.length)(E:r.toList=S.flatMap HSlot.vals):
  JM b S [(b,.cells #[.slice (some (aD g 0)) n n] 166),(g,.cells r 184)]:=by
 subst G;exact⟨y,g,r,rfl,E⟩
theorem HdOk.set (h:HdOk S)(i:Nat)(s:HSlot)(h1:s.given<4294967295):HdOk (S.set i s):=
 ⟨by simpa using h.len,fun x y=>by rcases Zz y with r|rfl;exact h.small x r;exact h1⟩
end
end Go.Proofs.YtoaofpohakaliaaGreatDoor
namespace Go.Proofs.YtoaofpohakaliaaGreatDoor
open Go Go.RowKit
section
variable {b:Nat} {S:List HSlot} {l R:List Blk}
end
end Go.Proofs.YtoaofpohakaliaaGreatDoor
namespace Go.Proofs.YtoaofpohakaliaaGreatDoor
open Go Go.RowKit
section
variable {b:Nat} {S:List HSlot} {l R:List Blk}
end
end Go.Proofs.YtoaofpohakaliaaGreatDoor
namespace Go.Proofs.YtoaofpohakaliaaGreatDoor
open Go Go.RowKit
section
variable {b:Nat} {S:List HSlot} {l R:List Blk}
end
end Go.Proofs.YtoaofpohakaliaaGreatDoor
namespace Go.Proofs.YtoaofpohakaliaaGreatDoor
open Go Go.RowKit
section
variable {b:Nat} {S:List HSlot} {l R:List Blk}
def DF (b:Nat)(S:List HSlot)(a:Int)(l R:List Blk)(w:World)(e:Ending)(w':World):Prop:=
 (∃i s l',S[i]?= some s /\ s.addr=0 /\ (∀(j:Nat) (t:HSlot),j<i -> S[j]?= some t -> t.addr≠0) /\ e=.returned (.tuple #[uV (wh i (s.given+1)),iV 0]) /\ JM b (S.set i ⟨s.given+1,a⟩) l' /\ Turn (l++R) w (l'++R) w')∨
 ((∀(j:Nat) (t:HSlot),S[j]?= some t -> t.addr≠0) /\ e=.returned (.tuple #[uV 0,iV 4]) /\ Turn (l++R) w (l++R) w')
theorem Vt {r:Array Value}(G:r.toList=S.flatMap HSlot.vals)(i:Nat)(s:HSlot)(y:S[i]?= some s)(a:Int)(g:Nat):
  ((r.setIfInBounds (i*2+1) (uV a)).setIfInBounds (i*2) (uV g)).toList=(S.set i ⟨g,a⟩).flatMap HSlot.vals:=by
 have E:i<S.length:=(m_.1 y).1;have h1:=Sc G i 1 O s { s with addr:=a } (uV a) y rfl;have h2:=Sc (S:=S.set i { s with addr:=a }) h1 i 0 O { s with addr:=a } ⟨g,a⟩ (uV g) (Xu E) rfl;rw[Zs,List.set_set]at h2;exact h2
theorem D1 (w:World)(hS:JM b S l)(hH:Has w (l++R))(a:Int)(ha:a≠0)(a8:∀s∈S,s.given<4294967294):
  Calls prog 29 #[pt b,uV a] w (DF b S a l R w):=by
 obtain⟨a4,g,G,rfl,hc⟩:=hS;have hl:=a4.len;have W:=Kv hc hH;have N:=uh W;have c0:=W.c0;have aa:(a == 0)=false:=by simpa using ha
 have T:=r_ hH;clear W
 go_enter func29,ntmps29
 go_wp2_with fail
 go_loop [18] (fun q=>∃k:Nat,k <= S.length /\ q=iV k /\ ∀(j:Nat) (t:HSlot),j<k -> S[j]?= some t -> t.addr≠0) (fun q=>S.length-(intOf q).toNat)
 case atStart=>exact⟨0,u_ _,rfl,fun j t hj=>absurd hj (Jn _)⟩
 case round=>
  obtain⟨k,hk,rfl,J⟩:=hrel;have r:=uh J;clear J
  by_cases a3:k<S.length
  · have a9:(k:Int)<(S.length:Int):=O
    obtain⟨s,U⟩:∃s,S[k]?= some s:=⟨S[k]'a3,a_ _⟩;obtain⟨a0,a1⟩:=N.out.at_ k s U;have f0:=N.out.free (k*2);have f1:=N.out.free (k*2+1);have ac:=N.out.ne;have hg:=a8 s (q_ U);have Hs:=uh U;clear U
    by_cases V:s.addr=0
    · rw[V]at a1
      have a6:((0:Int) != 0)=false:=rfl;have M:=a4.set k ⟨s.given+1,a⟩ (show s.given+1<_ by omega);have a2:=Vt hc k s Hs.out a (s.given+1);have T2:=(((T.perm (l2:=(g,.cells G 184)::((b,.cells #[.slice (some (aD g 0)) S.length S.length] 166)::R)) po).setCell (k*2+1) (uV a)).setCell (k*2) (uV ((s.given+1:Nat):Int))).perm (l2:=[(b,.cells #[.slice (some (aD g 0)) S.length S.length] 166),(g,.cells ((G.setIfInBounds (k*2+1) (uV a)).setIfInBounds (k*2) (uV ((s.given+1:Nat):Int))) 184)]++R) po;have Z:JM b (S.set k ⟨s.given+1,a⟩) [(b,.cells #[.slice (some (aD g 0)) S.length S.length] 166),(g,.cells ((G.setIfInBounds (k*2+1) (uV a)).setIfInBounds (k*2) (uV ((s.given+1:Nat):Int))) 184)]:=JM.mk' M (by simp) a2;have hh:=YF _ Z T2.has k ⟨s.given+1,a⟩ (Xu a3);have Hh:=uh hh;have a5:=uh T2;have y:((s.given+1:Nat):Int)=(s.given:Int)+1:=O;rw[y]at Hh;clear hh T2 a2 M y
      go_wp2_with (go_at_call 88;refine Hh.out.mono ?_;rintro e w' ⟨rfl,rfl⟩)
      go_ret2;exact .inl ⟨k,s,_,Hs.out,V,r.out,rfl,Z,a5.out⟩
    · have a6:(s.addr != 0)=true:=by simpa using V
      go_wp2
      go_round
      case rel=>exact⟨k+1,by omega,by go_num,fun j t hj E=>by
       by_cases a7:j=k
       ·subst a7;rw[Hs.out]at E;cases E;exact V
       ·exact r.out j t O E⟩
      case measure=>simp[intOf];omega
  · have ab:¬(k:Int)<(S.length:Int):=O
    go_wp2
    go_ret2;exact .inr ⟨fun j t E=>r.out j t (by have:=(m_.1 E).1;omega) E,rfl,T⟩
end
end Go.Proofs.YtoaofpohakaliaaGreatDoor
