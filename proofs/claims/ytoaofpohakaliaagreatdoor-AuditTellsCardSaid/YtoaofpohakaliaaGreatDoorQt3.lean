/-
  A part of a proof: texts packed by a program of mine.
  Conditions: those that each theorem states.
-/
import Derived.Deep.RegionLaw
import Derived.Laws.Bits64b
import Derived.ProofKit
import Derived.SizedLaws
import Derived.OpenShut
import Derived.Deep.Slices
import Derived.Deep.Fields
import Derived.ChangeSame
import Derived.Test.YtoaofpohakaliaaGreatDoorRows
import Derived.ChangeSlices
import Derived.Shelf.Strings.Builder1
import Derived.Shelf.Strings.Builder2
import Derived.Shelf.Strings.OnBuilder
import Derived.Shelf.LaysM
import Derived.Shelf.Strconv.Itoa3
import Derived.Shelf.SlIterI.Nil
import Derived.Shelf.SortM.Plain
import Derived.Shelf.SortM.SortNone
import Derived.Ground.GgzProg
import Derived.Ground.SlgmProg
import Derived.Test.YtoaofpohakaliaaGreatDoorProg
import Derived.Lib.AppendStr
import Derived.Lib.UnsafeStr
import Derived.Lib.ItoaLen
import Derived.Lib.AppendIntMem
import Derived.LaidMore
import Derived.LaidLaws
import Derived.MakeChecks
import Derived.Lib.LaidTab
import Derived.Stop.LaidErr
import Derived.Stop.Joined
import Derived.OwnWalkIn
import Derived.Test.YtoaofpohakaliaaGreatDoorQt2
set_option maxRecDepth 100000
set_option maxHeartbeats 12800000
open Go.Proofs.Tryz
namespace Go.Proofs.YtoaofpohakaliaaGreatDoor
section
open Go Go.RowKit Go.Shelf Go.IntWalk
theorem VW {w0:World}(w:World)(sb a E tb bb:Nat){W B:List Nat}{lb R:List Blk}{G:Int}(ag:Option Addr)(a8:Nat)(L:List Ty)(hB:GD bb B (W.length/2) lb)(_hBu:u64ok B)(_hBl:(W.length/2+63)/64 <= B.length)
  (T:Turn [] w0 (G0 a E W G++(G1 sb a tb bb::lb)++R) w)(ak:TabAt w0 tb ag a8 L)(aj:Fields w0)(hf:W.length <= 65536)(hu:∀v∈W,v<18446744073709551616)(aR:∀t∈L,TyIn t)(hL:L.length <= 1000)
  (ats:List Int)(os:List Ce)(hr:JR L W 0 os)(x:Int)(hx:ats[os.length]?= some x)(aM:∀(i:Nat) (c:Ce),os[i]?= some c -> ats[i]?= some (c.1:Int))(aH:∀h,objq L W x=some h -> x<(Gg 0 os:Nat))(b1:ats.length <= 65536)(aa:Option Addr)(ah:Nat)(CZ:∀(w':World) (X:List Blk),Turn [] w0 (X++R) w' -> Src w' aa ats.length ah 1 (M9 ats)):
  Calls prog 155 #[pt sb,.slice aa ats.length ah] w fun e w'=>e=.returned (iV 2) /\ Turn [] w0 (G0 a E W G++(G1 sb a tb bb::lb)++R) w':=by
 have bd:os.length<ats.length:=(m_.1 hx).1;have bc:=MB hr (u_ _);have be:W.length/2 <= 32768:=O
 have aA:=uh (fun w' (W':List Nat) (c':Int) (Y:List Blk) (hl:W'.length <= 65536) (V:Turn [] w0 (G0 a E W' c'++(G1 sb a tb bb::Y)) w')=>
  (⟨V.has.cell (b:=sb) (c:=#[pt a,pt tb,pt bb]) (e:=129) (f:=(0,0)) (by simp[G1]) 0,V.has.cell (b:=sb) (c:=#[pt a,pt tb,pt bb]) (e:=129) (f:=(0,0)) (by simp[G1]) 1,JQ V.has hl,ak.below V.below,range_below aj V.below⟩:SpAt w' sb a E tb W' ag a8 L))
 have b6:=uh (fun w' (Y:List Blk) (V:Turn [] w0 (G1 sb a tb bb::Y) w')=>(V.cell1 2:w'.cell? (aD sb 2)=some (pt bb)));have ay:=uh (fun w' (A:SpAt w' sb a E tb W ag a8 L) (g:Int)=>QE w' A.fields A.ar hu L aR hL tb ag a8 A.tab g);have Hr:=uh (fun i c=>MC hr (i:=i) (c:=c));have b4:=uh (KU hr);have HA:=uh (fun w' X (V:Turn [] w0 (X++R) w')=>(CZ w' X V).form (by rw[Nj];omega));have b2:∀v:Nat,∀u∈([iV v]:List Value),u.oneCell'=true:=by intro v u hu;simp at hu;subst hu;rfl
 have HB:=uh hB;have HT:=uh (T.perm (l2:=G0 a E W G++(G1 sb a tb bb::(lb++R))) po);have af:Gh 3 1 (some (aD w.heap.size 0)) 1 1 (J7 (Mn (os.take 0))) [(w.heap.size,.cells #[iV 0] 3)]:=⟨rfl,g_ _,by decide,.inr ⟨_,_,rfl,rfl,by decide,rfl⟩⟩;have au:=uh af;have av:=uh (HT.out.alloc (.cells #[iV 0] 3));have b3:=uh aj;clear T hB ak aj CZ af
 go_enter func155,ntmps155
 go_wp2_with fail
 go_loopw [5,18] (fun v5 aq wr=>∃(i:Nat) (b5 p5:Nat) (J:List Blk),i <= os.length /\ aq=iV i /\ v5=.slice (some (aD b5 0)) (i+1) p5 /\ Gh 3 1 (some (aD b5 0)) (i+1) p5 (J7 (Mn (os.take i))) J /\ Turn [] w0 (J++(G0 a E W G++(G1 sb a tb bb::(lb++R)))) wr) (fun _ aq _=>ats.length-(intOf aq).toNat)
 case atStart=>exact⟨0,w.heap.size,1,_,u_ _,by go_num,by go_num,au.out,av.out⟩
 case round=>
  clear av au;obtain⟨i,b5,p5,J,hi,rfl,rfl,a7,T⟩:=hrel
  by_cases aV:i<os.length
  · have aK:(i:Int)<(os.length:Int):=O
    obtain⟨c,hc⟩:∃c,os[i]?= some c:=⟨os[i],a_ aV⟩;obtain⟨b8,ap,aT⟩:=Hr.out i c hc;have aE:=Lz ap aT;have aY:=ap.2.2;have a5:=T.perm (l2:=(J++(G0 a E W G++(G1 sb a tb bb::lb)))++R) po;obtain⟨ab,aG,rfl,a4⟩:=HA.out wr _ a5;have am:=a4 i _ (Kr (aM i c hc));have T7:=T.perm (l2:=G0 a E W G++(G1 sb a tb bb::(J++(lb++R)))) po;have aP:=uh (Sf hc);have aJ:=(a7.src (R:=G0 a E W G++(G1 sb a tb bb::(lb++R))) T.has);have M:=uh (fun w' Y (V:Turn [] w0 (G0 a E W G++(G1 sb a tb bb::Y)) w')=>aA.out w' W G Y hf V)
    have N:=uh (fun w' Y (V:Turn [] w0 (G0 a E W G++(G1 sb a tb bb::Y)) w')=>by
     have h:=ay.out w' (M.out w' Y V) c.1;rw[aE]at h;exact h)
    simp only at N;have U:=LM os (i:=i) O;generalize an:Gg 0 (os.take i)=en at*;have k1:decide ((c.1:Int)<(en:Int))=false:=b_ O;have k2:decide (c.1<en)=false:=b_ O;have ac:=uh T7.drew;have ae:=uh a7;have a1:=uh U;clear a5 a4 T T7 aJ a7 U ap aE an HB
    go_wp2_with fail
    refine J1 (fun W'=>Turn [] w0 (G0 a E W G++(G1 sb a tb bb::(J++(lb++R)))) W'.drew) ac.out fun W1 T1=>?_;have y:=(⟨(M.out _ _ T1).c0,(M.out _ _ T1).c1⟩:W1.drew.cell? (aD sb 0)=some (pt a) /\ W1.drew.cell? (aD sb 1)=some (pt tb));have a0:=uh T1;clear T1 ac am;refine F_ ?_;refine rG (S:=fun W'=>W'.cell? (aD sb 0)=some (pt a) /\ W'.cell? (aD sb 1)=some (pt tb)) 15 ?_;refine G2 0 23 y ?_;refine G2 1 24 y ?_;refine G2 2 25 y ?_;refine Jt 3 26 y (fun w a3=>a3.1) ?_;refine G2 4 27 y ?_;refine G2 5 28 y ?_;refine G2 6 29 y ?_;refine Jt 7 30 y (fun w a3=>a3.2) ?_;refine G2 8 31 y ?_;refine G5 9 (fun K hK=>?_)
    go_simp
    refine(N.out _ _ a0.out).mono ?_;rintro e w2 ⟨vb,rfl,T2⟩;have Z:=a0.out.grow T2;have T4:=Z.perm (l2:=G0 a E W G++(G1 sb a tb bb::((vb,.cells (G4 a c.1 c.2 (tyAt L c.2.typ)).toArray 179)::(J++(lb++R))))) po;have r:=(⟨(M.out _ _ T4).c0,(M.out _ _ T4).c1⟩:w2.cell? (aD sb 0)=some (pt a) /\ w2.cell? (aD sb 1)=some (pt tb));have a2:=uh (Z.perm (l2:=J++((vb,.cells (G4 a c.1 c.2 (tyAt L c.2.typ)).toArray 179)::(G0 a E W G++(G1 sb a tb bb::(lb++R))))) po);have hv:LN w2 vb a c.1 c.2 (tyAt L c.2.typ):=(Z.has.range (d_ ..));have HV:=uh hv;clear T2 Z T4 y a0 hv N;refine hK.out _ _ r fun _=>?_;clear hK K;simp only[Gb,G7,G6];refine G2 10 22 r ?_;refine G2 11 33 r ?_;refine G2 12 34 r ?_;refine G2 13 8 r ?_;refine G2 14 9 r ?_;refine P_ kr ?_ _;refine z_ ?_;clear r
    have q5:w2.cell? (aD b5 i)=some (iV en):=by
     have h:=(ae.out.src (R:=(vb,.cells (G4 a c.1 c.2 (tyAt L c.2.typ)).toArray 179)::(G0 a E W G++(G1 sb a tb bb::(lb++R)))) a2.out.has).at_ _ rfl i _ a1.out;rw[KS,Q_]at h;exact h
    have aU:i <= 65536:=O;have b7:c.1+c.2.size <= 65536:=O;have aQ:i+1+1 <= maxLen:=(by unfold maxLen;omega);have aS:(i+1+1)*8 <= 140737488355328:=O
    go_wp2_with fail
    refine(Fe w2 HV.out).mono ?_;rintro e w3 ⟨rfl,aC⟩;unfold KM;have ba:∀w:World,(Instr.field 125 (.agg #[yV c.2.tag,iV c.2.typ,iV c.2.len,iV c.2.size]) 3).run prog w=.ok (iV c.2.size) w:=fun _=>by kernel_rfl
    have b0:∀w:World,(Instr.field 125 (.agg #[yV 1,iV c.2.typ,iV c.2.len,iV c.2.size]) 3).run prog w=.ok (iV c.2.size) w:=fun _=>by kernel_rfl
    have ax:=uh (a2.out.call aC);clear aC a2 q5 HV a1
    go_wp2_with (first
     | (at_builtin;refine K_ rfl _ _ rfl L4 rfl ae.out (R:=(w3.heap.size,.cells #[iV ((c.1:Int)+(c.2.size:Int))] 3)::(vb,.cells (G4 a c.1 c.2 (tyAt L c.2.typ)).toArray 179)::(G0 a E W G++(G1 sb a tb bb::(lb++R)))) ((ax.out.alloc (.cells #[iV ((c.1:Int)+(c.2.size:Int))] 3)).perm po).has rfl (news:=[iV ((c.1:Int)+(c.2.size:Int))]) rfl (Qy (A_ _ _)) (by simp[Value.oneCell']) aQ aS ?_;intro a9 p9 l9 w9 aF V9 aX;have aN:=uh (((ax.out.alloc (.cells #[iV ((c.1:Int)+(c.2.size:Int))] 3)).perm (l2:=J++((w3.heap.size,.cells #[iV ((c.1:Int)+(c.2.size:Int))] 3)::(vb,.cells (G4 a c.1 c.2 (tyAt L c.2.typ)).toArray 179)::(G0 a E W G++(G1 sb a tb bb::(lb++R))))) po).trans V9);have az:=uh aF;clear aF V9 aX)
     | fail)
    obtain⟨b9,aZ,rfl,-,-,-⟩:=az.out.some_of O
    go_roundw
    case rel=>
     refine⟨i+1,b9,p9,l9,by omega,by go_num,by go_num,?_,((aN.out.perm (l2:=[(w3.heap.size,.cells #[iV ((c.1:Int)+(c.2.size:Int))] 3),(vb,.cells (G4 a c.1 c.2 (tyAt L c.2.typ)).toArray 179)]++(l9++(G0 a E W G++(G1 sb a tb bb::(lb++R))))) po).drop)⟩;rw[aP.out,GS];have h9:J7 [c.1+c.2.size]=[iV ((c.1:Int)+(c.2.size:Int))]:=(by simp[J7]);rw[h9];exact az.out
    case measure=>simp[intOf];omega
  · obtain rfl:i=os.length:=O
    have aK:((os.length:Nat):Int)<(ats.length:Int):=O;have a5:=T.perm (l2:=(J++(G0 a E W G++(G1 sb a tb bb::lb)))++R) po;obtain⟨ab,aG,rfl,a4⟩:=HA.out wr _ a5;have am:=a4 os.length _ (Kr hx);have T7:=T.perm (l2:=G0 a E W G++(G1 sb a tb bb::(J++(lb++R)))) po;have M:=uh (fun w' Y (V:Turn [] w0 (G0 a E W G++(G1 sb a tb bb::Y)) w')=>aA.out w' W G Y hf V);have U:=LM os (i:=os.length) (g_ _);rw[D_]at U a7;generalize an:Gg 0 os=en at*;have ac:=uh T7.drew;have ae:=uh a7;have a1:=uh U;have N:=uh (fun w' Y (V:Turn [] w0 (G0 a E W G++(G1 sb a tb bb::Y)) w')=>ay.out w' (M.out w' Y V) x);have aU:os.length <= 65536:=O;clear a5 a4 T T7 a7 U an HB
    go_wp2_with fail
    refine J1 (fun W'=>Turn [] w0 (G0 a E W G++(G1 sb a tb bb::(J++(lb++R)))) W'.drew) ac.out fun W1 T1=>?_;have y:=(⟨(M.out _ _ T1).c0,(M.out _ _ T1).c1⟩:W1.drew.cell? (aD sb 0)=some (pt a) /\ W1.drew.cell? (aD sb 1)=some (pt tb));have a0:=uh T1;have a6:=uh (N.out _ _ T1);clear T1 ac am N;refine F_ ?_;refine rG (S:=fun W'=>W'.cell? (aD sb 0)=some (pt a) /\ W'.cell? (aD sb 1)=some (pt tb)) 15 ?_;refine G2 0 23 y ?_;refine G2 1 24 y ?_;refine G2 2 25 y ?_;refine Jt 3 26 y (fun w a3=>a3.1) ?_;refine G2 4 27 y ?_;refine G2 5 28 y ?_;refine G2 6 29 y ?_;refine Jt 7 30 y (fun w a3=>a3.2) ?_;refine G2 8 31 y ?_;refine G5 9 (fun K hK=>?_)
    go_simp
    cases hq:objq L W x with
    | none=>
     rw[hq]at a6;refine a6.out.mono ?_;rintro e w2 ⟨er,rfl,aW,aB⟩;have Z:=a0.out.call aB;have r:=(⟨(M.out _ _ Z).c0,(M.out _ _ Z).c1⟩:w2.cell? (aD sb 0)=some (pt a) /\ w2.cell? (aD sb 1)=some (pt tb));have a2:=uh ((Z.perm (l2:=J++(G0 a E W G++(G1 sb a tb bb::lb)++R)) po).drop);have ke:(er != 0)=true:=by rw[Qe];exact aW
     clear Z aB y a0 a6;refine hK.out _ _ r fun _=>?_;clear hK K;simp only[Gb,G7,G6];refine G2 10 22 r ?_;refine G2 11 33 r ?_;refine G2 12 34 r ?_;refine G2 13 8 r ?_;refine G2 14 9 r ?_;refine P_ kr ?_ _;refine z_ ?_;clear r
     go_wp2_with fail
     go_ret;exact⟨rfl,a2.out⟩
    | some h=>
     rw[hq]at a6;refine a6.out.mono ?_;rintro e w2 ⟨vb,rfl,T2⟩;have Z:=a0.out.grow T2;have T4:=Z.perm (l2:=G0 a E W G++(G1 sb a tb bb::((vb,.cells (G4 a x h (tyAt L h.typ)).toArray 179)::(J++(lb++R))))) po;have r:=(⟨(M.out _ _ T4).c0,(M.out _ _ T4).c1⟩:w2.cell? (aD sb 0)=some (pt a) /\ w2.cell? (aD sb 1)=some (pt tb));have a2:=uh ((Z.perm (l2:=((vb,.cells (G4 a x h (tyAt L h.typ)).toArray 179)::J)++(G0 a E W G++(G1 sb a tb bb::lb)++R)) po).drop)
     have q5:w2.cell? (aD b5 os.length)=some (iV en):=by
      have h9:=(ae.out.src (R:=(vb,.cells (G4 a x h (tyAt L h.typ)).toArray 179)::(G0 a E W G++(G1 sb a tb bb::(lb++R)))) (Z.has.perm po)).at_ _ rfl os.length _ a1.out;rw[KS,Q_]at h9;exact h9
     have aL:=aH h hq;have k1:decide (x<(en:Int))=true:=k_ aL;clear T2 Z T4 y a0 a6;refine hK.out _ _ r fun _=>?_;clear hK K;simp only[Gb,G7,G6];refine G2 10 22 r ?_;refine G2 11 33 r ?_;refine G2 12 34 r ?_;refine G2 13 8 r ?_;refine G2 14 9 r ?_;refine P_ kr ?_ _;refine z_ ?_;clear r
     go_wp2_with fail
     go_ret;exact⟨rfl,a2.out⟩
end
section
open Go Go.RowKit Go.IntWalk
theorem EN:Elem prog 22 79 3 24 (K7 ⟨0,0,0⟩):=Jm underlying22 kr rfl
theorem XL (a b:List Ty):tys (a++b)=tys a++tys b:=by simp[tys]
def TabIs (tb:Nat)(L:List Ty)(l:List Blk):Prop:=∃ao cap lr,Gh 79 3 ao L.length cap (tys L) lr /\ l=(tb,.cells #[.slice ao L.length cap] 158)::lr
theorem jp {l0 l R:List Blk}{w0:World}(w:World){tb:Nat}{L:List Ty}(hI:TabIs tb L l)(T:Turn l0 w0 (l++R) w)(hL:L.length <= 1000)(t:Ty):
  Calls prog 129 #[pt tb,K7 t] w fun e w'=>e=.returned (iV (L.length+1:Nat)) /\ ∃l',TabIs tb (L++[t]) l' /\ Turn l0 w0 (l'++R) w':=by
 obtain⟨ao,cap,lr,hr,rfl⟩:=hI;obtain⟨k,m,mk⟩:=t;have y:=T.alloc (.cells #[yV k,iV m,uV mk] 79);have c0:(w.alloc (.cells #[yV k,iV m,uV mk] 79)).cell? (aD tb 0)=some (.slice ao L.length cap):=y.has.cell (b:=tb) (c:=#[.slice ao L.length cap]) (e:=158) (f:=(0,0)) (by simp) 0;have f0:(w.alloc (.cells #[yV k,iV m,uV mk] 79)).frozen? (aD tb 0)=false:=y.has.free (b:=tb) (c:=#[.slice ao L.length cap]) (e:=158) (by simp) 0;have b0:=y.cell1 0;have b1:=y.cell1 1;have b2:=y.cell1 2;have r:=(y.alloc (.cells #[yV k,iV m,uV mk] 79)).drew;rw[Y_]at r;have T0:=r.perm (l2:=lr++((w.heap.size+1,.cells #[yV k,iV m,uV mk] 79)::(tb,.cells #[.slice ao L.length cap] 158)::(w.heap.size,.cells #[yV k,iV m,uV mk] 79)::R)) po;have a1:L.length+1 <= maxLen:=by unfold maxLen;omega
 have a2:(L.length+1)*24 <= 140737488355328:=O;have M:=uh T0
 have E:∀(j:Nat) (u:Value),([yV k,iV m,uV mk]:List Value)[j]?= some u -> ((w.alloc (.cells #[yV k,iV m,uV mk] 79)).drew.alloc (.cells #[yV k,iV m,uV mk] 79)).cell? (((aD (w.heap.size+1) 0):Addr).add j)=some u:=fun j u hj=>by
  have h:=r.has.cell (b:=w.heap.size+1) (c:=#[yV k,iV m,uV mk]) (e:=79) (f:=(0,0)) (d_ ..) j;rw[KS,Q_];exact h.trans (by rw[←Zj];exact hj)
 have a7:((w.alloc (.cells #[yV k,iV m,uV mk] 79)).alloc (.cells #[yV k,iV m,uV mk] 79)).cell? (aD tb 0)=some (.slice ao L.length cap):=r.has.cell (b:=tb) (c:=#[.slice ao L.length cap]) (e:=158) (f:=(0,0)) (by simp) 0;have a4:((w.alloc (.cells #[yV k,iV m,uV mk] 79)).alloc (.cells #[yV k,iV m,uV mk] 79)).cell? (aD w.heap.size 0)=some (yV k):=r.has.cell (b:=w.heap.size) (c:=#[yV k,iV m,uV mk]) (e:=79) (f:=(0,0)) (by simp) 0;have a5:((w.alloc (.cells #[yV k,iV m,uV mk] 79)).alloc (.cells #[yV k,iV m,uV mk] 79)).cell? (aD w.heap.size 1)=some (iV m):=r.has.cell (b:=w.heap.size) (c:=#[yV k,iV m,uV mk]) (e:=79) (f:=(0,0)) (by simp) 1;have a6:((w.alloc (.cells #[yV k,iV m,uV mk] 79)).alloc (.cells #[yV k,iV m,uV mk] 79)).cell? (aD w.heap.size 2)=some (uV mk):=r.has.cell (b:=w.heap.size) (c:=#[yV k,iV m,uV mk]) (e:=79) (f:=(0,0)) (by simp) 2;have G:=uh E;clear E r;have Hr:=uh hr;clear T y T0 hr
 go_enter func129,ntmps129
 go_wp2_with fail
 go_region_law ((refine Xc (by rfl) _ _ (by rfl) EN (by rfl) Hr.out M.out.has (by rfl) (news:=[yV k,iV m,uV mk]) (by rfl) G.out (by simp[Value.oneCell']) a1 a2 ?_;intro U V l' w1 N y a3;have J:=(M.out.trans y).perm (l2:=(tb,.cells #[.slice ao L.length cap] 158)::((w.heap.size+1,.cells #[yV k,iV m,uV mk] 79)::(w.heap.size,.cells #[yV k,iV m,uV mk] 79)::(l'++R))) po;have d0:=J.cell1 0;have e0:=J.free1 0;have Z:=uh J;have a0:=uh N;clear J N y a3))
 all_goals (have V2:=uh (Z.out.setCell 0 (.slice U (L.length+1:Nat) V)))
 all_goals (have c2:=V2.out.cell1 0)
 all_goals go_wp2
 all_goals go_ret
 all_goals (refine⟨?_,(tb,.cells #[.slice U (L.length+1) V] 158)::l',⟨U,V,l',?_,by rw[e_];rfl⟩,?_⟩)
 all_goals first
  | rfl
  | (rw[e_,XL];exact a0.out)
  | exact(((V2.out.swap.drop (a:=[_])).swap.drop (a:=[_])))
theorem Eb {l0 l R:List Blk}{w0:World}(w:World){tb:Nat}{L:List Ty}(hI:TabIs tb L l)(T:Turn l0 w0 (l++R) w)(hL:L.length <= 64)(t:Ty)(ht:TyIn t)(G:¬(t.may /\ L.length<64)):
  Calls prog 76 #[pt tb,K7 t] w fun e w'=>∃Z:Int,e=.returned (.tuple #[iV 0,iV Z]) /\ Z≠0 /\ Turn l0 w0 (l++R) w':=by
 have J:=JZ;have M:=uh (fun W=>YB W t ht);have HI:=uh hI;obtain⟨ao,cap,lr,hr,rfl⟩:=hI;obtain⟨k,m,mk⟩:=t;have U:=T.alloc (.cells #[yV k,iV m,uV mk] 79);have N:=U.range1;have V:=uh U;clear T U hr ht
 by_cases E:(Ty.mk k m mk).may
 · have a0:L.length=64:=by
     rcases Nat.lt_or_ge L.length 64 with h|h
     ·exact absurd ⟨E,h⟩ G
     ·omega
   rw[v_ E]at M;clear E G
   go_enter func76,ntmps76
   go_wp2_with (first
    | (show lW 79;refine J_ rfl 79 _ rfl w.heap.size 0 rfl [yV k,iV m,uV mk] _ N underlying79 rfl J ?_)
    | (go_at_call 128;refine(M.out _).mono ?_;rintro e w2 ⟨rfl,r⟩;have y:=uh (V.out.call r);have c2:w2.cell? (aD tb 0)=some (.slice ao L.length cap):=y.out.cell2 0;clear r)
    | fail)
   go_ret2;exact⟨4,rfl,by decide,y.out.tail⟩
 · rw[y_ E]at M
   clear E G
   go_enter func76,ntmps76
   go_wp2_with (first
    | (show lW 79;refine J_ rfl 79 _ rfl w.heap.size 0 rfl [yV k,iV m,uV mk] _ N underlying79 rfl J ?_)
    | (go_at_call 128;refine(M.out _).mono ?_;rintro e w2 ⟨rfl,r⟩;have y:=uh (V.out.call r);clear r)
    | fail)
   go_ret2;exact⟨2,rfl,by decide,y.out.tail⟩
theorem jr {M l R:List Blk}{w0:World}(w:World){tb:Nat}{L:List Ty}(hI:TabIs tb L l)(T:Turn M w0 (l++R) w)(t:Ty)(ht:TyIn t)(hm:t.may)(hL:L.length<64):
  Calls prog 76 #[pt tb,K7 t] w fun e w'=>e=.returned (.tuple #[iV (L.length+1:Nat),iV 0]) /\ ∃l',TabIs tb (L++[t]) l' /\ Turn M w0 (l'++R) w':=by
 have J:=JZ;have Hk:=uh (fun W=>YB W t ht);rw[v_ hm]at Hk;have a0:=uh (fun W (V:Turn M w0 (l++((w.heap.size,.cells #[yV t.kind,iV t.words,uV t.mask] 79)::R)) W)=>jp W hI V O t);obtain⟨ao,cap,lr,hr,rfl⟩:=hI;obtain⟨k,m,mk⟩:=t;have r:=T.alloc (.cells #[yV k,iV m,uV mk] 79);have a4:=r.range1;have HT:=uh r;have kl:decide ((64:Int) <= (L.length:Int))=false:=b_ O;have a5:¬(64:Int) <= (L.length:Int):=O;have a6:¬64 <= L.length:=O;clear T r hr ht hm
 go_enter func76,ntmps76
 go_wp2_with (first
  | (show lW 79;refine J_ rfl 79 _ rfl w.heap.size 0 rfl [yV k,iV m,uV mk] _ a4 underlying79 rfl J ?_)
  | (go_at_call 128;refine(Hk.out _).mono ?_;rintro e w2 ⟨rfl,U⟩;have E:=uh (HT.out.call U);have c2:w2.cell? (aD tb 0)=some (.slice ao L.length cap):=E.out.cell2 0;clear U)
  | fail)
 refine J1 (fun W'=>Turn M w0 ((w.heap.size,.cells #[yV k,iV m,uV mk] 79)::(tb,.cells #[.slice ao L.length cap] 158)::(lr++R)) W'.drew) E.out.drew fun W1 r=>?_;clear HT E c2;have G:=r.range1;have N:=uh (r.perm (l2:=((tb,.cells #[.slice ao L.length cap] 158)::lr)++((w.heap.size,.cells #[yV k,iV m,uV mk] 79)::R)) po);clear r;refine F_ ?_;refine rG (S:=fun W'=>W'.rangeAt w.heap.size 0 [yV k,iV m,uV mk]) 7 ?_;refine G2 0 21 G ?_;refine G2 1 22 G ?_;refine G2 2 23 G ?_;refine XM 3 24 G (fun w' a3=>Xa 79 _ rfl w.heap.size 0 rfl [yV k,iV m,uV mk] _ a3 underlying79 rfl J) ?_;refine G5 4 (fun K hK=>?_)
 go_simp
 refine(a0.out _ N.out).mono ?_;rintro e W3 ⟨rfl,l',Z,T3⟩;have y:W3.rangeAt w.heap.size 0 [yV k,iV m,uV mk]:=T3.has.range (b:=w.heap.size) (c:=#[yV k,iV m,uV mk]) (e:=79) (f:=(0,0)) (by simp);have a2:=uh (T3.sub (l2:=l'++R) (List.Sublist.append (Xy l') (Qm ..)));have a1:=uh Z;clear T3 N G Z;refine hK.out _ _ y fun _=>?_;clear hK K;simp only[Gb,G7,G6];refine G2 5 4 y ?_;refine G2 6 5 y ?_;refine P_ kr ?_ _;refine z_ ?_;clear y
 go_wp2
 go_ret2;exact⟨rfl,l',a1.out,a2.out⟩
theorem Ea (w:World)(L:List Ty)(ao:Option Addr)(cap:Nat)(hS:Src w ao L.length cap 3 (tys L))(N:∀t∈L,TyIn t)(hL:L.length <= 1000)(Qp:Ending -> World -> Prop)
  (HY:Hid ((∀t∈L,t.may) /\ L.length <= 64 -> ∀w' l,TabIs w.heap.size L l -> Turn [] w l w' -> Qp (.returned (.tuple #[pt w.heap.size,iV 0])) w'))
  (HN:Hid (¬((∀t∈L,t.may) /\ L.length <= 64) -> ∀(er:Int) w',er≠0 -> Below w.heap.size w w' -> Qp (.returned (.tuple #[.pointer none,iV er])) w')):
  Calls prog 22 #[.slice ao L.length cap] w Qp:=by
 have y:=JZ;have T0:=(r_ (C_ w)).alloc (.cells #[.slice none 0 0] 158);have a6:=uh T0;have HS:=uh (fun w' (hB:Below w.heap.size w w')=>hS.below hB);have HL:=uh hL;clear T0 hS;have HF:=uh (fun(h:0<L.length)=>((HS.out w (T_ _ _)).form (by rw[M3];omega)))
 go_enter func22,ntmps22
 go_wp2
 go_loopw [13] (fun a5 wr=>∃(j:Nat) (l:List Blk),j <= L.length /\ j <= 64 /\ a5=iV j /\ TabIs w.heap.size (L.take j) l /\ Turn [] w (l++[]) wr /\ ∀t∈L.take j,t.may) (fun a5 _=>L.length-(intOf a5).toNat)
 case atStart=>exact⟨0,(w.heap.size,.cells #[.slice none 0 0] 158)::[],u_ _,by omega,by go_num,⟨none,0,[],Zb _ _,rfl⟩,a6.out,by simp⟩
 case round=>
  clear a6;obtain⟨j,l,hj,ag,rfl,G,T,r⟩:=hrel
  by_cases ah:j<L.length
  · have am:(j:Int)<(L.length:Int):=O
    obtain⟨t,M⟩:∃t,L[j]?= some t:=⟨L[j],a_ ah⟩;have a3:t∈L:=q_ M;have a1:=N t a3;obtain⟨b,off,rfl,-⟩:=HF.out O;have Z:=(HS.out wr T.below).ty M;have a2:L.take (j+1)=L.take j++[t]:=(by rw[Qr,M];rfl);have U:(L.take j).length=j:=(by rw[Qh];omega);have T1:=T.alloc zT;have a0:(wr.alloc zT).there wr.heap.size 0 3:=T1.there1;have T2:=T1.laid (Kz t) rfl;have V:=T2.range1;have T3:=T2.perm (l2:=l++[(wr.heap.size,.cells (Kz t).toArray 79)]) po;have aa:=KH t;obtain⟨k,m,mk⟩:=t
    by_cases J:(Ty.mk k m mk).may /\ j<64
    · have HA:=uh (jr _ G T3 _ a1 J.1 O)
      rw[U,←a2]at HA
      have a9:∀t∈L.take (j+1),t.may:=by
       rw[a2];intro t M;rcases s_.1 M with h|h
       ·exact r t h
       ·rw[Qa.1 h];exact J.1
      have ak:=J.2;have af:=uh a9;clear T T1 T2 T3 G J a9 a2 U a1 a3 M r N
      go_wp2_with (first
       | (show wpList _ _ _ (⟨_,Op.load 79 (.tmp 15),_,_,_,_⟩::_) _ _;refine J_ rfl 79 _ rfl b (off+j*3) rfl [yV k,iV m,uV mk] _ Z underlying79 rfl y ?_;clear Z)
       | (show sW 79;refine h_ rfl 79 _ _ rfl _ 0 #[yV k,iV m,uV mk] rfl rfl a0 y aa ?_;clear a0)
       | (show wpList _ _ _ (⟨_,Op.load 79 (.tmp 6),_,_,_,_⟩::_) _ _;refine J_ rfl 79 _ rfl wr.heap.size 0 rfl [yV k,iV m,uV mk] _ V underlying79 rfl y ?_;clear V)
       | (go_at_call 76;refine HA.out.mono ?_;rintro e w2 ⟨rfl,l2,a7,E⟩;have a4:=uh E;have ab:=uh a7;clear E a7)
       | fail)
      go_roundw
      case rel=>exact⟨j+1,l2,by omega,by omega,by go_num,ab.out,a4.out.sub (x_ l2 _) |>.perm (by simp),af.out⟩
      case measure=>simp[intOf];omega
    · have HA:=uh (Eb _ G T3 O _ a1 (by rw[U];exact J))
      have ac:=uh (HN.out (fun h=>J ⟨h.1 _ a3,by omega⟩));clear T T1 T2 T3 G J a2 U a1 a3 M r N HY HN
      go_wp2_with (first
       | (show wpList _ _ _ (⟨_,Op.load 79 (.tmp 15),_,_,_,_⟩::_) _ _;refine J_ rfl 79 _ rfl b (off+j*3) rfl [yV k,iV m,uV mk] _ Z underlying79 rfl y ?_;clear Z)
       | (show sW 79;refine h_ rfl 79 _ _ rfl _ 0 #[yV k,iV m,uV mk] rfl rfl a0 y aa ?_;clear a0)
       | (show wpList _ _ _ (⟨_,Op.load 79 (.tmp 6),_,_,_,_⟩::_) _ _;refine J_ rfl 79 _ rfl wr.heap.size 0 rfl [yV k,iV m,uV mk] _ V underlying79 rfl y ?_;clear V)
       | (go_at_call 76;refine HA.out.mono ?_;rintro e w2 ⟨er,rfl,a8,E⟩;have a4:=uh E;clear E;have aj:(er != 0)=true:=by rw[Qe];exact a8)
       | fail)
      exact ac.out er _ a8 (Turn.below a4.out)
  · obtain rfl:j=L.length:=O
    rw[D_]at G r;have ae:=uh (HY.out ⟨r,ag⟩ wr l G (by rw[p_]at T;exact T));clear T G r HY HN N
    go_wp2
    exact ae.out
end
section
open Go Go.RowKit Go.Shelf Go.IntWalk
theorem Eh (w:World)(tb:Nat)(n:Int)(h:¬Kq n):
  Calls prog 23 #[iV n,pt tb] w fun e w'=>e=.returned (.tuple #[.pointer none,iV 2]) /\ w'=w:=by
 have r:=uh (F0 w n h);clear h
 go_enter func23,ntmps23
 go_wp2_with fail
 refine r.out.mono ?_;rintro e w1 ⟨rfl,y⟩;subst y
 go_wp2_with fail
 refine f_ (E_ rfl _ _ _) rfl ?_;exact⟨rfl,rfl⟩
theorem TabIs.tab {w:World}{tb:Nat}{L:List Ty}{l R:List Blk}(h:TabIs tb L l)(r:Has w (l++R)):∃ao cap,TabAt w tb ao cap L:=by
 obtain⟨ao,cap,E,y,rfl⟩:=h;exact⟨ao,cap,r.cell (b:=tb) (c:=#[.slice ao L.length cap]) (e:=158) (f:=(0,0)) (by simp) 0,y.src (R:=(tb,.cells #[.slice ao L.length cap] 158)::R) (r.perm po)⟩
theorem La {y:Func}{p q r:Tmp}(h:y.results=#[.tmp p,.tmp q,.tmp r])(P:Program)(tmps:Array Value)(w:World):(results y tmps).run P w=.ok (.tuple #[tmps.getD p undef,tmps.getD q undef,tmps.getD r undef]) w:=by
 simp[results,h]
theorem Y6 (w:World)(L:List Ty)(lao:Option Addr)(lcap:Nat)(J:Src w lao L.length lcap 3 (tys L))(r:∀t∈L,TyIn t)(U:L.length <= 1000)(E:¬((∀t∈L,t.may) /\ L.length <= 64))(n:Int):
  Calls prog 96 #[iV n,.slice lao L.length lcap] w fun e w'=>e=.returned (.tuple #[.pointer none,.pointer none,.bool true]) /\ Below w.heap.size w w':=by
 have G:=uh J;clear J
 go_enter func96,ntmps96
 go_wp2_with fail
 refine Ea w L lao lcap G.out r U _ (uh (fun h=>absurd h E)) (uh (fun _ M w1 y N=>?_));have V:(M != 0)=true:=by rw[Qe];exact y
 clear y E G r
 go_wp2_with fail
 refine f_ (La rfl _ _ _) rfl ?_;exact⟨rfl,N⟩
theorem CK (w:World)(L:List Ty)(lao:Option Addr)(lcap:Nat)(V:Src w lao L.length lcap 3 (tys L))(E:∀t∈L,TyIn t)(hL:L.length <= 1000)(G:(∀t∈L,t.may) /\ L.length <= 64)(n:Int)(y:¬Kq n):
  Calls prog 96 #[iV n,.slice lao L.length lcap] w fun e w'=>e=.returned (.tuple #[.pointer none,.pointer none,.bool true]) /\ Below w.heap.size w w':=by
 have J:=uh V;have HN:=uh y;have M:=uh (fun w' tb=>Eh w' tb n y)
 have r:n<16∨(¬n<16 /\ 65536<n)∨(¬n<16 /\ ¬65536<n /\ n%2≠0):=by
  unfold Kq at y;omega
 clear V y
 go_enter func96,ntmps96
 go_wp2_with fail
 refine Ea w L lao lcap J.out E hL _ (uh (fun _ w1 lt Z N=>?_)) (uh (fun h=>absurd G h));have HB:=uh N.below;clear N Z J E G
 go_wp2_with fail
 refine(M.out _ _).mono ?_;rintro e w2 ⟨rfl,hw⟩;subst hw;rcases r with h|⟨h1,h2⟩|⟨h1,h2,U⟩
 case' inl=>(
  have k1:decide (n<16)=true:=k_ h
  go_wp2_with fail)
 case' inr.inl=>(
  have k1:decide (n<16)=false:=b_ O;have k2:decide (65536<n)=true:=k_ h2
  go_wp2_with fail)
 case' inr.inr=>(
  have k1:decide (n<16)=false:=b_ O;have k2:decide (65536<n)=false:=b_ O;have k5:n.tmod 2=n%2:=Xg O;have k4:(n%2 != 0)=true:=by rw[Qe];exact U
  have k6:¬n%2=0:=U
  go_wp2_with fail)
 all_goals (
  refine f_ (La rfl _ _ _) rfl ?_;exact⟨rfl,HB.out⟩)
theorem EB (w:World)(hF:Fields w)(L:List Ty)(lao:Option Addr)(lcap:Nat)(hS:Src w lao L.length lcap 3 (tys L))(a1:∀t∈L,TyIn t)(hL:L.length <= 1000)(a3:(∀t∈L,t.may) /\ L.length <= 64)(n:Nat)(hn:Kq n):
  Calls prog 96 #[iV n,.slice lao L.length lcap] w fun e w'=>∃(sb rb tb:Nat) (w1:World) (E:Option Addr) (r:Nat) (M J:List Blk),e=.returned (.tuple #[pt sb,pt rb,.bool true]) /\
   Below w.heap.size w w1 /\ TabAt w1 tb E r L /\ DA sb tb (lay (List.replicate n 0) 0 (n/2)) (List.replicate ((n/2+63)/64) 0) M /\ Ks rb lao L.length lcap (lay (List.replicate n 0) 0 (n/2)) J /\ Turn [] w1 (J++M) w':=by
 have HS:=uh hS;have Hn:=uh hn;have HF:=uh hF;have⟨h1,h2,h3⟩:=hn;clear hS hn hF
 go_enter func96,ntmps96
 go_wp2_with fail
 refine Ea w L lao lcap HS.out a1 hL _ (uh (fun _ w1 lt a6 G=>?_)) (uh (fun h=>absurd a3 h));obtain⟨E,r,y⟩:=a6.tab (R:=[]) (by rw[p_];exact G.has);have a7:=uh y;have HB:=uh G.below;have a0:=uh (QY w1 (range_below HF.out G.below) w.heap.size n Hn.out);clear G a6 HS a1 a3 y
 go_wp2_with fail
 refine a0.out.mono ?_;rintro e w2 ⟨sb,M,rfl,a5,T2⟩;have U:=uh T2;have N:=uh a5;have Z:=uh (jv w2 n Hn.out lao L.length lcap);have k1:decide ((n:Int)<16)=false:=b_ O;have k2:decide (n<16)=false:=b_ O;have k3:decide ((65536:Int)<(n:Int))=false:=b_ O;have k4:decide (65536<n)=false:=b_ O;have k5:((n:Int)).tmod 2=0:=by rw[Xg O];omega
 have k6:(n:Int)%2=0:=O;clear T2 a5 a0
 go_wp2_with fail
 refine Z.out.mono ?_;rintro e w3 ⟨rb,J,rfl,a4,T3⟩;have V:=uh (U.out.grow T3);have a8:=uh a4;obtain⟨a,aw,bb,c,lb,aa,a2⟩:=N.out;have q0:w3.cell? (aD sb 0)=some (pt a):=V.out.has.cell (b:=sb) (c:=#[pt a,pt w.heap.size,pt bb]) (e:=129) (f:=(0,0)) (by rw[a2];simp[G1]) 0;have a9:=uh (NW w3 (a:=(aD a 0)) rfl q0);clear T3 a4 Z U a2 aa q0
 go_wp2_with fail
 refine a9.out.mono ?_;rintro e w4 ⟨rfl,hw⟩;subst hw
 go_wp2_with fail
 refine f_ (La rfl _ _ _) rfl ?_;exact⟨sb,rb,w.heap.size,w1,E,r,M,J,rfl,HB.out,a7.out,N.out,a8.out,V.out⟩
end
section
open Go Go.RowKit Go.IntWalk
structure Stp where
 dk:Int
 g:Int
 id:Int
 n:Int
 w:Nat
 ats:List Int
 ao:Option Addr
 cap:Nat
def KX (s:Stp):List Value:=[iV s.dk,iV s.g,iV s.id,iV s.n,uV s.w,.slice s.ao s.ats.length s.cap]
def DH (ss:List Stp):List Value:=ss.flatMap KX
theorem ZE {y:List Stp}{i:Nat}{s:Stp}(r:y[i]?= some s){j:Nat}(E:j<6):(DH y)[i*6+j]?= (KX s)[j]? :=by
 induction y generalizing i with
 | nil=>cases r
 | cons a l ih=>
  show(KX a++DH l)[i*6+j]?= _
  cases i with
  | zero=>
   have:a=s:=(by simpa using r);subst this;rw[Nat.zero_mul,Q_,Qz (by exact E)]
  | succ i=>
   rw[show(i+1)*6+j=6+(i*6+j)by omega,Qg (by show 6 <= _;omega)];rw[show 6+(i*6+j)-(KX a).length=i*6+j from Yg ..];exact ih (by simpa using r)
theorem MP (r:List Stp):(DH r).length=r.length*6:=by
 induction r with
 | nil=>rfl
 | cons a l ih=>
  show(KX a++DH l).length=_
  rw[e_,ih,B_];simp[KX];omega
theorem Src.st {w:World}{b off n cap:Nat}{y:List Stp}(h:Src w (some (aD b off)) n cap 6 (DH y)){i:Nat}{s:Stp}(E:y[i]?= some s):w.rangeAt b (off+i*6) (KX s):=by
 intro j v r;have G:j<6:=(m_.1 r).1;have h1:=h.at_ _ rfl (i*6+j) v (by rw[ZE E G];exact r);rw[KS]at h1;rw[Nat.add_assoc];exact h1
def lens (ss:List Stp):Nat:=(ss.map fun s=>s.ats.length).sum
theorem UH {r:List Stp}{i:Nat}{s:Stp}(h:r[i]?= some s):lens (r.take (i+1))=lens (r.take i)+s.ats.length:=by
 rw[Qr,h];simp[lens]
theorem ZR {N:Nat}{r:List Stp}(h:∀s∈r,s.ats.length <= N):∀i,lens (r.take i) <= i*N
 | 0=>by simp[lens]
 | i+1=>by
  have h2:=ZR h i;rw[Nat.succ_mul]
  cases y:r[i]? with
  | none=>
   have h1:r.take (i+1)=r.take i:=(by rw[Qr,y,Option.toList_none,p_]);rw[h1];omega
  | some s=>
   rw[UH y];have:=h s (q_ y);omega
def heavy (words:Int)(nl:Nat)(ss:List Stp):Bool:=(decide (600<words) && decide (words <= 65536)) || decide (70<nl) || decide (60<ss.length) || decide (300<lens (ss.take 100))
theorem heavy9 (w:World)(r:Int)(lao:Option Addr)(E lcap:Nat)(a6:Option Addr)(a3:Nat)(y:List Stp)(hS:Src w a6 y.length a3 6 (DH y))(a8:E <= maxLen)(a9:y.length <= maxLen)(a0:∀s∈y,s.ats.length <= 17592186044416):
  Calls prog 21 #[iV r,.slice lao E lcap,.slice a6 y.length a3] w fun e w'=>e=.returned (.bool (heavy r E y)) /\ w'=w:=by
 have HF:=uh (fun(h:0<y.length)=>hS.form (by rw[MP];omega));have HS:=uh hS;have a5:=uh (ZR a0);unfold maxLen at a8 a9;clear hS
 go_enter func21,ntmps21
 go_wp2_with fail
 go_loopw [7,8] (fun v7 v8 wr=>∃i:Nat,i <= y.length /\ i <= 100 /\ v8=iV i /\ v7=iV (lens (y.take i):Nat) /\ wr=w) (fun _ v8 _=>y.length-(intOf v8).toNat)
 case atStart=>exact⟨0,u_ _,u_ _,by go_num,by simp[lens],rfl⟩
 case round=>
  obtain⟨i,hi,ac,rfl,rfl,rfl⟩:=hrel;have hb:=a5.out i
  by_cases a7:i<y.length /\ i<100
  · have aa:(i:Int)<(y.length:Int):=O
    have ab:(i:Int)<100:=O;obtain⟨s,hs⟩:∃s,y[i]?= some s:=⟨y[i]'O,a_ _⟩;obtain⟨b,off,rfl,-⟩:=HF.out O;have q5:wr.cell? (aD b (off+i*6+5))=some (.slice s.ao s.ats.length s.cap):=(HS.out.st hs) 5 _ rfl;have Hn:=uh (UH hs);have ae:=a0 s (q_ hs);generalize lens (y.take i)=x at*;clear hs
    go_wp2_with fail
    go_roundw
    case rel=>exact⟨i+1,by omega,by omega,by go_num,by rw[Hn.out];go_num,trivial⟩
    case measure=>simp[intOf];omega
  · have hx:y.take i=y.take 100:=by
      by_cases h:i<y.length
      ·rw[show i=100 by omega]
      ·rw[Xp O,Xp O]
    have a1:heavy r E y=((decide (600<r) && decide (r <= 65536)) || decide (70<E) || decide (60<y.length) || decide (300<lens (y.take i))):=(by rw[hx];rfl);have G:=uh a1;clear a1 hx;generalize lens (y.take i)=x at*;have a4:¬((i:Int)<(y.length:Int))∨((i:Int)<(y.length:Int) /\ ¬(i:Int)<100):=O;clear a7 HS HF a0 a5;rcases a4 with x1|⟨x1,x2⟩
    all_goals (
     by_cases M:600<r
     · by_cases Z:r <= 65536
       · skip
         have N:decide (600<r)=true:=k_ M;have k2:decide (r <= 65536)=true:=k_ Z
         go_wp2_with fail
         go_ret;exact⟨by rw[G.out];simp[*],rfl⟩
       by_cases c3:70<E
       · skip
         have N:decide (600<r)=true:=k_ M;have k2:decide (r <= 65536)=false:=b_ Z;have V:decide (70<(E:Int))=true:=k_ O;have J:decide (70<E)=true:=k_ c3
         go_wp2_with fail
         go_ret;exact⟨by rw[G.out];simp[*],rfl⟩
       by_cases c4:60<y.length
       · skip
         have N:decide (600<r)=true:=k_ M;have k2:decide (r <= 65536)=false:=b_ Z;have V:decide (70<(E:Int))=false:=b_ O;have J:decide (70<E)=false:=b_ c3;have k4:decide (60<(y.length:Int))=true:=k_ O;have U:decide (60<y.length)=true:=k_ c4
         go_wp2_with fail
         go_ret;exact⟨by rw[G.out];simp[*],rfl⟩
       by_cases c5:300<x
       · skip
         have N:decide (600<r)=true:=k_ M;have k2:decide (r <= 65536)=false:=b_ Z;have V:decide (70<(E:Int))=false:=b_ O;have J:decide (70<E)=false:=b_ c3;have k4:decide (60<(y.length:Int))=false:=b_ O;have U:decide (60<y.length)=false:=b_ c4;have k5:decide (300<(x:Int))=true:=k_ O;have a2:decide (300<x)=true:=k_ c5
         go_wp2_with fail
         go_ret;exact⟨by rw[G.out];simp[*],rfl⟩
       have N:decide (600<r)=true:=k_ M;have k2:decide (r <= 65536)=false:=b_ Z;have V:decide (70<(E:Int))=false:=b_ O;have J:decide (70<E)=false:=b_ c3;have k4:decide (60<(y.length:Int))=false:=b_ O;have U:decide (60<y.length)=false:=b_ c4;have k5:decide (300<(x:Int))=false:=b_ O;have a2:decide (300<x)=false:=b_ c5
       go_wp2_with fail
       go_ret;exact⟨by rw[G.out];simp[*],rfl⟩
     by_cases c3:70<E
     · skip
       have N:decide (600<r)=false:=b_ M;have V:decide (70<(E:Int))=true:=k_ O;have J:decide (70<E)=true:=k_ c3
       go_wp2_with fail
       go_ret;exact⟨by rw[G.out];simp[*],rfl⟩
     by_cases c4:60<y.length
     · skip
       have N:decide (600<r)=false:=b_ M;have V:decide (70<(E:Int))=false:=b_ O;have J:decide (70<E)=false:=b_ c3;have k4:decide (60<(y.length:Int))=true:=k_ O;have U:decide (60<y.length)=true:=k_ c4
       go_wp2_with fail
       go_ret;exact⟨by rw[G.out];simp[*],rfl⟩
     by_cases c5:300<x
     · skip
       have N:decide (600<r)=false:=b_ M;have V:decide (70<(E:Int))=false:=b_ O;have J:decide (70<E)=false:=b_ c3;have k4:decide (60<(y.length:Int))=false:=b_ O;have U:decide (60<y.length)=false:=b_ c4;have k5:decide (300<(x:Int))=true:=k_ O;have a2:decide (300<x)=true:=k_ c5
       go_wp2_with fail
       go_ret;exact⟨by rw[G.out];simp[*],rfl⟩
     have N:decide (600<r)=false:=b_ M;have V:decide (70<(E:Int))=false:=b_ O;have J:decide (70<E)=false:=b_ c3;have k4:decide (60<(y.length:Int))=false:=b_ O;have U:decide (60<y.length)=false:=b_ c4;have k5:decide (300<(x:Int))=false:=b_ O;have a2:decide (300<x)=false:=b_ c5
     go_wp2_with fail
     go_ret;exact⟨by rw[G.out];simp[*],rfl⟩)
end
section
structure Pl (L:List Ty)(W B:List Nat)(cs:List Ce):Prop where
 good:Good L W cs
 touch:noTouch cs
 bl:B.length=(W.length/2+63)/64
 bu:u64ok B
 bits:bitsOf B (W.length/2) (objs cs)
theorem X3 (n i:Nat):Gv (List.replicate n 0) i=false:=by
 unfold Gv;rw[M_]
 cases h:(List.replicate n 0)[i/64]? with
 | none=>simp
 | some v=>
  rw[Zp (q_ h)];simp
theorem CC (g n:Nat):objs [(g,Kd n)]=[]:=by
 unfold objs;rw[Xj (by rw[J2];exact ND n)]
 rfl
theorem Pl.new {L:List Ty}{n:Nat}(h1:∀t∈L,t.may)(h2:L.length <= 64)(r:n <= 600)(y:16 <= n)(E:n%2=0):Pl L (lay (List.replicate n 0) 0 (n/2)) (List.replicate ((n/2+63)/64) 0) [(0,Kd (n/2))]:=by
 have G:(lay (List.replicate n 0) 0 (n/2)).length=n:=by rw[Gz,W_]
 refine⟨.new h1 h2 r y E,trivial,by rw[G,W_],fun v J=>by rw[Zp J];omega,fun i _=>?_⟩;rw[X3,CC];simp
theorem Pl.put {L:List Ty}{W B B':List Nat}{a b:List Ce}{c:Ce}(h:Pl L W B (a++c::b)){g:Nat}{hd:Hd}(N:Ud L hd)(G:hd.tag=1)(V:M4 c g hd.size)(y:Lg B B' g 1):Pl L (Mm W c g hd) B' (a++Wt c g hd++b):=by
 obtain⟨h1,h2,-,M⟩:=V;refine⟨h.good.put N h2 M,h.touch.put h1 G,by rw[y.1,h.bl,KK],y.2.1,fun i J=>?_⟩;rw[KK]at J
 have U:objs (a++c::b)=objs a++objs b:=by
  rw[GM]
  congr 1
  unfold objs;rw[Xj (by rw[J2];exact h1)]
 have E:=h.bits i J;rw[U]at E;rw[CB G,y.2.2 i,Bool.or_eq_true,E,Xn,Zx,Zx]
 constructor
 · rintro(⟨d,hd,r⟩|h1)
   · refine⟨d,?_,r⟩
     simp only[s_,t_]at hd ⊢;rcases hd with hd|hd
     ·exact .inl hd
     ·exact .inr (.inr hd)
   ·exact⟨(g,hd),by simp,by show g=i;omega⟩
 · rintro⟨d,hd,r⟩
   simp only[s_,t_]at hd;rcases hd with hd|rfl|hd
   ·exact .inl ⟨d,by simp[hd],r⟩
   ·exact .inr (by simp only at r;omega)
   ·exact .inl ⟨d,by simp[hd],r⟩
theorem Nf {cs:List Ce}{d:Ce}(h:d∈cs)(r:d.2.tag=1):d∈objs cs:=by
 unfold objs;rw[Ym,J2];exact⟨h,r⟩
theorem Pl.drop {L:List Ty}{W B B':List Nat}{pre r:List Ce}{c:Ce}(h:Pl L W B (pre++c::r))(ht:c.2.tag=1)(E:Lh B B' c.1 1):∃cs',Pl L (MM W pre c r) B' cs' /\ objs cs'=objs pre++objs r:=by
 obtain⟨cs',h1,h2,M⟩:=h.good.drop_all h.touch;have Z:(MM W pre c r).length=W.length:=by unfold MM;rw[Gz]
 refine⟨cs',⟨h1,h2,by rw[E.1,h.bl,Z],E.2.1,fun i V=>?_⟩,M⟩;rw[Z]at V;obtain⟨G,a1,J⟩:=h.good.chain.split;have a2:=a1.pos
 have a0:∀d∈objs pre++objs r,d.1≠c.1:=by
  intro d hd;rcases s_.1 hd with hd|hd
  · have N:=G.mem d (Kn hd).1
    have:=N.2.2.pos;omega
  · have N:=J.mem d (Kn hd).1
    omega
 have ho:objs (pre++c::r)=objs pre++c::objs r:=by
  rw[GM]
  congr 1
  unfold objs;rw[Xh (by rw[J2];exact ht)]
 have U:=h.bits i V;rw[ho]at U;rw[M,E.2.2 i,Xn,U,Bool.not_eq_true',Yq,Zk,Zk]
 constructor
 · rintro⟨⟨d,hd,y⟩,hx⟩
   refine⟨d,?_,y⟩;simp only[s_,t_]at hd ⊢;rcases hd with hd|rfl|hd
   ·exact .inl hd
   ·omega
   ·exact .inr hd
 · rintro⟨d,hd,y⟩
   have:=a0 d hd;refine⟨⟨d,?_,y⟩,by omega⟩;simp only[s_,t_]at hd ⊢;rcases hd with hd|hd
   ·exact .inl hd
   ·exact .inr (.inr hd)
theorem Ta {L:List Ty}{W:List Nat}:∀{os:List Ce} {e:Nat},JR L W e os -> ∀c∈os,c.2.tag=1
 | d::os,e,h,c,r=>by
  rcases t_.1 r with rfl|r
  ·exact h.2.2.1
  ·exact Ta h.2.2.2 c r
theorem Pl.settle {L:List Ty}{W B B':List Nat}{cs:List Ce}(h:Pl L W B cs){os:List Ce}(r:JR L W 0 os)(G:B'.length=B.length)(J:u64ok B')(E:bitsOf B' (W.length/2) os):Pl L (GL (W.length/2) W os 0) B' (Ly (W.length/2) os 0):=by
 have y:=Ta r;refine⟨h.good.settle r,MZ _ _ _ y,by rw[G,h.bl,JC],J,?_⟩;rw[JC,Rr _ _ _ y];exact E
theorem Pl.slot {L:List Ty}{W B:List Nat}{cs:List Ce}(h:Pl L W B cs){c:Ce}(r:c∈cs){j v:Nat}(h1:2*c.1<j)(h2:j<2*(c.1+c.2.size))(y:v<18446744073709551616):Pl L (W.set j v) B cs:=
 ⟨h.good.slot r h1 h2 y,h.touch,by rw[Qn];exact h.bl,h.bu,by rw[Qn];exact h.bits⟩
theorem Pl.bit {L:List Ty}{W B:List Nat}{cs:List Ce}(h:Pl L W B cs){g:Nat}(G:g<W.length/2)(y:Gv B g=true):∃c∈cs,c.1=g /\ c.2.tag=1:=by
 obtain⟨c,r,E⟩:=(h.bits g G).1 y;exact⟨c,(Kn r).1,E,(Kn r).2⟩
theorem Pl.bit_of {L:List Ty}{W B:List Nat}{cs:List Ce}(h:Pl L W B cs){c:Ce}(r:c∈cs)(y:c.2.tag=1):Gv B c.1=true:=by
 have h1:=h.good.chain.mem c r;have:=h1.2.2.pos;exact(h.bits c.1 O).2 ⟨c,Nf r y,rfl⟩
theorem LS {L:List Ty}{W:List Nat}{g:Nat}{h:Hd}(E:JH L W g h)(G:h.tag=1):(tyAt L h.typ).slots h.len+1 <= 2*h.size /\ 2*h.size <= (tyAt L h.typ).slots h.len+2:=by
 have h1:=(MS L h).2 E.2.1;unfold Ka at h1;rw[y_ (by simpa using E.2.1.1),y_ (by simpa using G)]at h1
 have h2:GH L h.typ h.len=0 /\ GY L h.typ h.len=h.size:=by
  by_cases r:GH L h.typ h.len=0 /\ GY L h.typ h.len=h.size
  ·exact r
  ·rw[y_ r]at h1;exact absurd h1 (by decide)
 unfold GH GY at h2;unfold tyAt
 cases y:Kc L h.typ with
 | none=>rw[y]at h2;exact absurd h2.1 (by simp)
 | some t=>
  rw[y]at h2;simp only at h2;rw[v_ h2.1,Qs]at h2;have:=h2.2;unfold Ty.size at this;simp only[Zc];omega
end
section
open Go Go.RowKit Go.IntWalk
theorem Wd {w0:World}(w:World){rb lcap:Nat}{lao:Option Addr}{W:List Nat}{L:List Ty}{l R:List Blk}(hI:Ks rb lao L.length lcap W l)(T:Turn [] w0 (l++R) w)(hS:Src w0 lao L.length lcap 3 (tys L))(aM:∀t∈L,TyIn t)(hL:L.length <= 1000)(hf:W.length <= 65536)
  (hu:∀v∈W,v<18446744073709551616)(ats:List Int)(os:List Ce)(hr:JR L W 0 os)(x:Int)(hx:ats[os.length]?= some x)(au:∀(i:Nat) (c:Ce),os[i]?= some c -> ats[i]?= some (c.1:Int))(aq:∀h,objq L W x=some h -> x<(Gg 0 os:Nat))(b5:ats.length <= 65536)(aa:Option Addr)(aB:Nat)(hA:Src w0 aa ats.length aB 1 (M9 ats)):
  Calls prog 156 #[pt rb,.slice aa ats.length aB] w fun e w'=>e=.returned (iV 2) /\ Turn [] w0 (l++R) w':=by
 have b9:os.length<ats.length:=(m_.1 hx).1;obtain⟨ao,cap,lr,aF,rfl⟩:=hI;have b8:=MB hr (u_ _);have ba:W.length/2 <= 32768:=O
 have ax := uh (fun w' (M Y : List Blk) (V : Turn [] w0 (Y ++ (M ++ ((rb, rN ao W cap lao L.length lcap) :: lr ++ R))) w') =>
         (⟨V.has.cell (b:=rb) (c:=#[.slice ao W.length cap,.slice lao L.length lcap]) (e:=62) (f:=(0,0)) (by simp) 0,V.has.cell (b:=rb) (c:=#[.slice ao W.length cap,.slice lao L.length lcap]) (e:=62) (f:=(0,0)) (by simp) 1⟩:w'.cell? (aD rb 0)=some (.slice ao W.length cap) /\ w'.cell? (aD rb 1)=some (.slice lao L.length lcap)))
 have ap:=uh (fun w' (M Y:List Blk) (V:Turn [] w0 (Y++(M++((rb,rN ao W cap lao L.length lcap)::lr++R))) w')=>ja w' ao cap (aF.src (R:=(Y++M)++((rb,rN ao W cap lao L.length lcap)::R)) (V.has.perm po)) hf hu L aM hL lao lcap (hS.below V.below));have aG:=Gr;have aH:=JZ;have Hr:=uh (fun i c=>MC hr (i:=i) (c:=c));have b6:=uh (KU hr);have HT:=uh T;have av:=uh (hA.form (by rw[Nj];omega));clear T hS hu aF hA
 go_enter func156,ntmps156
 go_wp2_with fail
 go_loopw [5,6,7] (fun v5 v6 v7 wr=>∃(i:Nat) (a5:Option Addr) (p5:Nat) (M:List Blk),i <= os.length /\ v7=iV i /\ v6=iV (Gg 0 (os.take i):Nat) /\ v5=.slice a5 i p5 /\ Gh 3 1 a5 i p5 (J7 (LT (os.take i))) M /\ Turn [] w0 (M++((rb,rN ao W cap lao L.length lcap)::lr++R)) wr) (fun _ _ v7 _=>ats.length-(intOf v7).toNat)
 case atStart=>exact⟨0,none,0,[],u_ _,rfl,rfl,rfl,Zb _ _,HT.out⟩
 case round=>
  clear HT;obtain⟨i,a5,p5,M,hi,rfl,rfl,rfl,aE,T⟩:=hrel
  by_cases aZ:i<os.length
  · have aR:(i:Int)<(os.length:Int):=O
    obtain⟨c,hc⟩:∃c,os[i]?= some c:=⟨os[i],a_ aZ⟩;obtain⟨aY,aA,az⟩:=Hr.out i c hc;have aP:=Lz aA az;have b2:=LW aA az aM;have a2:=uh (fun w' Y V=>ap.out w' M Y V (c.1:Int));rw[aP]at a2;simp only at a2;have aL:=uh (Rj hc);have aK:=uh (Ma hc);have aJ:=aA.2.2;have an:=uh (au i c hc);obtain⟨ab,a4,rfl,a6⟩:=av.out;have a7:=uh (fun w' (hB:Below w0.heap.size w0 w')=>(hB.cell (p:=(aD ab (a4+i))) (c_ w0 _ (a6 i _ (Kr an.out)))).trans (a6 i _ (Kr an.out)));have G:=uh (fun w' Y (V:Turn [] w0 (Y++(M++((rb,rN ao W cap lao L.length lcap)::lr++R))) w')=>(⟨(ax.out w' M Y V).1,(ax.out w' M Y V).2,a7.out w' V.below⟩:w'.cell? (aD rb 0)=some (.slice ao W.length cap) /\ w'.cell? (aD rb 1)=some (.slice lao L.length lcap) /\ w'.cell? (aD ab (a4+i))=some (iV c.1)));generalize tyAt L c.2.typ=t at*;obtain⟨tk,tw,tm⟩:=t;obtain⟨cg,⟨ca,cb,cc,cd⟩⟩:=c;simp only at az a2 G a7 aK aL aY aJ;subst az;have aj:=GP ⟨1,cb,cc,cd⟩;have ak:=KH ⟨tk,tw,tm⟩;simp only at aj ak;generalize Gg 0 (os.take i)=en at*;have k1:decide ((cg:Int)<(en:Int))=false:=b_ O;have k2:decide (cg<en)=false:=b_ O;have ag:=uh T.drew;have aU:=uh aE;have aW:i+1 <= maxLen:=(by unfold maxLen;omega);have aX:(i+1)*8 <= 140737488355328:=O;clear T aE aA aP b2 hc a6 av an au aq hx
    go_upto_region 6 with fail
    refine J1 (fun W'=>Turn [] w0 (M++((rb,rN ao W cap lao L.length lcap)::lr++R)) W'.drew) ag.out fun W1 J=>?_;have af:Hid (Turn [] w0 (M++((rb,rN ao W cap lao L.length lcap)::lr++R)) W1.drew):=uh J;clear J ag
    apply SK (I:=fun N Z w=>Turn [] w0 ((N,.cells #[yV 1,iV cb,iV cc,iV cd] 125)::(Z,.cells #[yV tk,iV tw,uV tm] 79)::(M++((rb,rN ao W cap lao L.length lcap)::lr++R))) w)
    case h=>
     have y:=G.out _ [] af.out;refine F_ ?_;refine rG (S:=fun W'=>W'.cell? (aD rb 0)=some (.slice ao W.length cap) /\ W'.cell? (aD rb 1)=some (.slice lao L.length lcap) /\ W'.cell? (aD ab (a4+i))=some (iV cg)) 22 ?_;refine G2 0 19 y ?_;refine G2 1 20 y ?_;refine G2 2 21 y ?_;refine Jt 3 22 y (fun w a3=>a3.1) ?_;refine G2 4 23 y ?_;refine G2 5 24 y ?_;refine G2 6 25 y ?_;refine Jt 7 26 y (fun w a3=>a3.2.1) ?_;refine G2 8 27 y ?_;refine G2 9 28 y ?_;refine G2 10 29 y ?_;refine Jt 11 30 y (fun w a3=>a3.2.2) ?_;have T0:Turn [] w0 ([]++(M++((rb,rN ao W cap lao L.length lcap)::lr++R))) W1.drew:=af.out;clear y;generalize W1.drew=V0 at T0 ⊢;have am:=uh T0;clear T0
     apply RA (I:=fun N Z V=>Turn [] w0 ((N,zH)::(Z,zT)::(M++((rb,rN ao W cap lao L.length lcap)::lr++R))) V)
     case h1=>
      intro hG;have T0:=am.out;refine Zf (rs:=[12,17,18]) kr (by simp) (H_ rfl (fun K r=>?_) (H_ rfl (fun K r=>?_) (H_ rfl (fun K r=>?_) Zd)))
      · go_simp
        refine(a2.out _ [] T0).mono ?_;rintro e V1 ⟨rfl,hB⟩;have J:=T0.call hB;refine r.out _ _ (G.out _ [] J) fun _=>?_;clear r K hB T0;simp only[Gb,G7,G6];have y:=G.out _ [] J;refine G2 13 18 y ?_;refine G2 14 32 y ?_;refine G2 15 33 y ?_;refine G2 16 34 y ?_;clear y;refine Zf (rs:=[17,18]) kr (by simp) (H_ rfl (fun K r=>?_) (H_ rfl (fun K r=>?_) Zd))
        · go_simp
          have E:=J.alloc zH;refine r.out _ _ (G.out _ [_] E) fun _=>?_;clear r K J;simp only[Gb,G7,G6];generalize V1.alloc _=V2 at*;generalize V1.heap.size=N at*;refine G5 18 (fun K r=>?_)
          · go_simp
            have U:=E.alloc zT;refine r.out _ _ (G.out _ [_,_] U) fun _=>?_;clear r K E;simp only[Gb,G7,G6];generalize V2.alloc _=V3 at*;generalize V2.heap.size=Z at*;exact hG.out N Z V3 (U.perm po)
        · go_simp
          have E:=J.alloc zT;refine r.out _ _ (G.out _ [_] E) fun _=>?_;clear r K J;simp only[Gb,G7,G6];generalize V1.alloc _=V2 at*;generalize V1.heap.size=Z at*;refine G5 17 (fun K r=>?_)
          · go_simp
            have U:=E.alloc zH;refine r.out _ _ (G.out _ [_,_] U) fun _=>?_;clear r K E;simp only[Gb,G7,G6];generalize V2.alloc _=V3 at*;generalize V2.heap.size=N at*;exact hG.out N Z V3 (U.perm po)
      · go_simp
        have J:=T0.alloc zH;refine r.out _ _ (G.out _ [_] J) fun _=>?_;clear r K T0;simp only[Gb,G7,G6];generalize V0.alloc _=V1 at*;generalize V0.heap.size=N at*;refine Zf (rs:=[12,18]) kr (by simp) (H_ rfl (fun K r=>?_) (H_ rfl (fun K r=>?_) Zd))
        · go_simp
          refine(a2.out _ [_] J).mono ?_;rintro e V2 ⟨rfl,hB⟩;have E:=J.call hB;refine r.out _ _ (G.out _ [_] E) fun _=>?_;clear r K hB J;simp only[Gb,G7,G6];have a0:=G.out _ [_] E;refine G2 13 18 a0 ?_;refine G2 14 32 a0 ?_;refine G2 15 33 a0 ?_;refine G2 16 34 a0 ?_;clear a0;refine G5 18 (fun K r=>?_)
          · go_simp
            have U:=E.alloc zT;refine r.out _ _ (G.out _ [_,_] U) fun _=>?_;clear r K E;simp only[Gb,G7,G6];generalize V2.alloc _=V3 at*;generalize V2.heap.size=Z at*;exact hG.out N Z V3 (U.perm po)
        · go_simp
          have E:=J.alloc zT;refine r.out _ _ (G.out _ [_,_] E) fun _=>?_;clear r K J;simp only[Gb,G7,G6];generalize V1.alloc _=V2 at*;generalize V1.heap.size=Z at*;refine G5 12 (fun K r=>?_)
          · go_simp
            refine(a2.out _ [_,_] E).mono ?_;rintro e V3 ⟨rfl,hB⟩;have U:=E.call hB;refine r.out _ _ (G.out _ [_,_] U) fun _=>?_;clear r K hB E;simp only[Gb,G7,G6];have a1:=G.out _ [_,_] U;refine G2 13 18 a1 ?_;refine G2 14 32 a1 ?_;refine G2 15 33 a1 ?_;refine G2 16 34 a1 ?_;clear a1;exact hG.out N Z V3 (U.perm po)
      · go_simp
        have J:=T0.alloc zT;refine r.out _ _ (G.out _ [_] J) fun _=>?_;clear r K T0;simp only[Gb,G7,G6];generalize V0.alloc _=V1 at*;generalize V0.heap.size=Z at*;refine Zf (rs:=[12,17]) kr (by simp) (H_ rfl (fun K r=>?_) (H_ rfl (fun K r=>?_) Zd))
        · go_simp
          refine(a2.out _ [_] J).mono ?_;rintro e V2 ⟨rfl,hB⟩;have E:=J.call hB;refine r.out _ _ (G.out _ [_] E) fun _=>?_;clear r K hB J;simp only[Gb,G7,G6];have a0:=G.out _ [_] E;refine G2 13 18 a0 ?_;refine G2 14 32 a0 ?_;refine G2 15 33 a0 ?_;refine G2 16 34 a0 ?_;clear a0;refine G5 17 (fun K r=>?_)
          · go_simp
            have U:=E.alloc zH;refine r.out _ _ (G.out _ [_,_] U) fun _=>?_;clear r K E;simp only[Gb,G7,G6];generalize V2.alloc _=V3 at*;generalize V2.heap.size=N at*;exact hG.out N Z V3 (U.perm po)
        · go_simp
          have E:=J.alloc zH;refine r.out _ _ (G.out _ [_,_] E) fun _=>?_;clear r K J;simp only[Gb,G7,G6];generalize V1.alloc _=V2 at*;generalize V1.heap.size=N at*;refine G5 12 (fun K r=>?_)
          · go_simp
            refine(a2.out _ [_,_] E).mono ?_;rintro e V3 ⟨rfl,hB⟩;have U:=E.call hB;refine r.out _ _ (G.out _ [_,_] U) fun _=>?_;clear r K hB E;simp only[Gb,G7,G6];have a1:=G.out _ [_,_] U;refine G2 13 18 a1 ?_;refine G2 14 32 a1 ?_;refine G2 15 33 a1 ?_;refine G2 16 34 a1 ?_;clear a1;exact hG.out N Z V3 (U.perm po)
     case h2=>
      intro N Z V0 U0;refine G5 19 (fun K r=>?_);have a8:=U0.there1;have U1:=U0.laid [yV 1,iV cb,iV cc,iV cd] rfl;refine JT rfl rfl 125 _ _ rfl _ 0 #[yV 1,iV cb,iV cc,iV cd] rfl rfl a8 aG aj ?_;refine r.out _ _ (G.out _ [_,_] U1) fun _=>?_;clear r K a8;simp only[Gb,G7,G6];generalize V0.setCells N 0 _=V9 at*;refine G5 20 (fun K r=>?_);have ac:=U1.there2;have U2:=U1.laid2 [yV tk,iV tw,uV tm] rfl;refine JT rfl rfl 79 _ _ rfl _ 0 #[yV tk,iV tw,uV tm] rfl rfl ac aH ak ?_;refine r.out _ _ (G.out _ [_,_] U2) fun _=>?_;clear r K ac;simp only[Gb,G7,G6];have ah:=G.out _ [_,_] U2;refine G2 21 10 ah ?_;clear ah;refine P_ kr ?_ _;refine z_ ?_;exact⟨rfl,N,Z,rfl,U2⟩
    case hq=>
     intro N Z w5 T5;have c3:=T5.cell1 3;have aN:=a7.out w5 T5.below;have ae:=uh T5;clear T5 G a2
     go_wp2_with (first
      | (at_builtin;refine K_ rfl _ _ rfl L4 rfl aU.out (R:=(w5.heap.size,.cells #[iV cd] 3)::(N,.cells #[yV 1,iV cb,iV cc,iV cd] 125)::(Z,.cells #[yV tk,iV tw,uV tm] 79)::((rb,rN ao W cap lao L.length lcap)::lr++R)) ((ae.out.alloc (.cells #[iV cd] 3)).perm po).has rfl (news:=[iV cd]) rfl (Qy (A_ _ _)) (by simp[Value.oneCell']) aW aX ?_;intro a9 p9 l9 w9 aQ V9 b1;have ay:=uh (((ae.out.alloc (.cells #[iV cd] 3)).perm (l2:=M++((w5.heap.size,.cells #[iV cd] 3)::(N,.cells #[yV 1,iV cb,iV cc,iV cd] 125)::(Z,.cells #[yV tk,iV tw,uV tm] 79)::((rb,rN ao W cap lao L.length lcap)::lr++R))) po).trans V9);have aV:=uh aQ;clear aQ V9 b1)
      | fail)
     have b4:=a7.out _ ay.out.below;have b7:w9.cell? (aD N 3)=some (iV cd):=ay.out.has.cell (b:=N) (c:=#[yV 1,iV cb,iV cc,iV cd]) (e:=125) (f:=(0,0)) (by simp) 3;have aT:=uh ((ay.out.perm (l2:=[(w5.heap.size,.cells #[iV cd] 3),(N,.cells #[yV 1,iV cb,iV cc,iV cd] 125),(Z,.cells #[yV tk,iV tw,uV tm] 79)]++(l9++((rb,rN ao W cap lao L.length lcap)::lr++R))) po).drop);clear ay ae c3 aN
     go_quiet (fail)
     go_wp2_with fail
     go_roundw
     case rel=>exact⟨i+1,a9,p9,l9,by omega,by go_num,by rw[aK.out];go_num,rfl,by rw[aL.out,GS];exact aV.out,aT.out.drewN _⟩
     case measure=>simp[intOf];omega
  · obtain rfl:i=os.length:=O
    have aR:((os.length:Nat):Int)<(ats.length:Int):=O;rw[D_]
    obtain⟨h,t,er,aC,LG⟩:∃(h:Hd) (t:Ty) (er:Int),(∀w' Y,Turn [] w0 (Y++(M++((rb,rN ao W cap lao L.length lcap)::lr++R))) w' -> Calls prog 205 #[.slice ao W.length cap,.slice lao L.length lcap,iV x] w' fun e b3=>e=.returned (.tuple #[KM h,K7 t,iV er]) /\ Below w'.heap.size w' b3) /\ (er≠0∨(er=0 /\ x<(Gg 0 os:Nat))):=by
     cases hq:objq L W x with
     | none=>
      refine⟨AM,⟨0,0,0⟩,S9 W x,fun w' Y V=>?_,.inl CA⟩;have h:=ap.out w' M Y V x;rw[hq]at h;exact h
     | some h=>
      refine⟨h,tyAt L h.typ,0,fun w' Y V=>?_,.inr ⟨rfl,aq h hq⟩⟩;have h:=ap.out w' M Y V x;rw[hq]at h;exact h
    have a2:=uh aC;obtain⟨ab,a4,rfl,a6⟩:=av.out;have a7:=uh (fun w' (hB:Below w0.heap.size w0 w')=>(hB.cell (p:=(aD ab (a4+os.length))) (c_ w0 _ (a6 os.length _ (Kr hx)))).trans (a6 os.length _ (Kr hx)));have G:=uh (fun w' Y (V:Turn [] w0 (Y++(M++((rb,rN ao W cap lao L.length lcap)::lr++R))) w')=>(⟨(ax.out w' M Y V).1,(ax.out w' M Y V).2,a7.out w' V.below⟩:w'.cell? (aD rb 0)=some (.slice ao W.length cap) /\ w'.cell? (aD rb 1)=some (.slice lao L.length lcap) /\ w'.cell? (aD ab (a4+os.length))=some (iV x)));obtain⟨ha,hb,hc,hd⟩:=h;obtain⟨tk,tw,tm⟩:=t;have aj:=GP ⟨ha,hb,hc,hd⟩;have ak:=KH ⟨tk,tw,tm⟩;simp only at aj ak a2;generalize Gg 0 os=en at*;have ag:=uh T.drew;clear T aE a6 av au aq hx aC
    go_upto_region 6 with fail
    refine J1 (fun W'=>Turn [] w0 (M++((rb,rN ao W cap lao L.length lcap)::lr++R)) W'.drew) ag.out fun W1 J=>?_;have af:Hid (Turn [] w0 (M++((rb,rN ao W cap lao L.length lcap)::lr++R)) W1.drew):=uh J;clear J ag
    apply SK (I:=fun N Z w=>Turn [] w0 ((N,.cells #[yV ha,iV hb,iV hc,iV hd] 125)::(Z,.cells #[yV tk,iV tw,uV tm] 79)::(M++((rb,rN ao W cap lao L.length lcap)::lr++R))) w)
    case h=>
     have y:=G.out _ [] af.out;refine F_ ?_;refine rG (S:=fun W'=>W'.cell? (aD rb 0)=some (.slice ao W.length cap) /\ W'.cell? (aD rb 1)=some (.slice lao L.length lcap) /\ W'.cell? (aD ab (a4+os.length))=some (iV x)) 22 ?_;refine G2 0 19 y ?_;refine G2 1 20 y ?_;refine G2 2 21 y ?_;refine Jt 3 22 y (fun w a3=>a3.1) ?_;refine G2 4 23 y ?_;refine G2 5 24 y ?_;refine G2 6 25 y ?_;refine Jt 7 26 y (fun w a3=>a3.2.1) ?_;refine G2 8 27 y ?_;refine G2 9 28 y ?_;refine G2 10 29 y ?_;refine Jt 11 30 y (fun w a3=>a3.2.2) ?_;have T0:Turn [] w0 ([]++(M++((rb,rN ao W cap lao L.length lcap)::lr++R))) W1.drew:=af.out;clear y;generalize W1.drew=V0 at T0 ⊢;have am:=uh T0;clear T0
     apply RA (I:=fun N Z V=>Turn [] w0 ((N,zH)::(Z,zT)::(M++((rb,rN ao W cap lao L.length lcap)::lr++R))) V)
     case h1=>
      intro hG;have T0:=am.out;refine Zf (rs:=[12,17,18]) kr (by simp) (H_ rfl (fun K r=>?_) (H_ rfl (fun K r=>?_) (H_ rfl (fun K r=>?_) Zd)))
      · go_simp
        refine(a2.out _ [] T0).mono ?_;rintro e V1 ⟨rfl,hB⟩;have J:=T0.call hB;refine r.out _ _ (G.out _ [] J) fun _=>?_;clear r K hB T0;simp only[Gb,G7,G6];have y:=G.out _ [] J;refine G2 13 18 y ?_;refine G2 14 32 y ?_;refine G2 15 33 y ?_;refine G2 16 34 y ?_;clear y;refine Zf (rs:=[17,18]) kr (by simp) (H_ rfl (fun K r=>?_) (H_ rfl (fun K r=>?_) Zd))
        · go_simp
          have E:=J.alloc zH;refine r.out _ _ (G.out _ [_] E) fun _=>?_;clear r K J;simp only[Gb,G7,G6];generalize V1.alloc _=V2 at*;generalize V1.heap.size=N at*;refine G5 18 (fun K r=>?_)
          · go_simp
            have U:=E.alloc zT;refine r.out _ _ (G.out _ [_,_] U) fun _=>?_;clear r K E;simp only[Gb,G7,G6];generalize V2.alloc _=V3 at*;generalize V2.heap.size=Z at*;exact hG.out N Z V3 (U.perm po)
        · go_simp
          have E:=J.alloc zT;refine r.out _ _ (G.out _ [_] E) fun _=>?_;clear r K J;simp only[Gb,G7,G6];generalize V1.alloc _=V2 at*;generalize V1.heap.size=Z at*;refine G5 17 (fun K r=>?_)
          · go_simp
            have U:=E.alloc zH;refine r.out _ _ (G.out _ [_,_] U) fun _=>?_;clear r K E;simp only[Gb,G7,G6];generalize V2.alloc _=V3 at*;generalize V2.heap.size=N at*;exact hG.out N Z V3 (U.perm po)
      · go_simp
        have J:=T0.alloc zH;refine r.out _ _ (G.out _ [_] J) fun _=>?_;clear r K T0;simp only[Gb,G7,G6];generalize V0.alloc _=V1 at*;generalize V0.heap.size=N at*;refine Zf (rs:=[12,18]) kr (by simp) (H_ rfl (fun K r=>?_) (H_ rfl (fun K r=>?_) Zd))
        · go_simp
          refine(a2.out _ [_] J).mono ?_;rintro e V2 ⟨rfl,hB⟩;have E:=J.call hB;refine r.out _ _ (G.out _ [_] E) fun _=>?_;clear r K hB J;simp only[Gb,G7,G6];have a0:=G.out _ [_] E;refine G2 13 18 a0 ?_;refine G2 14 32 a0 ?_;refine G2 15 33 a0 ?_;refine G2 16 34 a0 ?_;clear a0;refine G5 18 (fun K r=>?_)
          · go_simp
            have U:=E.alloc zT;refine r.out _ _ (G.out _ [_,_] U) fun _=>?_;clear r K E;simp only[Gb,G7,G6];generalize V2.alloc _=V3 at*;generalize V2.heap.size=Z at*;exact hG.out N Z V3 (U.perm po)
        · go_simp
          have E:=J.alloc zT;refine r.out _ _ (G.out _ [_,_] E) fun _=>?_;clear r K J;simp only[Gb,G7,G6];generalize V1.alloc _=V2 at*;generalize V1.heap.size=Z at*;refine G5 12 (fun K r=>?_)
          · go_simp
            refine(a2.out _ [_,_] E).mono ?_;rintro e V3 ⟨rfl,hB⟩;have U:=E.call hB;refine r.out _ _ (G.out _ [_,_] U) fun _=>?_;clear r K hB E;simp only[Gb,G7,G6];have a1:=G.out _ [_,_] U;refine G2 13 18 a1 ?_;refine G2 14 32 a1 ?_;refine G2 15 33 a1 ?_;refine G2 16 34 a1 ?_;clear a1;exact hG.out N Z V3 (U.perm po)
      · go_simp
        have J:=T0.alloc zT;refine r.out _ _ (G.out _ [_] J) fun _=>?_;clear r K T0;simp only[Gb,G7,G6];generalize V0.alloc _=V1 at*;generalize V0.heap.size=Z at*;refine Zf (rs:=[12,17]) kr (by simp) (H_ rfl (fun K r=>?_) (H_ rfl (fun K r=>?_) Zd))
        · go_simp
          refine(a2.out _ [_] J).mono ?_;rintro e V2 ⟨rfl,hB⟩;have E:=J.call hB;refine r.out _ _ (G.out _ [_] E) fun _=>?_;clear r K hB J;simp only[Gb,G7,G6];have a0:=G.out _ [_] E;refine G2 13 18 a0 ?_;refine G2 14 32 a0 ?_;refine G2 15 33 a0 ?_;refine G2 16 34 a0 ?_;clear a0;refine G5 17 (fun K r=>?_)
          · go_simp
            have U:=E.alloc zH;refine r.out _ _ (G.out _ [_,_] U) fun _=>?_;clear r K E;simp only[Gb,G7,G6];generalize V2.alloc _=V3 at*;generalize V2.heap.size=N at*;exact hG.out N Z V3 (U.perm po)
        · go_simp
          have E:=J.alloc zH;refine r.out _ _ (G.out _ [_,_] E) fun _=>?_;clear r K J;simp only[Gb,G7,G6];generalize V1.alloc _=V2 at*;generalize V1.heap.size=N at*;refine G5 12 (fun K r=>?_)
          · go_simp
            refine(a2.out _ [_,_] E).mono ?_;rintro e V3 ⟨rfl,hB⟩;have U:=E.call hB;refine r.out _ _ (G.out _ [_,_] U) fun _=>?_;clear r K hB E;simp only[Gb,G7,G6];have a1:=G.out _ [_,_] U;refine G2 13 18 a1 ?_;refine G2 14 32 a1 ?_;refine G2 15 33 a1 ?_;refine G2 16 34 a1 ?_;clear a1;exact hG.out N Z V3 (U.perm po)
     case h2=>
      intro N Z V0 U0;refine G5 19 (fun K r=>?_);have a8:=U0.there1;have U1:=U0.laid [yV ha,iV hb,iV hc,iV hd] rfl;refine JT rfl rfl 125 _ _ rfl _ 0 #[yV ha,iV hb,iV hc,iV hd] rfl rfl a8 aG aj ?_;refine r.out _ _ (G.out _ [_,_] U1) fun _=>?_;clear r K a8;simp only[Gb,G7,G6];generalize V0.setCells N 0 _=V9 at*;refine G5 20 (fun K r=>?_);have ac:=U1.there2;have U2:=U1.laid2 [yV tk,iV tw,uV tm] rfl;refine JT rfl rfl 79 _ _ rfl _ 0 #[yV tk,iV tw,uV tm] rfl rfl ac aH ak ?_;refine r.out _ _ (G.out _ [_,_] U2) fun _=>?_;clear r K ac;simp only[Gb,G7,G6];have ah:=G.out _ [_,_] U2;refine G2 21 10 ah ?_;clear ah;refine P_ kr ?_ _;refine z_ ?_;exact⟨rfl,N,Z,rfl,U2⟩
    case hq=>
     intro N Z w5 T5;have aN:=a7.out w5 T5.below;have ae:=uh ((T5.perm (l2:=((N,.cells #[yV ha,iV hb,iV hc,iV hd] 125)::(Z,.cells #[yV tk,iV tw,uV tm] 79)::M)++(((rb,rN ao W cap lao L.length lcap)::lr)++R)) po).drop);clear T5 G a2;rcases LG with b0|⟨rfl,aS⟩
     · have ke:(er != 0)=true:=by rw[Qe];exact b0
       go_wp2_with fail
       go_ret;exact⟨rfl,ae.out⟩
     · have k1:decide (x<(en:Int))=true:=k_ aS
       go_wp2_with fail
       go_ret;exact⟨rfl,ae.out⟩
structure PlBase (w1:World)(tb:Nat)(L:List Ty)(lao:Option Addr)(lcap:Nat):Prop where
 tab:∃tao tcap,TabAt w1 tb tao tcap L
 fields:Fields w1
 src:Src w1 lao L.length lcap 3 (tys L)
 ty:∀t∈L,TyIn t
def Gm (w1 w:World)(sb tb rb:Nat)(lao:Option Addr)(lcap:Nat)(L:List Ty)(W B Wr:List Nat)(X:List Blk):Prop:=
 ∃ls lr,DA sb tb W B ls /\ Ks rb lao L.length lcap Wr lr /\ (∀x∈X,x.2.isCells=true) /\ Turn [] w1 (ls++(lr++X)) w
theorem Gm.call {w1 w w':World}{sb tb rb lcap:Nat}{lao:Option Addr}{L:List Ty}{W B Wr:List Nat}{X:List Blk}(h:Gm w1 w sb tb rb lao lcap L W B Wr X)(y:Below w.heap.size w w'):Gm w1 w' sb tb rb lao lcap L W B Wr X:=by
 obtain⟨G,E,h1,h2,r,T⟩:=h;exact⟨G,E,h1,h2,r,T.call y⟩
theorem Gm.drew {w1 w:World}{sb tb rb lcap:Nat}{lao:Option Addr}{L:List Ty}{W B Wr:List Nat}{X:List Blk}(h:Gm w1 w sb tb rb lao lcap L W B Wr X):Gm w1 w.drew sb tb rb lao lcap L W B Wr X:=by
 obtain⟨E,y,h1,h2,r,T⟩:=h;exact⟨E,y,h1,h2,r,T.drew⟩
theorem Gm.below {w1 w:World}{sb tb rb lcap:Nat}{lao:Option Addr}{L:List Ty}{W B Wr:List Nat}{X:List Blk}(h:Gm w1 w sb tb rb lao lcap L W B Wr X):Below w1.heap.size w1 w:=by
 obtain⟨y,r,-,-,-,T⟩:=h;exact T.below
theorem Gm.has {w1 w:World}{sb tb rb lcap:Nat}{lao:Option Addr}{L:List Ty}{W B Wr:List Nat}{X:List Blk}(h:Gm w1 w sb tb rb lao lcap L W B Wr X):Has w X:=by
 obtain⟨y,r,-,-,-,T⟩:=h;exact(T.drop.drop).has
theorem Gm.alloc {w1 w:World}{sb tb rb lcap:Nat}{lao:Option Addr}{L:List Ty}{W B Wr:List Nat}{X:List Blk}(h:Gm w1 w sb tb rb lao lcap L W B Wr X)(o:Obj)(E:o.isCells=true):Gm w1 (w.alloc o) sb tb rb lao lcap L W B Wr ((w.heap.size,o)::X):=by
 obtain⟨J,G,h1,h2,y,T⟩:=h;refine⟨J,G,h1,h2,?_,(T.alloc o).perm po⟩;intro x r;rcases t_.1 r with rfl|r
 ·exact E
 ·exact y x r
theorem Gm.sub {w1 w:World}{sb tb rb lcap:Nat}{lao:Option Addr}{L:List Ty}{W B Wr:List Nat}{X Y:List Blk}(h:Gm w1 w sb tb rb lao lcap L W B Wr X)(s:Y.Sublist X):Gm w1 w sb tb rb lao lcap L W B Wr Y:=by
 obtain⟨y,r,h1,h2,E,T⟩:=h;exact⟨y,r,h1,h2,fun x G=>E x (s.subset G),T.sub ((Xy y).append ((Xy r).append s))⟩
theorem Gm.grow {w1 w w':World}{sb tb rb lcap:Nat}{lao:Option Addr}{L:List Ty}{W B Wr:List Nat}{X Y:List Blk}(h:Gm w1 w sb tb rb lao lcap L W B Wr X)(y:Turn [] w Y w')(G:∀x∈Y,x.2.isCells=true):Gm w1 w' sb tb rb lao lcap L W B Wr (Y++X):=by
 obtain⟨M,J,h1,h2,E,T⟩:=h;refine⟨M,J,h1,h2,?_,(T.grow y).perm po⟩;intro x r;rcases s_.1 r with r|r
 ·exact G x r
 ·exact E x r
theorem Ks.cells {rb E lcap:Nat}{lao:Option Addr}{W:List Nat}{l:List Blk}(h:Ks rb lao E lcap W l):∀x∈l,x.2.isCells=true:=by
 obtain⟨ao,cap,G,y,rfl⟩:=h;intro x r;rcases t_.1 r with rfl|r
 ·rfl
 ·exact y.cells x r
theorem Rh {w1 w:World}{sb a r tb bb:Nat}{W:List Nat}{lb R:List Blk}{E:Int}{G:Option Addr}{y:Nat}{L:List Ty}(T:Turn [] w1 (G0 a r W E++(G1 sb a tb bb::lb)++R) w)(M:TabAt w1 tb G y L)(N:Fields w1)(U:W.length <= 65536):SpAt w sb a r tb W G y L:=by
 have J:Turn [] w1 (G0 a r W E++(G1 sb a tb bb::(lb++R))) w:=by
  have e:G0 a r W E++(G1 sb a tb bb::lb)++R=G0 a r W E++(G1 sb a tb bb::(lb++R)):=by simp
  rw[←e];exact T
 exact⟨J.has.cell (b:=sb) (c:=#[pt a,pt tb,pt bb]) (e:=129) (f:=(0,0)) (by simp[G1]) 0,
  J.has.cell (b:=sb) (c:=#[pt a,pt tb,pt bb]) (e:=129) (f:=(0,0)) (by simp[G1]) 1,JQ J.has U,M.below T.below,range_below N T.below⟩
theorem SE {L:List Ty}{y n:Int}(r:GH L y n=0)(V:L.length <= 64):1 <= y /\ y <= L.length /\ 0 <= n /\ (Hd.mk 1 y.toNat n.toNat (GY L y n)).may:=by
 unfold GH at r;unfold GY
 cases E:Kc L y with
 | none=>rw[E]at r;exact absurd r (by simp)
 | some t=>
  rw[E]at r;simp only at r ⊢;obtain⟨k,h1,h2,M⟩:=KZ E;obtain⟨J,G,N,-⟩:=L3.1 r;rw[v_ r];have U:=GJ J (n:=n.toNat) O;unfold Ty.size;refine⟨by omega,by omega,G,?_⟩;unfold Hd.may;exact⟨by show 1 <= _;simp only;omega,by simp only;omega,by simp only;omega,.inl ⟨rfl,by simp only;omega,by simp only;omega⟩⟩
theorem CG {L:List Ty}{r n:Int}(y:GH L r n=0)(M:L.length <= 64):Ud L ⟨1,r.toNat,n.toNat,GY L r n⟩:=by
 obtain⟨h1,-,h2,J⟩:=SE y M;refine(MS L _).1 ?_;unfold Ka;rw[y_ (by simpa using J),y_ (by simp)];have E:((r.toNat:Nat):Int)=r:=O;have G:((n.toNat:Nat):Int)=n:=O;simp only[E,G];rw[v_ ⟨y,trivial⟩]
theorem Cz {L:List Ty}{W:List Nat}{cs:List Ce}{e:Nat}(r:Chain L W 0 cs e){c d:Ce}(y:c∈cs)(hd:d∈cs){g:Nat}(h1:c.1 <= g)(h2:g<c.1+c.2.size)(J:d.1 <= g)(M:g<d.1+d.2.size):c=d:=by
 obtain⟨a,b,rfl⟩:=List.append_of_mem y;obtain⟨E,N,G⟩:=r.split;rcases s_.1 hd with hd|hd
 · have:=E.mem d hd
   omega
 · rcases t_.1 hd with rfl|hd
   ·rfl
   · have:=G.mem d hd
     omega
def DE (L:List Ty)(W B:List Nat)(cs:List Ce)(g id n er:Int)(W' B':List Nat)(cs':List Ce):Prop:=
 (er≠0 /\ W'=W /\ B'=B /\ cs'=cs /\ ((GH L id n≠0∨g<0∨((W.length/2:Nat):Int) <= g) /\ er=(if GH L id n≠0 then GH L id n else 2)∨
   GH L id n=0 /\ 0 <= g /\ g<(W.length/2:Nat) /\ er=3 /\ ∀c∈cs,¬M4 c g.toNat (GY L id n)))∨
 (er=0 /\ GH L id n=0 /\ 0 <= g /\ g<(W.length/2:Nat) /\ ∃a c b,cs=a++c::b /\ M4 c g.toNat (GY L id n) /\ W'=Mm W c g.toNat ⟨1,id.toNat,n.toNat,GY L id n⟩ /\ cs'=a++Wt c g.toNat ⟨1,id.toNat,n.toNat,GY L id n⟩++b)
theorem BS {w1:World}(w:World){sb tb rb lcap:Nat}{lao:Option Addr}{L:List Ty}{W B Wr:List Nat}{X:List Blk}{cs:List Ce}(E:PlBase w1 tb L lao lcap)(hP:Gm w1 w sb tb rb lao lcap L W B Wr X)(h:Pl L W B cs)(g r n:Int):
  Calls prog 25 #[pt sb,iV g,iV r,iV n] w fun e w'=>∃(er:Int) (W' B':List Nat) (cs':List Ce),e=.returned (iV er) /\ DE L W B cs g r n er W' B' cs' /\ Pl L W' B' cs' /\ Gm w1 w' sb tb rb lao lcap L W' B' Wr X:=by
 obtain⟨a4,a0,y⟩:=E.tab;have ab:=h.good.small;have M:=h.good.few;have a8:=hP;obtain⟨ls,lr,⟨a,aw,bb,cw,lb,G,rfl⟩,hR,hX,T⟩:=a8;have hA:=Rh T y E.fields O
 by_cases V:GH L r n≠0∨g<0∨((W.length/2:Nat):Int) <= g
 · refine(N_.1 (VZ 3 w sb a aw tb a4 a0 L hA O E.ty O g r n V O)).mono ?_
   rintro e w' ⟨rfl,hB⟩;refine⟨_,W,B,cs,rfl,.inl ⟨?_,rfl,rfl,rfl,.inl ⟨V,rfl⟩⟩,h,hP.call hB⟩
   split
   ·assumption
   ·decide
 · have J:GH L r n=0:=by
     by_cases h0:GH L r n=0
     ·exact h0
     ·exact absurd (.inl h0) V
   have a2:0 <= g:=O;have a3:g<(W.length/2:Nat):=O;obtain⟨h1,h2,h3,U⟩:=SE J M;have N:=CG J M;obtain⟨gn,rfl⟩:∃k:Nat,g=k:=⟨g.toNat,by omega⟩;obtain⟨a9,rfl⟩:∃k:Nat,r=k:=⟨r.toNat,by omega⟩;obtain⟨nn,rfl⟩:∃k:Nat,n=k:=⟨n.toNat,by omega⟩;rw[Qs,Qs]at U N;refine(N_.1 (ZG 5 O w sb a aw tb bb a4 a0 L hA G h.bu (Nat.le_of_eq h.bl.symm) (fun x Z=>?_) T y E.fields O h.good.u64 E.ty O cs h.good.chain gn a9 nn _ J rfl U O)).mono ?_
   · rcases s_.1 Z with Z|Z
     ·exact hR.cells x Z
     ·exact hX x Z
   · rintro e w' ⟨er,l',rfl,T',hE⟩
     rcases hE with⟨rfl,rfl,a5⟩|⟨rfl,c,hc,ht,B',aa,a7,a6,a1,rfl⟩
     ·exact⟨3,W,B,cs,rfl,.inl ⟨by decide,rfl,rfl,rfl,.inr ⟨J,a2,a3,rfl,a5⟩⟩,h,_,lr,⟨a,aw,bb,cw,lb,G,rfl⟩,hR,hX,T'⟩
     · obtain⟨p,q,rfl⟩:=List.append_of_mem hc
       refine⟨0,_,B',_,rfl,.inr ⟨rfl,J,a2,a3,p,c,q,rfl,ht,rfl,rfl⟩,h.put N rfl ht a6,_,lr,⟨a,aw,bb,a7,aa,?_,rfl⟩,hR,hX,T'⟩;rw[KK];exact a1
theorem Cd {w1:World}(w:World){sb tb rb lcap:Nat}{lao:Option Addr}{L:List Ty}{W B Ws Bs W' B':List Nat}{X:List Blk}{cs cs':List Ce}(J:PlBase w1 tb L lao lcap)(h:Pl L W B cs)(hP:Gm w1 w sb tb rb lao lcap L Ws Bs W X)(g G n er:Int)(hr:DE L W B cs g G n er W' B' cs'):
  Calls prog 151 #[pt rb,iV g,iV G,iV n] w fun e w'=>e=.returned (iV er) /\ Gm w1 w' sb tb rb lao lcap L Ws Bs W' X:=by
 have a8:=h.good.small;have a0:=h.good.few;obtain⟨N,lr,hS,U,hX,T⟩:=hP;have T':Turn [] w1 (lr++(N++X)) w:=T.perm po;have E:∀(w':World) (a2:List Blk),Turn [] w1 (a2++(N++X)) w' -> Turn [] w1 (N++(a2++X)) w':=fun w' a2 V=>V.perm po;rcases hr with⟨-,rfl,-,-,⟨y,rfl⟩|⟨Z,a6,a7,rfl,y⟩⟩|⟨rfl,Z,a6,a7,p,c,q,rfl,M,rfl,-⟩
 · refine(Cj w U T' J.src J.ty O O g G n y).mono ?_
   rintro e w' ⟨rfl,V⟩;exact⟨rfl,N,lr,hS,U,hX,E _ _ V⟩
 · obtain⟨h1,h2,h3,r⟩:=SE Z a0
   obtain⟨gn,rfl⟩:∃k:Nat,g=k:=⟨g.toNat,by omega⟩;obtain⟨a1,rfl⟩:∃k:Nat,G=k:=⟨G.toNat,by omega⟩;obtain⟨nn,rfl⟩:∃k:Nat,n=k:=⟨n.toNat,by omega⟩;rw[Qs,Qs]at r;rw[Qs]at y;refine g4 w U T' J.src J.ty O O h.good.u64 cs h.good.chain gn a1 nn _ Z rfl r O _ (uh fun c hc M=>absurd M (y c hc)) (uh fun _ w' V=>?_);exact⟨rfl,N,lr,hS,U,hX,E _ _ V⟩
 · obtain⟨h1,h2,h3,r⟩:=SE Z a0
   obtain⟨gn,rfl⟩:∃k:Nat,g=k:=⟨g.toNat,by omega⟩;obtain⟨a1,rfl⟩:∃k:Nat,G=k:=⟨G.toNat,by omega⟩;obtain⟨nn,rfl⟩:∃k:Nat,n=k:=⟨n.toNat,by omega⟩;rw[Qs,Qs]at r;rw[Qs]at M;simp only[Qs];refine g4 w U T' J.src J.ty O O h.good.u64 (p++c::q) h.good.chain gn a1 nn _ Z rfl r O _ (uh fun d hd a3 w' l' a4 V=>?_) (uh fun y=>absurd M (y c (by simp)));have a5:d=c:=Cz h.good.chain hd (by simp) a3.2.1 a3.2.2.1 M.2.1 M.2.2.1;subst a5;exact⟨rfl,N,l',hS,a4,hX,E _ _ V⟩
def A9 (W B:List Nat)(cs:List Ce)(g er:Int)(W' B':List Nat)(cs':List Ce):Prop:=
 (er=3 /\ W'=W /\ B'=B /\ cs'=cs /\ ∀c∈cs,¬((c.1:Int)=g /\ c.2.tag=1))∨
 (er=0 /\ ∃pre c post,cs=pre++c::post /\ (c.1:Int)=g /\ c.2.tag=1 /\ W'=MM W pre c post /\ objs cs'=objs pre++objs post)
theorem Aj {w1:World}(w:World){sb tb rb lcap:Nat}{lao:Option Addr}{L:List Ty}{W B Wr:List Nat}{X:List Blk}{cs:List Ce}(hb:PlBase w1 tb L lao lcap)(hP:Gm w1 w sb tb rb lao lcap L W B Wr X)(h:Pl L W B cs)(g:Int):
  Calls prog 152 #[pt sb,iV g] w fun e w'=>∃(er:Int) (W' B':List Nat) (cs':List Ce),e=.returned (iV er) /\ A9 W B cs g er W' B' cs' /\ Pl L W' B' cs' /\ Gm w1 w' sb tb rb lao lcap L W' B' Wr X:=by
 obtain⟨a4,a1,Z⟩:=hb.tab;have a6:=h.good.small;have a5:=h.good.few;obtain⟨ls,lr,⟨a,J,bb,cw,lb,r,rfl⟩,U,hX,T⟩:=hP
 by_cases y:∀c∈cs,¬((c.1:Int)=g /\ c.2.tag=1)
 · refine(XU w sb a J tb bb r h.bu (Nat.le_of_eq h.bl.symm) T O g ?_).mono ?_
   · by_cases h1:g<0
     ·exact .inl h1
     · by_cases h2:((W.length/2:Nat):Int) <= g
       ·exact .inr (.inl h2)
       · refine .inr (.inr ?_)
         cases E:Gv B g.toNat with
         | false=>rfl
         | true=>
          obtain⟨c,N,h3,h4⟩:=h.bit O E;exact absurd ⟨by omega,h4⟩ (y c N)
   · rintro e w' ⟨rfl,V⟩
     exact⟨3,W,B,cs,rfl,.inl ⟨rfl,rfl,rfl,rfl,y⟩,h,_,lr,⟨a,J,bb,cw,lb,r,rfl⟩,U,hX,V⟩
 · simp only[Classical.not_forall,Classical.not_not]at y
   obtain⟨c,N,rfl,ht⟩:=y;have E:=h.bit_of N ht;obtain⟨p,q,rfl⟩:=List.append_of_mem N;refine(N_.1 (C0 5 O w sb a J tb bb a4 a1 L r h.bu (Nat.le_of_eq h.bl.symm) (fun x G=>?_) T Z hb.fields O h.good.u64 hb.ty O p q c h.good.chain E)).mono ?_
   · rcases s_.1 G with G|G
     ·exact U.cells x G
     ·exact hX x G
   · rintro e w' ⟨B',a3,a2,rfl,a0,M,V⟩
     obtain⟨cs',h1,h2⟩:=h.drop ht a0;refine⟨0,_,B',cs',rfl,.inr ⟨rfl,p,c,q,rfl,rfl,ht,rfl,h2⟩,h1,_,lr,⟨a,J,bb,a2,a3,?_,rfl⟩,U,hX,V⟩;unfold MM;rw[Gz];exact M
theorem Aq {w1:World}(w:World){sb tb rb lcap:Nat}{lao:Option Addr}{L:List Ty}{W B N Bs W' B':List Nat}{X:List Blk}{cs cs':List Ce}(G:PlBase w1 tb L lao lcap)(h:Pl L W B cs)(hP:Gm w1 w sb tb rb lao lcap L N Bs W X)(g U:Int)(hr:A9 W B cs g U W' B' cs'):
  Calls prog 153 #[pt rb,iV g] w fun e w'=>e=.returned (iV U) /\ Gm w1 w' sb tb rb lao lcap L N Bs W' X:=by
 have a2:=h.good.small;have a1:=h.good.few;obtain⟨E,lr,hS,J,hX,T⟩:=hP;have M:Turn [] w1 (lr++(E++X)) w:=T.perm po;have r:∀(w':World) (y:List Blk),Turn [] w1 (y++(E++X)) w' -> Turn [] w1 (E++(y++X)) w':=fun w' y V=>V.perm po;rcases hr with⟨rfl,rfl,-,-,a0⟩|⟨rfl,p,c,q,rfl,rfl,ht,rfl,-⟩
 · refine(YR w J M G.src G.ty O O h.good.u64 cs h.good.chain g a0).mono ?_
   rintro e w' ⟨rfl,V⟩;exact⟨rfl,E,lr,hS,J,hX,r _ _ V⟩
 · refine(gK w J M G.src G.ty O O h.good.u64 p q c h.good.chain ht).mono ?_
   rintro e w' ⟨rfl,l',Z,V⟩;exact⟨rfl,E,l',hS,Z,hX,r _ _ V⟩
theorem Vf (L:List Ty)(W:List Nat)(ats:List Int):(∃os,JR L W 0 os /\ ats=Sj os)∨
  (∃os x,JR L W 0 os /\ ats[os.length]?= some x /\ (∀(i:Nat) (c:Ce),os[i]?= some c -> ats[i]?= some (c.1:Int)) /\ ∀h,objq L W x=some h -> x<(Gg 0 os:Nat)):=by
 have key:∀k,k <= ats.length -> (∃os:List Ce,os.length=k /\ JR L W 0 os /\ ∀(i:Nat) (c:Ce),os[i]?= some c -> ats[i]?= some (c.1:Int))∨
   (∃os x,JR L W 0 os /\ ats[os.length]?= some x /\ (∀(i:Nat) (c:Ce),os[i]?= some c -> ats[i]?= some (c.1:Int)) /\ ∀h,objq L W x=some h -> x<(Gg 0 os:Nat)):=by
  intro k
  induction k with
  | zero=>exact fun _=>.inl ⟨[],rfl,trivial,fun i c h=>by simp at h⟩
  | succ k ih=>
   intro hk;rcases ih O with⟨os,G,J,E⟩|h
   · obtain⟨x,N⟩:∃x,ats[k]?= some x:=⟨ats[k]'O,a_ _⟩
     by_cases y:∀h,objq L W x=some h -> x<(Gg 0 os:Nat)
     ·exact .inr ⟨os,x,J,by rw[G];exact N,E,y⟩
     · simp only[Classical.not_forall,Int.not_lt]at y
       obtain⟨h,V,a0⟩:=y;obtain⟨h0,M,Z⟩:=AA V;refine .inl ⟨os++[(x.toNat,h)],by simp[G],NX.2 ⟨J,by show Gg 0 os <= x.toNat;omega,M,Z⟩,fun i c r=>?_⟩
       by_cases U:i<os.length
       · rw[Qz U]at r
         exact E i c r
       · have:i=os.length:=by
           have:=(m_.1 r).1;rw[e_,Xx]at this;omega
         subst this;rw[Qg (g_ _),Jc]at r;obtain rfl:(x.toNat,h)=c:=(by simpa using r);rw[G,N]
         congr 1
         show x=((x.toNat:Nat):Int)
         omega
   ·exact .inr h
 rcases key ats.length (g_ _)with⟨os,G,J,E⟩|h
 · refine .inl ⟨os,J,Xq fun i=>?_⟩
   cases r:os[i]? with
   | none=>
    rw[List.getElem?_eq_none_iff]at r;rw[Qb O,Qb (by rw[M1];exact r)]
   | some c=>rw[E i c r,M2 r]
 ·exact .inr h
def DB (L:List Ty)(W B:List Nat)(cs:List Ce)(ats:List Int)(er:Int)(W' B':List Nat)(cs':List Ce):Prop:=
 (er=2 /\ W'=W /\ B'=B /\ cs'=cs /\ ∃os x,JR L W 0 os /\ ats[os.length]?= some x /\ (∀(i:Nat) (c:Ce),os[i]?= some c -> ats[i]?= some (c.1:Int)) /\ ∀h,objq L W x=some h -> x<(Gg 0 os:Nat))∨
 (er=0 /\ ∃os,JR L W 0 os /\ ats=Sj os /\ W'=GL (W.length/2) W os 0 /\ cs'=Ly (W.length/2) os 0)
theorem VY {w1:World}(w:World){sb tb rb lcap:Nat}{lao:Option Addr}{L:List Ty}{W B Wr:List Nat}{X la:List Blk}{cs:List Ce}(N:PlBase w1 tb L lao lcap)(hP:Gm w1 w sb tb rb lao lcap L W B Wr (la++X))(h:Pl L W B cs)(ats:List Int)(a2:ats.length <= 65536)(G:Option Addr)(r:Nat)(a3:Gh 3 1 G ats.length r (M9 ats) la):
  Calls prog 155 #[pt sb,.slice G ats.length r] w fun e w'=>∃(er:Int) (W' B':List Nat) (cs':List Ce),e=.returned (iV er) /\ DB L W B cs ats er W' B' cs' /\ Pl L W' B' cs' /\ Gm w1 w' sb tb rb lao lcap L W' B' Wr (la++X):=by
 obtain⟨a1,a0,J⟩:=N.tab;have a7:=h.good.small;have a6:=h.good.few;obtain⟨ls,lr,⟨a,aw,bb,cw,lb,y,rfl⟩,hR,hX,T⟩:=hP;have M:∀(w':World) (Y:List Blk),Turn [] w1 (Y++(lr++(la++X))) w' -> Src w' G ats.length r 1 (M9 ats):=fun w' Y V=>a3.src (R:=Y++(lr++X)) (V.has.perm po);rcases Vf L W ats with⟨os,E,rfl⟩|⟨os,x,E,hx,Z,U⟩
 · rw[M1]at M ⊢
   refine(Ef w sb a aw tb bb a1 a0 L y h.bu (Nat.le_of_eq h.bl.symm) T J N.fields O h.good.u64 N.ty O os E G r M).mono ?_;rintro e w' ⟨rfl,B',a5,a4,h1,h2,h3,h4,V⟩;refine⟨0,_,B',_,rfl,.inr ⟨rfl,os,E,rfl,rfl,rfl⟩,h.settle E h1 h2 h3,_,lr,⟨a,aw,bb,a4,a5,?_,rfl⟩,hR,hX,V⟩;rw[JC];exact h4
 · refine(VW w sb a aw tb bb a1 a0 L y h.bu (Nat.le_of_eq h.bl.symm) T J N.fields O h.good.u64 N.ty O ats os E x hx Z U a2 G r M).mono ?_
   rintro e w' ⟨rfl,V⟩;exact⟨2,W,B,cs,rfl,.inl ⟨rfl,rfl,rfl,rfl,os,x,E,hx,Z,U⟩,h,_,lr,⟨a,aw,bb,cw,lb,y,rfl⟩,hR,hX,V⟩
theorem Wn {w1:World}(w:World){sb tb rb lcap:Nat}{lao:Option Addr}{L:List Ty}{W B Ws Bs W' B':List Nat}{X:List Blk}{cs cs':List Ce}(N:PlBase w1 tb L lao lcap)(h:Pl L W B cs)(hP:Gm w1 w sb tb rb lao lcap L Ws Bs W X)(ats:List Int)(a1:ats.length <= 65536)(M:Option Addr)(r:Nat)(U:Src w1 M ats.length r 1 (M9 ats))(er:Int)(E:DB L W B cs ats er W' B' cs'):
  Calls prog 156 #[pt rb,.slice M ats.length r] w fun e w'=>e=.returned (iV er) /\ Gm w1 w' sb tb rb lao lcap L Ws Bs W' X:=by
 have a5:=h.good.small;have a4:=h.good.few;obtain⟨J,lr,hS,Z,hX,T⟩:=hP;have T':Turn [] w1 (lr++(J++X)) w:=T.perm po;have y:∀(w':World) (G:List Blk),Turn [] w1 (G++(J++X)) w' -> Turn [] w1 (J++(G++X)) w':=fun w' G V=>V.perm po;rcases E with⟨rfl,rfl,-,-,os,x,E,hx,a2,a0⟩|⟨rfl,os,E,rfl,rfl,-⟩
 · refine(Wd w Z T' N.src N.ty O O h.good.u64 ats os E x hx a2 a0 a1 M r U).mono ?_
   rintro e w' ⟨rfl,V⟩;exact⟨rfl,J,lr,hS,Z,hX,y _ _ V⟩
 · rw[M1]at U ⊢
   refine(Ej w Z T' N.src N.ty O O h.good.u64 os E M r U).mono ?_;rintro e w' ⟨rfl,l',a3,V⟩;exact⟨rfl,J,l',hS,a3,hX,y _ _ V⟩
section
variable {P:Program} {w:World} {o:Oper} {a:Act} {K:Act -> World -> Prop} {Q:Exit -> Act -> World -> Prop} {t e:TypeId} {size bytes:Nat} {z:Value}
 {ao ar:Option Addr} {n cap m c:Nat} {xs news:List Value} {l R:List Blk}
theorem Sn {ops:Array Oper}{E:Prop}(U:o.guard=none)(s x:Operand)(ho:o.op=.call { callee:=.builtin .append,args:=#[s,x],argTypes:=#[t,t] })(Z:Elem P t e size bytes z)
  (hs:a.eval s=.slice ao n cap)(hx:a.eval x=.slice ar m c)(J:Gh e size ao n cap xs l)(V:Has w (l++R))(M:Src w ar m c size news)(h1:∀u∈news,u.oneCell'=true)
  (N:n+m <= maxLen)(y:(n+m)*bytes <= 140737488355328)
  (h:∀G r l' w',Gh e size G (n+m) r (xs++news) l' -> Turn (l++R) w (l'++R) w' -> K (a.put o.dst (.slice G (n+m) r)) w'):
  if Region.wanted o (yielded ops a.tmps)=true then Oper.wp P o a w K Q else E:=by
 have hw:Region.wanted o (yielded ops a.tmps)=true:=by simp[Region.wanted,U]
 rw[v_ hw];exact NJ s x ho Z hs hx J V M h1 N y h
end
theorem CN (l:List Int):∀u∈M9 l,u.oneCell'=true:=by
 intro u r;unfold M9 at r;rw[U_]at r;obtain⟨x,-,rfl⟩:=r
 rfl
theorem Gm.x {w1 w:World}{sb tb rb lcap:Nat}{lao:Option Addr}{L:List Ty}{W B Wr:List Nat}{X:List Blk}{b:Nat}{c:Array Value}{e:TypeId}{f:Nat×Nat}(h:Gm w1 w sb tb rb lao lcap L W B Wr ((b,.cells c e f)::X)):w.rangeAt b 0 c.toList:=h.has.range (d_ ..)
theorem Dg {w1:World}(w:World){sb tb rb lcap:Nat}{lao:Option Addr}{L:List Ty}{W B:List Nat}{X:List Blk}{cs:List Ce}(hb:PlBase w1 tb L lao lcap)(hP:Gm w1 w sb tb rb lao lcap L W B W X)(h:Pl L W B cs)(g E n:Int)(M:Nat)(G:Value)(_hsl:G.oneCell'=true):
  Calls prog 97 #[pt sb,pt rb,.agg #[iV 0,iV g,iV E,iV n,uV M,G]] w fun e w'=>e=.returned (.bool true) /\ ∃W' B' cs',Pl L W' B' cs' /\ Gm w1 w' sb tb rb lao lcap L W' B' W' X:=by
 have HP:=uh (hP.alloc (.cells #[iV 0,iV g,iV E,iV n,uV M,G] 154) rfl);have Hs:=uh (fun w' (V:Gm w1 w' sb tb rb lao lcap L W B W ((w.heap.size,.cells #[iV 0,iV g,iV E,iV n,uV M,G] 154)::X))=>BS w' hb V h g E n);have Hr:=uh (fun w' Ws Bs (V:Gm w1 w' sb tb rb lao lcap L Ws Bs W ((w.heap.size,.cells #[iV 0,iV g,iV E,iV n,uV M,G] 154)::X)) W' B' cs' er hr=>Cd (W':=W') (B':=B') (cs':=cs') w' hb h V g E n er hr);clear hb hP h
 go_enter func97,ntmps97
 have hz:=HP.out.x;have q0:=hz 0 _ rfl
 go_upto_region 3 with fail
 refine J1 (fun W'=>Gm w1 W'.drew sb tb rb lao lcap L W B W ((w.heap.size,.cells #[iV 0,iV g,iV E,iV n,uV M,G] 154)::X)) HP.out.drew fun W1 T1=>?_;have a1:=uh T1;have r:=T1.x;clear T1 HP hz q0;generalize w.heap.size=xb at*;refine F_ ?_;refine rG (S:=fun W'=>W'.rangeAt xb 0 [iV 0,iV g,iV E,iV n,uV M,G]) 18 ?_;refine G2 0 15 r ?_;refine G2 1 16 r ?_;refine Jt 2 17 r (fun w y=>y 1 _ rfl) ?_;refine G2 3 18 r ?_;refine Jt 4 19 r (fun w y=>y 2 _ rfl) ?_;refine G2 5 20 r ?_;refine Jt 6 21 r (fun w y=>y 3 _ rfl) ?_;refine G2 8 23 r ?_;refine G2 9 24 r ?_;refine Jt 10 25 r (fun w y=>y 1 _ rfl) ?_;refine G2 11 26 r ?_;refine Jt 12 27 r (fun w y=>y 2 _ rfl) ?_;refine G2 13 28 r ?_;refine Jt 14 29 r (fun w y=>y 3 _ rfl) ?_;refine G5 7 (fun K N=>?_)
 go_simp
 refine(Hs.out _ a1.out).mono ?_;rintro e w2 ⟨er,W',B',cs',rfl,a0,a3,U⟩;have a2:=U.x;refine N.out _ _ a2 fun _=>?_;clear N K;simp only[Gb,G7,G6];refine G5 15 (fun K N=>?_)
 go_simp
 refine(Hr.out _ _ _ U W' B' cs' er a0).mono ?_;rintro e w3 ⟨rfl,Z⟩;have J:=Z.x;refine N.out _ _ J fun _=>?_;clear N K;simp only[Gb,G7,G6];refine G2 16 31 J ?_;refine G2 17 6 J ?_;refine P_ kr ?_ _;refine z_ ?_;have HR:=uh (⟨a3,Z.sub (Qm ..)⟩:Pl L W' B' cs' /\ Gm w1 w3 sb tb rb lao lcap L W' B' W' X);clear r a2 J U Z a0 a3 a1 Hs Hr
 go_wp2_with fail
 go_ret;exact⟨rfl,W',B',cs',HR.out.1,HR.out.2⟩
theorem AZ {w1:World}(w:World){sb tb rb lcap:Nat}{lao:Option Addr}{L:List Ty}{W B:List Nat}{X:List Blk}{cs:List Ce}(hb:PlBase w1 tb L lao lcap)(hP:Gm w1 w sb tb rb lao lcap L W B W X)(h:Pl L W B cs)(g G n:Int)(J:Nat)(y:Value)(_hsl:y.oneCell'=true):
  Calls prog 97 #[pt sb,pt rb,.agg #[iV 1,iV g,iV G,iV n,uV J,y]] w fun e w'=>e=.returned (.bool true) /\ ∃W' B' cs',Pl L W' B' cs' /\ Gm w1 w' sb tb rb lao lcap L W' B' W' X:=by
 have HP:=uh (hP.alloc (.cells #[iV 1,iV g,iV G,iV n,uV J,y] 154) rfl);have Hs:=uh (fun w' (V:Gm w1 w' sb tb rb lao lcap L W B W ((w.heap.size,.cells #[iV 1,iV g,iV G,iV n,uV J,y] 154)::X))=>Aj w' hb V h g);have Hr:=uh (fun w' Ws Bs (V:Gm w1 w' sb tb rb lao lcap L Ws Bs W ((w.heap.size,.cells #[iV 1,iV g,iV G,iV n,uV J,y] 154)::X)) W' B' cs' er hr=>Aq (W':=W') (B':=B') (cs':=cs') w' hb h V g er hr);clear hb hP h
 go_enter func97,ntmps97
 have hz:=HP.out.x;have q0:=hz 0 _ rfl
 go_upto_region 5 with fail
 refine J1 (fun W'=>Gm w1 W'.drew sb tb rb lao lcap L W B W ((w.heap.size,.cells #[iV 1,iV g,iV G,iV n,uV J,y] 154)::X)) HP.out.drew fun W1 T1=>?_;have a1:=uh T1;have r:=T1.x;clear T1 HP hz q0;generalize w.heap.size=xb at*;refine F_ ?_;refine rG (S:=fun W'=>W'.rangeAt xb 0 [iV 1,iV g,iV G,iV n,uV J,y]) 10 ?_;refine G2 0 34 r ?_;refine G2 1 35 r ?_;refine Jt 2 36 r (fun w Z=>Z 1 _ rfl) ?_;refine G2 4 38 r ?_;refine G2 5 39 r ?_;refine Jt 6 40 r (fun w Z=>Z 1 _ rfl) ?_;refine G5 3 (fun K M=>?_)
 go_simp
 refine(Hs.out _ a1.out).mono ?_;rintro e w2 ⟨er,W',B',cs',rfl,a0,a3,N⟩;have a2:=N.x;refine M.out _ _ a2 fun _=>?_;clear M K;simp only[Gb,G7,G6];refine G5 7 (fun K M=>?_)
 go_simp
 refine(Hr.out _ _ _ N W' B' cs' er a0).mono ?_;rintro e w3 ⟨rfl,U⟩;have E:=U.x;refine M.out _ _ E fun _=>?_;clear M K;simp only[Gb,G7,G6];refine G2 8 42 E ?_;refine G2 9 6 E ?_;refine P_ kr ?_ _;refine z_ ?_;have HR:=uh (⟨a3,U.sub (Qm ..)⟩:Pl L W' B' cs' /\ Gm w1 w3 sb tb rb lao lcap L W' B' W' X);clear r a2 E N U a0 a3 a1 Hs Hr
 go_wp2_with fail
 go_ret;exact⟨rfl,W',B',cs',HR.out.1,HR.out.2⟩
theorem WW {w1:World}(w:World){sb tb rb lcap:Nat}{lao:Option Addr}{L:List Ty}{W B:List Nat}{X:List Blk}{cs:List Ce}(hb:PlBase w1 tb L lao lcap)(hP:Gm w1 w sb tb rb lao lcap L W B W X)(h:Pl L W B cs)(g M n:Int)(N:Nat)(ats:List Int)(a6:ats.length <= 65536)(G:Option Addr)(r:Nat)(hA:Src w1 G ats.length r 1 (M9 ats)):
  Calls prog 97 #[pt sb,pt rb,.agg #[iV 3,iV g,iV M,iV n,uV N,.slice G ats.length r]] w fun e w'=>e=.returned (.bool true) /\ ∃W' B' cs',Pl L W' B' cs' /\ Gm w1 w' sb tb rb lao lcap L W' B' W' X:=by
 have HP:=uh (hP.alloc (.cells #[iV 3,iV g,iV M,iV n,uV N,.slice G ats.length r] 154) rfl);have Hs:=uh (fun w' la (V:Gm w1 w' sb tb rb lao lcap L W B W (la++((w.heap.size,.cells #[iV 3,iV g,iV M,iV n,uV N,.slice G ats.length r] 154)::X))) a2 c2 hr=>VY w' hb V h ats a6 a2 c2 hr);have Hr:=uh (fun w' Ws Bs (V:Gm w1 w' sb tb rb lao lcap L Ws Bs W ((w.heap.size,.cells #[iV 3,iV g,iV M,iV n,uV N,.slice G ats.length r] 154)::X)) W' B' cs' er hr=>Wn (W':=W') (B':=B') (cs':=cs') w' hb h V ats a6 G r hA er hr);have HA:=uh (fun w' (hB:Below w1.heap.size w1 w')=>hA.below hB);have H1:=uh (CN ats);have ah:0+ats.length <= maxLen:=by unfold maxLen;omega
 have aj:(0+ats.length)*8 <= 140737488355328:=O;clear hb hP h hA
 go_enter func97,ntmps97
 have hz:=HP.out.x;have q0:=hz 0 _ rfl
 go_upto_region 17 with fail
 refine J1 (fun W'=>Gm w1 W'.drew sb tb rb lao lcap L W B W ((w.heap.size,.cells #[iV 3,iV g,iV M,iV n,uV N,.slice G ats.length r] 154)::X)) HP.out.drew fun W1 U=>?_;have a0:=uh U;have y:=U.x;clear U HP hz q0;generalize w.heap.size=xb at*;refine F_ ?_;refine rG (S:=fun W'=>W'.rangeAt xb 0 [iV 3,iV g,iV M,iV n,uV N,.slice G ats.length r]) 11 ?_;refine G2 0 105 y ?_;refine G2 1 106 y ?_;refine Jt 2 107 y (fun w a5=>a5 5 _ rfl) ?_;refine G2 5 110 y ?_;refine G2 6 111 y ?_;refine Jt 7 112 y (fun w a5=>a5 5 _ rfl) ?_;refine G5 3 (fun K J=>?_);obtain⟨ls,lr,af,ae,ag,U⟩:=a0.out;refine Sn rfl _ _ rfl L4 rfl rfl (Zb _ _) (R:=ls++(lr++((xb,.cells #[iV 3,iV g,iV M,iV n,uV N,.slice G ats.length r] 154)::X))) U.has (HA.out _ a0.out.below) H1.out ah aj ?_;intro a2 c2 la w2 E T2;rw[L_]at E T2;rw[Q_]at E ⊢
 have a1:Gm w1 w2 sb tb rb lao lcap L W B W (la++((xb,.cells #[iV 3,iV g,iV M,iV n,uV N,.slice G ats.length r] 154)::X)):=by
  refine⟨ls,lr,af,ae,fun x hx=>?_,(U.trans T2).perm po⟩;rcases s_.1 hx with hx|hx
  ·exact E.cells x hx
  ·exact ag x hx
 have a9:=(a1.sub (Zy ..)).x;refine J.out _ _ a9 fun _=>?_;clear J K U T2 af ae ag;simp only[Gb,G7,G6];refine G5 4 (fun K J=>?_)
 go_simp
 refine(Hs.out _ _ a1 a2 c2 E).mono ?_;rintro e w3 ⟨er,W',B',cs',rfl,a7,ac,a8⟩;have a3:=a8.sub (Zy ..);have ab:=a3.x;refine J.out _ _ ab fun _=>?_;clear J K;simp only[Gb,G7,G6];refine G5 8 (fun K J=>?_)
 go_simp
 refine(Hr.out _ _ _ a3 W' B' cs' er a7).mono ?_;rintro e w4 ⟨rfl,a4⟩;have Z:=a4.x;refine J.out _ _ Z fun _=>?_;clear J K;simp only[Gb,G7,G6];refine G2 9 114 Z ?_;refine G2 10 6 Z ?_;refine P_ kr ?_ _;refine z_ ?_;have HR:=uh (⟨ac,a4.sub (Qm ..)⟩:Pl L W' B' cs' /\ Gm w1 w4 sb tb rb lao lcap L W' B' W' X);clear y a9 ab Z a1 a8 a3 a4 a7 ac a0 Hs Hr HA H1 E
 go_wp2_with fail
 go_ret;exact⟨rfl,W',B',cs',HR.out.1,HR.out.2⟩
theorem W9 {w0:World}(w:World){rb lcap:Nat}{lao:Option Addr}{W:List Nat}{L:List Ty}{l R:List Blk}(hI:Ks rb lao L.length lcap W l)(T:Turn [] w0 (l++R) w)(hS:Src w0 lao L.length lcap 3 (tys L))(V:∀t∈L,TyIn t)(hL:L.length <= 1000)(hf:W.length <= 65536)
  (hu:∀v∈W,v<18446744073709551616)(cs:List Ce)(U:Chain L W 0 cs (W.length/2))(g:Int)(E:∀c∈cs,¬((c.1:Int)=g /\ c.2.tag=1)):
  Calls prog 154 #[pt rb,iV g] w fun e w'=>e=.returned (iV 0) /\ Turn [] w0 (l++R) w':=by
 obtain⟨a6,a3,hR⟩:=hI.at_ T.has (hS.below T.below);have Z:=uh (Bc w hR hf hu V hL cs U);have a0:=U.len;obtain⟨z,hz⟩:∃z:Nat,W.length/2=z:=⟨_,rfl⟩;have a9:z <= 32768:=O;rw[hz]at a0;have HT:=uh T;have a7:=uh (fun c (h:c∈cs)=>U.mem c h);clear T hS V hu U hR hI
 go_enter func154,ntmps154
 go_wp2_with fail
 refine Z.out.mono ?_;rintro e w2 ⟨a5,aa,a2,rfl,r,T4⟩;have J:=uh (HT.out.grow T4);have M:=uh r;clear T4 HT r
 go_wp2_with fail
 have HF:=uh (fun(h:0<cs.length)=>((M.out.src J.out.has).form (by rw[GW];omega)))
 go_loopw [6] (fun v6 wr=>∃i:Nat,i <= cs.length /\ v6=iV i /\ Turn [] w0 (a2++(l++R)) wr) (fun v6 _=>cs.length-(intOf v6).toNat)
 case atStart=>exact⟨0,u_ _,by go_num,J.out⟩
 case round=>
  clear J;obtain⟨i,hi,rfl,T⟩:=hrel
  by_cases a1:i<cs.length
  · have a4:(i:Int)<(cs.length:Int):=O
    obtain⟨c,hc⟩:∃c,cs[i]?= some c:=⟨cs[i],a_ a1⟩;have N:=E c (q_ hc);obtain⟨b,off,rfl,-⟩:=HF.out O;obtain⟨d0,d1,-⟩:=(M.out.src T.has).ce1 hc;obtain⟨cg,⟨xa,xb,xc,xd⟩⟩:=c;simp only at N d0 d1;have y:=uh T;clear T hc
    by_cases G:(cg:Int)=g
    · have k1:((cg:Int) == g)=true:=by rw[Qx];exact G
      have k2:((xa:Int) == 1)=false:=(by rw[j_];intro h;exact N ⟨G,by omega⟩);have k3:(xa == 1)=false:=(by rw[j_];intro h;exact N ⟨G,by omega⟩);clear G N E
      go_wp2_with fail
      go_roundw
      case rel=>exact⟨i+1,by omega,by go_num,y.out⟩
      case measure=>simp[intOf];omega
    · have k1:((cg:Int) == g)=false:=by rw[j_];exact G
      clear G N E
      go_wp2_with fail
      go_roundw
      case rel=>exact⟨i+1,by omega,by go_num,y.out⟩
      case measure=>simp[intOf];omega
  · have a8:¬(i:Int)<(cs.length:Int):=O
    have y:=uh T.drop;clear T E
    go_wp2_with fail
    go_ret;exact⟨rfl,y.out⟩
theorem BU {w1:World}(w:World){sb tb rb lcap:Nat}{lao:Option Addr}{L:List Ty}{W B r Bs:List Nat}{X:List Blk}{cs:List Ce}(E:PlBase w1 tb L lao lcap)(h:Pl L W B cs)(U:Gm w1 w sb tb rb lao lcap L r Bs W X)(g:Int)(G:∀c∈cs,¬((c.1:Int)=g /\ c.2.tag=1)):
  Calls prog 154 #[pt rb,iV g] w fun e w'=>e=.returned (iV (0:Nat)) /\ Gm w1 w' sb tb rb lao lcap L r Bs W X:=by
 have a1:=h.good.small;have a0:=h.good.few;obtain⟨M,J,Z,y,hX,T⟩:=U;have N:Turn [] w1 (J++(M++X)) w:=T.perm po;refine(W9 w y N E.src E.ty O O h.good.u64 cs h.good.chain g G).mono ?_;rintro e w' ⟨rfl,V⟩;exact⟨rfl,M,J,Z,y,hX,V.perm po⟩
theorem W8 {w1:World}(w:World){sb tb rb lcap:Nat}{lao:Option Addr}{L:List Ty}{W B r Bs:List Nat}{X:List Blk}{cs:List Ce}(E:PlBase w1 tb L lao lcap)(h:Pl L W B cs)(N:Gm w1 w sb tb rb lao lcap L r Bs W X)(c:Ce)(hc:c∈cs)(ht:c.2.tag=1):
  Calls prog 154 #[pt rb,iV c.1] w fun e w'=>e=.returned (iV ((tyAt L c.2.typ).slots c.2.len:Nat)) /\ Gm w1 w' sb tb rb lao lcap L r Bs W X:=by
 have a1:=h.good.small;have a0:=h.good.few;obtain⟨J,G,U,y,Z,T⟩:=N;have M:Turn [] w1 (G++(J++X)) w:=T.perm po;obtain⟨p,q,rfl⟩:=List.append_of_mem hc;refine(Pd w y M E.src E.ty O O h.good.u64 p q c h.good.chain ht).mono ?_;rintro e w' ⟨rfl,V⟩;exact⟨rfl,J,G,U,y,Z,V.perm po⟩
theorem WX {w1:World}(w:World){sb tb rb lcap:Nat}{lao:Option Addr}{L:List Ty}{W B:List Nat}{X:List Blk}(Z:Gm w1 w sb tb rb lao lcap L W B W X)(g E n:Int)(G:Nat)(y:Value)(_hsl:y.oneCell'=true)(U:Nat)(a1:n<0∨(U:Int) <= n)
  (V:Hid (∀w',Gm w1 w' sb tb rb lao lcap L W B W ((w.heap.size,.cells #[iV 2,iV g,iV E,iV n,uV G,y] 154)::X) -> Calls prog 154 #[pt rb,iV g] w' fun e w2=>e=.returned (iV U) /\
    Gm w1 w2 sb tb rb lao lcap L W B W ((w.heap.size,.cells #[iV 2,iV g,iV E,iV n,uV G,y] 154)::X))):
  Calls prog 97 #[pt sb,pt rb,.agg #[iV 2,iV g,iV E,iV n,uV G,y]] w fun e w'=>e=.returned (.bool true) /\ Gm w1 w' sb tb rb lao lcap L W B W X:=by
 have M:=uh (Z.alloc (.cells #[iV 2,iV g,iV E,iV n,uV G,y] 154) rfl);clear Z
 go_enter func97,ntmps97
 have N:=M.out.x;have q0:=N 0 _ rfl;have q1:=N 1 _ rfl
 go_wp2_with fail
 refine(V.out _ M.out).mono ?_;rintro e w2 ⟨rfl,r⟩;have J:=uh (r.sub (Qm ..));have q3:=r.x 3 _ rfl;clear N q0 q1 M V r
 by_cases hn:n<0
 · go_wp2_with fail
   go_ret;exact⟨rfl,J.out⟩
 · have a0:(U:Int) <= n:=O
   go_wp2_with fail
   go_ret;exact⟨rfl,J.out⟩
theorem Dh {w1:World}(w:World){sb tb rb lcap:Nat}{lao:Option Addr}{L:List Ty}{W B:List Nat}{X:List Blk}{cs:List Ce}(hb:PlBase w1 tb L lao lcap)(hP:Gm w1 w sb tb rb lao lcap L W B W X)(h:Pl L W B cs)(c:Ce)(hc:c∈cs)(ht:c.2.tag=1)(E:Int)(s:Nat)(hs:s<(tyAt L c.2.typ).slots c.2.len)(r:Nat)(y:Value)(_hsl:y.oneCell'=true):
  Calls prog 97 #[pt sb,pt rb,.agg #[iV 2,iV c.1,iV E,iV s,uV r,y]] w fun e w'=>e=.returned (.bool true) /\ Gm w1 w' sb tb rb lao lcap L (W.set (2*c.1+1+s) r) B (W.set (2*c.1+1+s) r) X:=by
 have aQ:=h.good.small;have aH:=h.good.few;obtain⟨aG,ay,a9⟩:=hb.tab;have a2:=(h.good.chain.mem c hc).2.2;have aj:=(h.good.chain.mem c hc).2.1;have au:=Lz a2 ht;have ah:=LW a2 ht hb.ty;have aF:=(LS a2 ht).1;have ac:2*c.1+1+s<W.length:=O;have HP:=uh (hP.alloc (.cells #[iV 2,iV c.1,iV E,iV s,uV r,y] 154) rfl);have Hs:=uh (fun w' (V:Gm w1 w' sb tb rb lao lcap L W B W ((w.heap.size,.cells #[iV 2,iV c.1,iV E,iV s,uV r,y] 154)::X))=>W8 w' hb h V c hc ht);have HO:=uh (fun w' (hB:Below w1.heap.size w1 w') aa a6 (hA:ArAt w' aa a6 W)=>QE w' (range_below hb.fields hB) hA h.good.u64 L hb.ty O tb aG ay (a9.below hB) (c.1:Int));rw[au]at HO;simp only at HO;have HV:=uh (fun w' aa a6 (n:Int) (Y:List Blk) (V:Turn [] w1 (G0 aa a6 W n++Y) w') U (hv:LN w' U aa c.1 c.2 (tyAt L c.2.typ))=>XK w' V O hv ah.2 ah.1 O s r hs ac);have aJ:=uh hs;have k1:¬(s:Int)<0:=O;have k2:¬(((tyAt L c.2.typ).slots c.2.len:Nat):Int) <= (s:Int):=O;have k3:decide ((((tyAt L c.2.typ).slots c.2.len:Nat):Int) <= (s:Int))=false:=b_ k2;have aL:c.1 <= 65536:=O;have aP:s <= 65536:=O;have aM:2*(c.1:Int)+1+(s:Int)<(W.length:Int):=O;have aN:(2*(c.1:Int)+1+(s:Int)).toNat=2*c.1+1+s:=O;have aB:0+W.length <= maxLen:=by unfold maxLen;omega
 have aE:(0+W.length)*8 <= 140737488355328:=O;have ax:=Mx W;have hf:W.length <= 65536:=O;clear a9 a2 aj au ah aF hb hP h hc
 go_enter func97,ntmps97
 have hz:=HP.out.x;have q0:=hz 0 _ rfl;have q1:=hz 1 _ rfl
 go_wp2_with fail
 refine(Hs.out _ HP.out).mono ?_;rintro e w2 ⟨rfl,a8⟩;have am:=uh a8.drew;have q3:=a8.x 3 _ rfl;generalize w.heap.size=M at*;clear hz q0 q1 HP Hs a8
 go_upto_region 10 with fail
 refine J1 (fun W'=>Gm w1 W'.drew sb tb rb lao lcap L W B W ((M,.cells #[iV 2,iV c.1,iV E,iV s,uV r,y] 154)::X)) am.out fun W1 T1=>?_;obtain⟨ls,lr,⟨a,N,bb,cw,lb,ab,rfl⟩,hR,hX,T⟩:=T1;have HT:=uh T;have av:=uh ab;have HX:=uh hX;have HR:=uh hR;clear T ab hX hR am q3
 have HS:=uh (fun w' Y (V:Turn [] w1 ((G0 a N W cw++(G1 sb a tb bb::lb))++(Y++((M,.cells #[iV 2,iV c.1,iV E,iV s,uV r,y] 154)::X))) w')=>
  (⟨V.has.cell (b:=sb) (c:=#[pt a,pt tb,pt bb]) (e:=129) (f:=(0,0)) (by simp[G1]) 0,
    V.has.cell (b:=sb) (c:=#[pt a,pt tb,pt bb]) (e:=129) (f:=(0,0)) (by simp[G1]) 1,
    V.has.range (b:=M) (c:=#[iV 2,iV c.1,iV E,iV s,uV r,y]) (e:=154) (f:=(0,0)) (by simp)⟩:(fun W'=>W'.cell? (aD sb 0)=some (pt a) /\ W'.cell? (aD sb 1)=some (pt tb) /\ W'.rangeAt M 0 [iV 2,iV c.1,iV E,iV s,uV r,y]) w'))
 have G:=HS.out _ _ HT.out
 have ap:ArAt W1.drew a N W:=by
  have h:=HT.out.has;rw[Qq]at h;exact JQ h hf
 have ak:=uh (HO.out _ HT.out.below a N ap);clear ap HO;refine F_ ?_;refine rG (S:=fun W'=>W'.cell? (aD sb 0)=some (pt a) /\ W'.cell? (aD sb 1)=some (pt tb) /\ W'.rangeAt M 0 [iV 2,iV c.1,iV E,iV s,uV r,y]) 12 ?_;refine G2 0 59 G ?_;refine G2 2 61 G ?_;refine G2 4 63 G ?_;refine Jt 5 64 G (fun w aC=>aC.2.2 1 _ rfl) ?_;refine G5 1 (fun K hK=>?_)
 go_simp
 refine(NW _ (a:=(aD a 0)) rfl G.1).mono ?_;rintro e w3 ⟨rfl,hw⟩;subst hw;refine hK.out _ _ G fun _=>?_;clear hK K;simp only[Gb,G7,G6];refine G5 3 (fun K hK=>?_)
 go_simp
 refine(XQ _ (a:=(aD tb 0)) rfl G.2.1).mono ?_;rintro e w3 ⟨rfl,hw⟩;subst hw;refine hK.out _ _ G fun _=>?_;clear hK K;simp only[Gb,G7,G6];refine G5 6 (fun K hK=>?_)
 go_simp
 refine ak.out.mono ?_;rintro e w4 ⟨U,rfl,T2⟩;have T4:=(HT.out.grow T2).perm (l2:=(G0 a N W cw++(G1 sb a tb bb::lb))++(((U,.cells (G4 a c.1 c.2 (tyAt L c.2.typ)).toArray 179)::lr)++((M,.cells #[iV 2,iV c.1,iV E,iV s,uV r,y] 154)::X))) po;have J:=HS.out _ _ T4;have a3:=uh T4;clear T2 T4 G ak HT;refine hK.out _ _ J fun _=>?_;clear hK K;simp only[Gb,G7,G6];refine G2 7 58 J ?_;refine G2 8 66 J ?_;refine G2 9 67 J ?_;refine G2 10 8 J ?_;refine G2 11 9 J ?_;refine P_ kr ?_ _;refine z_ ?_;have hv:LN w4 U a c.1 c.2 (tyAt L c.2.typ):=a3.out.has.range (b:=U) (c:=(G4 a c.1 c.2 (tyAt L c.2.typ)).toArray) (e:=179) (f:=(0,0)) (by simp);have q3:=J.2.2 3 _ rfl;have q4:=J.2.2 4 _ rfl;have an:=uh (HV.out w4 a N cw ((G1 sb a tb bb::lb)++(((U,.cells (G4 a c.1 c.2 (tyAt L c.2.typ)).toArray 179)::lr)++((M,.cells #[iV 2,iV c.1,iV E,iV s,uV r,y] 154)::X))) (by have h:=a3.out;rw[Qq]at h;exact h) U hv);clear hv J HV HS;obtain⟨ao,cap,lr,af,rfl⟩:=HR.out;have a5:=uh af;clear af HR
 go_wp2_with (first
  | (go_at_call 27;refine an.out.mono ?_;rintro e w5 ⟨rfl,Z,T5⟩;have T6:=T5.perm (l2:=(rb,rN ao W cap lao L.length lcap)::lr++(G0 a N (W.set (2*c.1+1+s) r) Z++((G1 sb a tb bb::lb)++((M,.cells #[iV 2,iV c.1,iV E,iV s,uV r,y] 154)::(U,.cells (G4 a c.1 c.2 (tyAt L c.2.typ)).toArray 179)::X)))) po;have c0:=T6.cell1 0;have T7:=T6.perm (l2:=lr++((rb,rN ao W cap lao L.length lcap)::(G0 a N (W.set (2*c.1+1+s) r) Z++((G1 sb a tb bb::lb)++((M,.cells #[iV 2,iV c.1,iV E,iV s,uV r,y] 154)::(U,.cells (G4 a c.1 c.2 (tyAt L c.2.typ)).toArray 179)::X))))) po;have ag:=a5.out.src T7.has;have a4:=uh T7;clear T5 T6 T7 an a3 q3 q4)
  | (at_builtin;refine Qv rfl _ _ rfl GF rfl rfl (Zb _ _) (R:=(rb,rN ao W cap lao L.length lcap)::(lr++(G0 a N (W.set (2*c.1+1+s) r) Z++((G1 sb a tb bb::lb)++((M,.cells #[iV 2,iV c.1,iV E,iV s,uV r,y] 154)::(U,.cells (G4 a c.1 c.2 (tyAt L c.2.typ)).toArray 179)::X))))) (a4.out.has.perm po) ag ax aB aE ?_;intro aK a0 aR w6 a1 aq;rw[Q_,L_]at a1;obtain⟨gb,a7,rfl,rfl,-,-⟩:=a1.some_of O;have V1:=((a4.out.perm po).trans aq).perm (l2:=(gb,.cells a7 36)::(rb,rN ao W cap lao L.length lcap)::(lr++(G0 a N (W.set (2*c.1+1+s) r) Z++((G1 sb a tb bb::lb)++((M,.cells #[iV 2,iV c.1,iV E,iV s,uV r,y] 154)::(U,.cells (G4 a c.1 c.2 (tyAt L c.2.typ)).toArray 179)::X))))) po;have c1:w6.cell? (aD gb (2*c.1+1+s))=some (uV (W[2*c.1+1+s])):=(a1.cell (R:=(rb,rN ao W cap lao L.length lcap)::(lr++(G0 a N (W.set (2*c.1+1+s) r) Z++((G1 sb a tb bb::lb)++((M,.cells #[iV 2,iV c.1,iV E,iV s,uV r,y] 154)::(U,.cells (G4 a c.1 c.2 (tyAt L c.2.typ)).toArray 179)::X))))) V1.has (2*c.1+1+s) (by rw[Xs];exact ac)).trans (JG (a_ ac));have f1:=V1.free1 (2*c.1+1+s);have e9:=V1.has.range (b:=M) (c:=#[iV 2,iV c.1,iV E,iV s,uV r,y]) (e:=154) (f:=(0,0)) (by simp);have e1:=e9 1 _ rfl;have e3:=e9 3 _ rfl;have e4:=e9 4 _ rfl;have V3:=V1.setCell (2*c.1+1+s) (uV r);have c3:(w6.setCell (aD gb (2*c.1+1+s)) (uV r)).cell? (aD rb 0)=some (.slice ao W.length cap):=V3.cell2 0;have f3:=V3.free2 0;have V4:=V3.swap.setCell 0 (.slice (some (aD gb 0)) W.length a0);have az:=uh V4;have ae:=a1.set (2*c.1+1+s) (uV r);rw[Ls]at ae;have aA:=uh ae;clear V1 V3 V4 aq a1 ae ag e9 a4 a5 c0)
  | fail)
 go_ret;refine⟨rfl,G0 a N (W.set (2*c.1+1+s) r) Z++(G1 sb a tb bb::lb),(rb,.cells #[.slice (some (aD gb 0)) (W.set (2*c.1+1+s) r).length a0,.slice lao L.length lcap] 62)::[(gb,.cells (a7.setIfInBounds (2*c.1+1+s) (uV r)) 36)],⟨a,N,bb,Z,lb,?_,rfl⟩,⟨some (aD gb 0),a0,_,?_,rfl⟩,fun x hx=>HX.out x (V_ _ hx),?_⟩
 ·rw[Qn];exact av.out
 · have h:=aA.out
   rw[Qn];exact h
 · rw[Qn]
   exact((az.out.perm (l2:=lr++((M,.cells #[iV 2,iV c.1,iV E,iV s,uV r,y] 154)::(U,.cells (G4 a c.1 c.2 (tyAt L c.2.typ)).toArray 179)::((G0 a N (W.set (2*c.1+1+s) r) Z++(G1 sb a tb bb::lb))++((rb,.cells #[.slice (some (aD gb 0)) W.length a0,.slice lao L.length lcap] 62)::[(gb,.cells (a7.setIfInBounds (2*c.1+1+s) (uV r)) 36)]++X)))) po).drop).tail.tail
theorem Vs (n:Int):bits .and .i64 n 65535=n%65536:=by
 have r:(BitVec.ofInt 64 65535).toNat=2^16-1:=by decide
 have key:(BitVec.ofInt 64 n &&& BitVec.ofInt 64 65535).toNat=(n%((2^64:Nat):Int)).toNat%2^16:=by
  rw[BitVec.toNat_and,BitVec.toNat_ofInt,r,Nat.and_two_pow_sub_one_eq_mod]
 show IntKind.i64.wrap ((BitVec.ofInt 64 n &&& BitVec.ofInt 64 65535).toNat:Nat)=n%65536
 rw[key,IntKind.wrap_i64];omega
structure Picks (n:Int)(k q p:Nat):Prop where
 and_:bits .and .i64 n 65535=(q:Int)
 low:q <= 65535
 rem:((q:Int)).tmod (k:Int)=(p:Int)
 rem2:((q:Int))%(k:Int)=(p:Int)
 lt:p<k
theorem Cm (n:Int){k:Nat}(r:0<k):∃q p,Picks n k q p:=by
 refine⟨(n%65536).toNat,(n%65536).toNat%k,?_,by omega,Mz _ _,by rw[Int.natCast_emod],Nat.mod_lt _ r⟩;rw[Vs];omega
def ats (cs:List Ce):List Nat:=(objs cs).map (·.1)
theorem Np {cs:List Ce}{i:Nat}{c:Ce}(h:cs[i]?= some c):ats (cs.take (i+1))=ats (cs.take i)++if c.2.tag=1 then [c.1]else []:=by
 rw[K8 h];unfold ats;rw[GM,Za]
 congr 1
 unfold objs
 by_cases r:c.2.tag=1
 · rw[v_ r,Xh (by rw[J2];exact r)]
   rfl
 · rw[y_ r,Xj (by rw[J2];exact r)]
   rfl
theorem YY (cs:List Ce)(i:Nat):(ats (cs.take i)).length <= i:=by
 unfold ats objs;rw[n_];refine Qf (Zm ..) ?_;rw[Qh];omega
theorem Du {cs:List Ce}{p:Nat}(h:p<(ats cs).length):∃c∈cs,c.2.tag=1 /\ (ats cs)[p]?= some c.1:=by
 unfold ats at h ⊢;rw[n_]at h;refine⟨(objs cs)[p],(Kn (List.getElem_mem h)).1,(Kn (List.getElem_mem h)).2,?_⟩;rw[G_,a_ h]
 rfl
theorem Gm.turn {w1 w w':World}{sb tb rb lcap:Nat}{lao:Option Addr}{L:List Ty}{W B Wr:List Nat}{Y y X:List Blk}(h:Gm w1 w sb tb rb lao lcap L W B Wr (Y++X))(M:Turn Y w y w')(U:∀x∈y,x.2.isCells=true):Gm w1 w' sb tb rb lao lcap L W B Wr (y++X):=by
 obtain⟨J,G,h1,h2,N,T⟩:=h;refine⟨J,G,h1,h2,?_,?_⟩
 · intro x r
   rcases s_.1 r with r|r
   ·exact U x r
   ·exact N x (Qt _ r)
 · have E:=T.perm (l2:=Y++(J++(G++X))) po
   exact(E.trans (M.more E.has)).perm po
theorem Z1 {w1:World}(w:World){sb tb rb lcap:Nat}{lao:Option Addr}{L:List Ty}{W B J Bs:List Nat}{X:List Blk}{cs:List Ce}(U:PlBase w1 tb L lao lcap)(h:Pl L W B cs)(M:Gm w1 w sb tb rb lao lcap L J Bs W X):
  Calls prog 35 #[pt rb] w fun e w'=>∃y r l,e=.returned (.slice y cs.length r) /\ Gh 127 5 y cs.length r (ces cs) l /\ Gm w1 w' sb tb rb lao lcap L J Bs W (l++X):=by
 have a1:=h.good.small;have a0:=h.good.few;have N:=M;obtain⟨ls,lr,hS,hR,hX,T⟩:=N;have G:Turn [] w1 (lr++(ls++X)) w:=T.perm po;obtain⟨ao,cap,Z⟩:=hR.at_ G.has (U.src.below G.below);refine(Bc w Z O h.good.u64 U.ty O cs h.good.chain).mono ?_;rintro e w' ⟨y,r,l,rfl,E,V⟩;exact⟨y,r,l,rfl,E,M.grow V E.cells⟩
theorem Pc (w:World)(U:Fields w){a M tb:Nat}{W B:List Nat}{cs:List Ce}(N:ArAt w a M W){L:List Ty}(h:Pl L W B cs)(E:∀t∈L,TyIn t){y:Option Addr}{r:Nat}(V:TabAt w tb y r L)(c:Ce)(Z:c∈cs)(ht:c.2.tag=1):
  Calls prog 26 #[pt a,pt tb,iV c.1] w fun e w'=>∃J,e=.returned (.tuple #[pt J,iV 0]) /\ Turn [] w [(J,.cells (G4 a c.1 c.2 (tyAt L c.2.typ)).toArray 179)] w':=by
 have a0:=h.good.few;have G:=Lz (h.good.chain.mem c Z).2.2 ht;have h1:=QE w U N h.good.u64 L E O tb y r V (c.1:Int);rw[G]at h1;exact h1
theorem Pv (w:World){W B:List Nat}{cs:List Ce}{L:List Ty}(h:Pl L W B cs)(G:∀t∈L,TyIn t)(ao:Option Addr)(cap:Nat)(M:Src w ao W.length cap 1 (u64s W))(y:Option Addr)(r:Nat)(E:Src w y L.length r 3 (tys L))(c:Ce)(N:c∈cs)(V:c.2.tag=1):
  Calls prog 205 #[.slice ao W.length cap,.slice y L.length r,iV c.1] w fun e w'=>e=.returned (.tuple #[KM c.2,K7 (tyAt L c.2.typ),iV 0]) /\ Below w.heap.size w w':=by
 have Z:=h.good.small;have U:=h.good.few;have J:=Lz (h.good.chain.mem c N).2.2 V;have h1:=ja w ao cap M O h.good.u64 L G O y r E (c.1:Int);rw[J]at h1;exact h1
theorem Nv {l:List Nat}{i v:Nat}(h:l[i]?= some v):(J7 l)[i]?= some (iV v):=by unfold J7;rw[G_,h];rfl
theorem En {a b:List Nat}(h:a.length=b.length):a=b↔∀i,i<a.length -> a[i]?= b[i]? :=by
 constructor
 ·rintro rfl i _;rfl
 · intro y
   apply Xq 
   intro i
   by_cases r:i<a.length
   ·exact y i r
   ·rw[Qb O,Qb O]
structure JnAt (rb sb xb a tb:Nat)(ao:Option Addr)(wn cap:Nat)(lao:Option Addr)(ln lcap:Nat)(dk g id n:Int)(wv:Nat)(sl:Value)(a7:Option Addr)(p cg:Nat)(w:World):Prop where
 r0:w.cell? (aD rb 0)=some (.slice ao wn cap)
 r1:w.cell? (aD rb 1)=some (.slice lao ln lcap)
 s0:w.cell? (aD sb 0)=some (pt a)
 s1:w.cell? (aD sb 1)=some (pt tb)
 x:w.rangeAt xb 0 [iV dk,iV g,iV id,iV n,uV wv,sl]
 a:∃b7,a7=some (aD b7 0) /\ w.cell? (aD b7 p)=some (iV cg)
theorem YD {w0:World}(w:World){sb tb rb lcap:Nat}{lao:Option Addr}{L:List Ty}{W B:List Nat}{X:List Blk}{cs:List Ce}(hb:PlBase w0 tb L lao lcap)(hP:Gm w0 w sb tb rb lao lcap L W B W X)(h:Pl L W B cs)(dk g id n:Int)(wv:Nat)(sl:Value)(_hsl:sl.oneCell'=true)(M:(ats cs).length=0):
  Calls prog 157 #[pt sb,pt rb,.agg #[iV dk,iV g,iV id,iV n,uV wv,sl]] w fun e w'=>e=.returned (.bool true) /\ Gm w0 w' sb tb rb lao lcap L W B W X:=by
 have U:=uh (fun w' X' (V:Gm w0 w' sb tb rb lao lcap L W B W X')=>Z1 w' hb h V);have aj:=h.good.small;have aa:=h.good.chain.len;have an:cs.length <= 300:=O;have ab:=uh (YY cs);have ae:=uh (fun i c (hi:cs[i]?= some c)=>Np hi);have ac:=uh M;have HP:=uh (hP.alloc (.cells #[iV dk,iV g,iV id,iV n,uV wv,sl] 154) rfl);clear hb hP h M aj aa
 go_enter func157,ntmps157
 go_wp2_with fail
 refine(U.out _ _ HP.out).mono ?_;rintro e w2 ⟨am,au,a1,rfl,J,a5⟩;have a2:=uh a5;have Z:=uh J;generalize w.heap.size=xb at*;clear a5 J U HP
 go_wp2_with fail
 go_loopw [7,9] (fun v7 v9 wr=>∃(i:Nat) (a7:Option Addr) (p7:Nat) (y:List Blk),i <= cs.length /\ v9=iV i /\ v7=.slice a7 (ats (cs.take i)).length p7 /\ Gh 3 1 a7 (ats (cs.take i)).length p7 (J7 (ats (cs.take i))) y /\ Gm w0 wr sb tb rb lao lcap L W B W (y++(a1++((xb,.cells #[iV dk,iV g,iV id,iV n,uV wv,sl] 154)::X)))) (fun _ v9 _=>cs.length-(intOf v9).toNat)
 case atStart=>exact⟨0,none,0,[],u_ _,by go_num,rfl,Zb _ _,a2.out⟩
 case round=>
  clear a2;obtain⟨i,a7,p7,y,hi,rfl,rfl,N,V⟩:=hrel
  by_cases aq:i<cs.length
  · have ak:(i:Int)<(cs.length:Int):=O
    obtain⟨d,hd⟩:∃c,cs[i]?= some c:=⟨cs[i],a_ _⟩;have hH:Has wr (a1++(y++((xb,.cells #[iV dk,iV g,iV id,iV n,uV wv,sl] 154)::X))):=V.has.perm po;obtain⟨b,off,rfl,-⟩:=(Z.out.src hH).form (by rw[GW];omega);obtain⟨d0,d1,-⟩:=(Z.out.src hH).ce1 hd;have G:=ae.out i d hd;have ap:=ab.out i;have a3:=uh V;have a4:=uh N
    by_cases E:d.2.tag=1
    · rw[v_ E]at G
      have r:=uh G;have k1:((d.2.tag:Int) == 1)=true:=(by rw[Qx];omega);have k2:(d.2.tag == 1)=true:=(by rw[Qx];exact E);have ag:(ats (cs.take i)).length+1 <= maxLen:=(by unfold maxLen;omega);have ah:((ats (cs.take i)).length+1)*8 <= 140737488355328:=O;clear V N G hd E hH
      go_wp2_with (first
       | (at_builtin;have T3:=uh (a3.out.alloc (.cells #[iV d.1] 3) rfl);refine K_ rfl _ _ rfl L4 rfl a4.out (R:=[]) (by rw[p_];exact T3.out.has.sub ((x_ y _).cons _)) rfl (news:=[iV d.1]) rfl (Qy (A_ _ _)) (by simp[Value.oneCell']) ag ah ?_;intro a9 p9 l9 w4 a0 V4 M;have V5:=uh ((T3.out.sub (Qm ..)).turn (by rw[p_,p_]at V4;exact V4) a0.cells);have af:=uh a0;clear a0 V4 M)
       | fail)
      go_roundw
      case rel=>
       have a6:(ats (cs.take (i+1))).length=(ats (cs.take i)).length+1:=(by rw[r.out];simp);refine⟨i+1,a9,p9,l9,by omega,by go_num,by rw[a6],?_,V5.out⟩;rw[a6,r.out,GS];exact af.out
      case measure=>simp[intOf];omega
    · rw[y_ E,p_]at G
      have r:=uh G;have k1:((d.2.tag:Int) == 1)=false:=(by rw[j_];omega);have k2:(d.2.tag == 1)=false:=(by rw[j_];exact E);clear V N G hd E hH
      go_wp2_with fail
      go_roundw
      case rel=>exact⟨i+1,a7,p7,y,by omega,by go_num,by rw[r.out],by rw[r.out];exact a4.out,a3.out⟩
      case measure=>simp[intOf];omega
  · obtain rfl:i=cs.length:=O
    have a8:(ats (cs.take cs.length)).length=0:=(by rw[D_];exact ac.out);rw[a8];have HV:=uh (V.sub (Y:=X) (((Qm _ X).trans (Zy a1 _)).trans (Zy y _)));clear V N a8
    go_wp2_with fail
    go_ret;exact⟨rfl,HV.out⟩
theorem YC {w0:World}(w:World){sb tb rb lcap:Nat}{lao:Option Addr}{L:List Ty}{W B:List Nat}{X:List Blk}{cs:List Ce}(hb:PlBase w0 tb L lao lcap)(hP:Gm w0 w sb tb rb lao lcap L W B W X)(h:Pl L W B cs)(dk g id n:Int)(wv:Nat)(sl:Value)(_hsl:sl.oneCell'=true)
  (k q p v:Nat)(c:Ce)(hk:(ats cs).length=k)(hq:Picks g k q p)(hc:c∈cs)(ht:c.2.tag=1)(bg:(ats cs)[p]?= some c.1)(hv:id<0 /\ v=0∨0 <= id /\ ∃qi pi d,Picks id k qi pi /\ (ats cs)[pi]?= some d /\ d <= 65536 /\ v=1048576+2*d)
  (hs:((tyAt L c.2.typ).refs c.2.len).length=0∨∃qs ps s,Picks n ((tyAt L c.2.typ).refs c.2.len).length qs ps /\ ((tyAt L c.2.typ).refs c.2.len)[ps]?= some s /\ s<(tyAt L c.2.typ).slots c.2.len)(Qp:Ending -> World -> Prop)
  (HN:Hid (∀w',((tyAt L c.2.typ).refs c.2.len).length=0 -> Gm w0 w' sb tb rb lao lcap L W B W X -> Qp (.returned (.bool true)) w'))
  (HY:Hid (∀w' s,s<(tyAt L c.2.typ).slots c.2.len -> Gm w0 w' sb tb rb lao lcap L (W.set (2*c.1+1+s) v) B (W.set (2*c.1+1+s) v) X -> Qp (.returned (.bool true)) w')):
  Calls prog 157 #[pt sb,pt rb,.agg #[iV dk,iV g,iV id,iV n,uV wv,sl]] w Qp:=by
 have cG:=h.good.small;obtain⟨cL,cr,aQ⟩:=hb.tab;have aU:=(h.good.chain.mem c hc).2.2;have aB:=(h.good.chain.mem c hc).2.1;have ap:=LW aU ht hb.ty;have bs:=(LS aU ht).1;have aG:=uh (fun w' X' (V:Gm w0 w' sb tb rb lao lcap L W B W X')=>Z1 w' hb h V);have bD:=h.good.chain.len;have cy:cs.length <= 300:=O;have bM:=uh (YY cs);have bN:=uh (fun i c (hi:cs[i]?= some c)=>Np hi);have Hk:=uh hk;have cC:k <= 300:=by have:=YY cs cs.length;rw[D_]at this;omega
 have c6:=hq.lt;have HP:=uh (hP.alloc (.cells #[iV dk,iV g,iV id,iV n,uV wv,sl] 154) rfl);have HO:=uh (fun w' (hB:Below w0.heap.size w0 w') aa aL (hA:ArAt w' aa aL W)=>Pc w' (range_below hb.fields hB) hA h hb.ty (aQ.below hB) c hc ht);have aE:=uh (fun w' (hB:Below w0.heap.size w0 w') ao cap (hS:Src w' ao W.length cap 1 (u64s W))=>Pv w' h hb.ty ao cap hS lao lcap (hb.src.below hB) c hc ht);have HV:=uh (fun s (hs:s<(tyAt L c.2.typ).slots c.2.len) w' aa aL (n:Int) (Y:List Blk) (V:Turn [] w0 (G0 aa aL W n++Y) w') vb (hv:LN w' vb aa c.1 c.2 (tyAt L c.2.typ))=>XK w' V O hv ap.2 ap.1 O s v hs O);have aF:=uh (fun w'=>Fv w' (tyAt L c.2.typ) ap.2 c.2.len ap.1)
 have c8:((tyAt L c.2.typ).refs c.2.len).length <= 65536:=by
  have h1:=JV (tyAt L c.2.typ) ((tyAt L c.2.typ).slots c.2.len);have h2:(tyAt L c.2.typ).refs c.2.len=KJ (tyAt L c.2.typ) ((tyAt L c.2.typ).slots c.2.len):=rfl;rw[h2];omega
 have b6:=uh bg;have Hq:=uh hq;have bF:=Gr;have aV:=JZ;have bY:c.1 <= 65536:=O;have aN:0+W.length <= maxLen:=by unfold maxLen;omega
 have bV:(0+W.length)*8 <= 140737488355328:=O;have bE:=Mx W;have hf:W.length <= 65536:=O;have b9:=uh (show ∀s,s<(tyAt L c.2.typ).slots c.2.len -> s <= 65536 /\ 2*c.1+1+s<W.length from fun s hs=>by omega);generalize tyAt L c.2.typ=t at*;obtain⟨tk,tw,tm⟩:=t;obtain⟨E,⟨ca,cb,cc,cd⟩⟩:=c;simp only at ht bY HO aE HV aF c8 b9 HN HY hs bs aB b6;subst ht;have bn:=GP ⟨1,cb,cc,cd⟩;have bp:=KH ⟨tk,tw,tm⟩;simp only at bn bp;generalize c9:Ty.slots ⟨tk,tw,tm⟩ cc=sv at*;generalize c7:Ty.refs ⟨tk,tw,tm⟩ cc=rs at*;have Hs:=uh hs;have Hv:=uh hv;clear hb hP h aQ aU ap hc hk hq bg bD hs hv bs aB c7 c9
 go_enter func157,ntmps157
 go_wp2_with fail
 refine(aG.out _ _ HP.out).mono ?_;rintro e w2 ⟨ct,cJ,a3,rfl,an,bd⟩;have aZ:=uh bd;have au:=uh an;generalize w.heap.size=xb at*;clear bd an aG HP
 go_wp2_with fail
 go_loopw [7,9] (fun v7 v9 wr=>∃(i:Nat) (a7:Option Addr) (p7:Nat) (a0:List Blk),i <= cs.length /\ v9=iV i /\ v7=.slice a7 (ats (cs.take i)).length p7 /\ Gh 3 1 a7 (ats (cs.take i)).length p7 (J7 (ats (cs.take i))) a0 /\ Gm w0 wr sb tb rb lao lcap L W B W (a0++(a3++((xb,.cells #[iV dk,iV g,iV id,iV n,uV wv,sl] 154)::X)))) (fun _ v9 _=>cs.length-(intOf v9).toNat)
 case atStart=>exact⟨0,none,0,[],u_ _,by go_num,rfl,Zb _ _,aZ.out⟩
 case round=>
  clear aZ;obtain⟨i,a7,p7,a0,hi,rfl,rfl,a5,V⟩:=hrel
  by_cases bZ:i<cs.length
  · have cq:(i:Int)<(cs.length:Int):=O
    obtain⟨d,hd⟩:∃c,cs[i]?= some c:=⟨cs[i],a_ _⟩;have hH:Has wr (a3++(a0++((xb,.cells #[iV dk,iV g,iV id,iV n,uV wv,sl] 154)::X))):=V.has.perm po;obtain⟨b,off,rfl,-⟩:=(au.out.src hH).form (by rw[GW];omega);obtain⟨d0,d1,-⟩:=(au.out.src hH).ce1 hd;have ac:=bN.out i d hd;have cE:=bM.out i;have b5:=uh V;have b8:=uh a5
    by_cases ab:d.2.tag=1
    · rw[v_ ab]at ac
      have a6:=uh ac;have k1:((d.2.tag:Int) == 1)=true:=(by rw[Qx];omega);have k2:(d.2.tag == 1)=true:=(by rw[Qx];exact ab);have aN:(ats (cs.take i)).length+1 <= maxLen:=(by unfold maxLen;omega);have bT:((ats (cs.take i)).length+1)*8 <= 140737488355328:=O;clear V a5 ac hd ab hH
      go_wp2_with (first
       | (at_builtin;have Z:=uh (b5.out.alloc (.cells #[iV d.1] 3) rfl);refine K_ rfl _ _ rfl L4 rfl b8.out (R:=[]) (by rw[p_];exact Z.out.has.sub ((x_ a0 _).cons _)) rfl (news:=[iV d.1]) rfl (Qy (A_ _ _)) (by simp[Value.oneCell']) aN bT ?_;intro a9 p9 l9 w4 aS V4 c2;have V5:=uh ((Z.out.sub (Qm ..)).turn (by rw[p_,p_]at V4;exact V4) aS.cells);have bQ:=uh aS;clear aS V4 c2)
       | fail)
      go_roundw
      case rel=>
       have bm:(ats (cs.take (i+1))).length=(ats (cs.take i)).length+1:=(by rw[a6.out];simp);refine⟨i+1,a9,p9,l9,by omega,by go_num,by rw[bm],?_,V5.out⟩;rw[bm,a6.out,GS];exact bQ.out
      case measure=>simp[intOf];omega
    · rw[y_ ab,p_]at ac
      have a6:=uh ac;have k1:((d.2.tag:Int) == 1)=false:=(by rw[j_];omega);have k2:(d.2.tag == 1)=false:=(by rw[j_];exact ab);clear V a5 ac hd ab hH
      go_wp2_with fail
      go_roundw
      case rel=>exact⟨i+1,a7,p7,a0,by omega,by go_num,by rw[a6.out],by rw[a6.out];exact b8.out,b5.out⟩
      case measure=>simp[intOf];omega
  · obtain rfl:i=cs.length:=O
    rw[D_]at a5 ⊢;rw[Hk.out]at a5 ⊢;obtain⟨b7,cm,rfl,bC,-,-⟩:=a5.some_of O;obtain⟨ls,lr,⟨a,aw,bb,cw,lb,av,rfl⟩,hR,hX,T⟩:=V;obtain⟨ao,cap,lr,ah,rfl⟩:=hR;have aH:=uh (fun w' (R:List Blk) (V:Has w' (a0++R)) p' d (hp:p'<k) (hd:(ats cs)[p']?= some d)=>(a5.cell V p' O).trans (Nv hd));obtain⟨M,hM⟩:∃M,M=(G0 a aw W cw++(G1 sb a tb bb::lb))++(((rb,rN ao W cap lao L.length lcap)::lr)++(a0++(a3++((xb,.cells #[iV dk,iV g,iV id,iV n,uV wv,sl] 154)::X)))):=⟨_,rfl⟩;rw[←hM]at T;have HM:=uh hM;have HT:=uh T;have bv:=uh av;have bL:=uh hX;have bA:=uh ah
    have y:=uh (fun w' (Y:List Blk) (V:Turn [] w0 (Y++M) w')=>by
     rw[hM]at V;have hm:w'.cell? (aD b7 p)=some (iV E):=aH.out w' (Y++((G0 a aw W cw++(G1 sb a tb bb::lb))++(((rb,rN ao W cap lao L.length lcap)::lr)++(a3++((xb,.cells #[iV dk,iV g,iV id,iV n,uV wv,sl] 154)::X))))) (V.has.perm po) p E c6 b6.out
     exact(⟨V.has.cell (b:=rb) (c:=#[.slice ao W.length cap,.slice lao L.length lcap]) (e:=62) (f:=(0,0)) (by simp) 0,
      V.has.cell (b:=rb) (c:=#[.slice ao W.length cap,.slice lao L.length lcap]) (e:=62) (f:=(0,0)) (by simp) 1,
      V.has.cell (b:=sb) (c:=#[pt a,pt tb,pt bb]) (e:=129) (f:=(0,0)) (by simp[G1]) 0,
      V.has.cell (b:=sb) (c:=#[pt a,pt tb,pt bb]) (e:=129) (f:=(0,0)) (by simp[G1]) 1,
      V.has.range (b:=xb) (c:=#[iV dk,iV g,iV id,iV n,uV wv,sl]) (e:=154) (f:=(0,0)) (by simp),⟨b7,rfl,hm⟩⟩:JnAt rb sb xb a tb ao W.length cap lao L.length lcap dk g id n wv sl (some (aD b7 0)) p E w'))
    have ak:=uh (fun w' (Y:List Blk) (V:Turn [] w0 (Y++M) w')=>aE.out w' V.below ao cap (by
     rw[hM]at V;exact ah.src (R:=Y++((G0 a aw W cw++(G1 sb a tb bb::lb))++((rb,rN ao W cap lao L.length lcap)::(a0++(a3++((xb,.cells #[iV dk,iV g,iV id,iV n,uV wv,sl] 154)::X)))))) (V.has.perm po)))
    have bz:=uh (fun w' (Y:List Blk) (V:Turn [] w0 (Y++M) w') p' d (hp:p'<k) (hd:(ats cs)[p']?= some d)=>by
     rw[hM]at V;exact(aH.out w' (Y++((G0 a aw W cw++(G1 sb a tb bb::lb))++(((rb,rN ao W cap lao L.length lcap)::lr)++(a3++((xb,.cells #[iV dk,iV g,iV id,iV n,uV wv,sl] 154)::X))))) (V.has.perm po) p' d hp hd:w'.cell? (aD b7 p')=some (iV d)))
    have bH:=uh (fun w' (Y:List Blk) (V:Turn [] w0 (Y++M) w')=>by
     rw[hM]at V;exact(⟨(G0 a aw W cw++(G1 sb a tb bb::lb)),((rb,rN ao W cap lao L.length lcap)::lr),⟨a,aw,bb,cw,lb,av,rfl⟩,⟨ao,cap,lr,ah,rfl⟩,fun x hx=>hX x (Qt _ (Qt _ (V_ _ hx))),(V.perm (l2:=(Y++(a0++(a3++[(xb,.cells #[iV dk,iV g,iV id,iV n,uV wv,sl] 154)])))++((G0 a aw W cw++(G1 sb a tb bb::lb))++(((rb,rN ao W cap lao L.length lcap)::lr)++X))) po).drop⟩:Gm w0 w' sb tb rb lao lcap L W B W X))
    have hS:=y.out wr [] HT.out;have q1:=hS.x 1 _ rfl;have q2:=hS.x 2 _ rfl;obtain⟨cx,bU,q7⟩:=hS.a
    cases bU
    have i1:=Hq.out.and_;have i2:=Hq.out.low;have i3:=Hq.out.rem;have i4:=Hq.out.rem2;have cD:((k:Int) == 0)=false:=(by rw[j_];omega);have cp:(k == 0)=false:=(by rw[j_];omega);have cB:¬(k:Int)=0:=O;have cn:0<(k:Int):=O;clear a5 bC ah hX av T hM au aE hS aH
    go_upto_if 58 with fail
    clear i1 i2 i3 i4 q1 q2 q7
    go_cut [11] (fun cj wc=>cj=uV v /\ wc=wr)
    case first=>
     rcases Hv.out with⟨bk,aC⟩|⟨bk,qi,pi,d,a8,hd,bX,aC⟩
     · have bB:decide (0 <= id)=false:=b_ O
       have q2:=(y.out wr [] HT.out).x 2 _ rfl
       go_wp2_with fail
       go_meet
       exact⟨by rw[aC];rfl,rfl⟩
     · have bB:decide (0 <= id)=true:=k_ bk
       have q2:=(y.out wr [] HT.out).x 2 _ rfl;have q7:=bz.out wr [] HT.out pi d a8.lt hd;have i1:=a8.and_;have i2:=a8.low;have i3:=a8.rem;have i4:=a8.rem2;have i5:=a8.lt;have bG:=uh (Dx wr d bX);have bJ:=uh aC;clear aC hd a8
       go_wp2_with (first
        | (go_at_call 99;refine bG.out.mono ?_;rintro e w' ⟨rfl,hw⟩;subst hw)
        | fail)
       go_meet
       exact⟨by rw[bJ.out];first|rfl|go_num|(congr 1;omega),rfl⟩
    obtain⟨rfl,hw⟩:=hcut;subst hw;have bK:Hid (Turn [] w0 ([]++M) _):=uh HT.out.drew;have b1:Hid (Turn [] w0 M wc.drew):=uh HT.out.drew
    go_upto_region 14 with fail
    refine J1 (fun W'=>Turn [] w0 M W'.drew) b1.out fun W1 U=>?_;have b0:Hid (Turn [] w0 M W1.drew):=uh U;clear U b1 HT bK
    apply SK (I:=fun bh bt w=>Turn [] w0 ((bh,.cells #[yV 1,iV cb,iV cc,iV cd] 125)::(bt,.cells #[yV tk,iV tw,uV tm] 79)::(M)) w)
    case h=>
     have J:=y.out _ [] b0.out;refine F_ ?_;refine rG (S:=fun W'=>JnAt rb sb xb a tb ao W.length cap lao L.length lcap dk g id n wv sl (some (aD b7 0)) p E W') 19 ?_;refine G2 0 70 J ?_;refine G2 1 71 J ?_;refine G2 2 72 J ?_;refine Jt 3 73 J (fun w aP=>aP.r0) ?_;refine G2 4 74 J ?_;refine G2 5 75 J ?_;refine G2 6 76 J ?_;refine Jt 7 77 J (fun w aP=>aP.r1) ?_;refine G2 8 78 J ?_;have T0:Turn [] w0 ([]++(M)) W1.drew:=b0.out;clear J;generalize W1.drew=V0 at T0 ⊢;have bx:=uh T0;clear T0
     apply RA (I:=fun bh bt V=>Turn [] w0 ((bh,zH)::(bt,zT)::(M)) V)
     case h1=>
      intro hG;have T0:=bx.out;refine Zf (rs:=[9,14,15]) kr (by simp) (H_ rfl (fun K r=>?_) (H_ rfl (fun K r=>?_) (H_ rfl (fun K r=>?_) Zd)))
      · go_simp
        refine(ak.out _ [] T0).mono ?_;rintro e V1 ⟨rfl,hB⟩;have U:=T0.call hB;refine r.out _ _ (y.out _ [] U) fun _=>?_;clear r K hB T0;simp only[Gb,G7,G6];have J:=y.out _ [] U;refine G2 10 69 J ?_;refine G2 11 80 J ?_;refine G2 12 81 J ?_;refine G2 13 82 J ?_;clear J;refine Zf (rs:=[14,15]) kr (by simp) (H_ rfl (fun K r=>?_) (H_ rfl (fun K r=>?_) Zd))
        · go_simp
          have G:=U.alloc zH;refine r.out _ _ (y.out _ [_] G) fun _=>?_;clear r K U;simp only[Gb,G7,G6];generalize V1.alloc _=V2 at*;generalize V1.heap.size=bh at*;refine G5 15 (fun K r=>?_)
          · go_simp
            have Z:=G.alloc zT;refine r.out _ _ (y.out _ [_,_] Z) fun _=>?_;clear r K G;simp only[Gb,G7,G6];generalize V2.alloc _=V3 at*;generalize V2.heap.size=bt at*;exact hG.out bh bt V3 (Z.perm po)
        · go_simp
          have G:=U.alloc zT;refine r.out _ _ (y.out _ [_] G) fun _=>?_;clear r K U;simp only[Gb,G7,G6];generalize V1.alloc _=V2 at*;generalize V1.heap.size=bt at*;refine G5 14 (fun K r=>?_)
          · go_simp
            have Z:=G.alloc zH;refine r.out _ _ (y.out _ [_,_] Z) fun _=>?_;clear r K G;simp only[Gb,G7,G6];generalize V2.alloc _=V3 at*;generalize V2.heap.size=bh at*;exact hG.out bh bt V3 (Z.perm po)
      · go_simp
        have U:=T0.alloc zH;refine r.out _ _ (y.out _ [_] U) fun _=>?_;clear r K T0;simp only[Gb,G7,G6];generalize V0.alloc _=V1 at*;generalize V0.heap.size=bh at*;refine Zf (rs:=[9,15]) kr (by simp) (H_ rfl (fun K r=>?_) (H_ rfl (fun K r=>?_) Zd))
        · go_simp
          refine(ak.out _ [_] U).mono ?_;rintro e V2 ⟨rfl,hB⟩;have G:=U.call hB;refine r.out _ _ (y.out _ [_] G) fun _=>?_;clear r K hB U;simp only[Gb,G7,G6];have a1:=y.out _ [_] G;refine G2 10 69 a1 ?_;refine G2 11 80 a1 ?_;refine G2 12 81 a1 ?_;refine G2 13 82 a1 ?_;clear a1;refine G5 15 (fun K r=>?_)
          · go_simp
            have Z:=G.alloc zT;refine r.out _ _ (y.out _ [_,_] Z) fun _=>?_;clear r K G;simp only[Gb,G7,G6];generalize V2.alloc _=V3 at*;generalize V2.heap.size=bt at*;exact hG.out bh bt V3 (Z.perm po)
        · go_simp
          have G:=U.alloc zT;refine r.out _ _ (y.out _ [_,_] G) fun _=>?_;clear r K U;simp only[Gb,G7,G6];generalize V1.alloc _=V2 at*;generalize V1.heap.size=bt at*;refine G5 9 (fun K r=>?_)
          · go_simp
            refine(ak.out _ [_,_] G).mono ?_;rintro e V3 ⟨rfl,hB⟩;have Z:=G.call hB;refine r.out _ _ (y.out _ [_,_] Z) fun _=>?_;clear r K hB G;simp only[Gb,G7,G6];have a2:=y.out _ [_,_] Z;refine G2 10 69 a2 ?_;refine G2 11 80 a2 ?_;refine G2 12 81 a2 ?_;refine G2 13 82 a2 ?_;clear a2;exact hG.out bh bt V3 (Z.perm po)
      · go_simp
        have U:=T0.alloc zT;refine r.out _ _ (y.out _ [_] U) fun _=>?_;clear r K T0;simp only[Gb,G7,G6];generalize V0.alloc _=V1 at*;generalize V0.heap.size=bt at*;refine Zf (rs:=[9,14]) kr (by simp) (H_ rfl (fun K r=>?_) (H_ rfl (fun K r=>?_) Zd))
        · go_simp
          refine(ak.out _ [_] U).mono ?_;rintro e V2 ⟨rfl,hB⟩;have G:=U.call hB;refine r.out _ _ (y.out _ [_] G) fun _=>?_;clear r K hB U;simp only[Gb,G7,G6];have a1:=y.out _ [_] G;refine G2 10 69 a1 ?_;refine G2 11 80 a1 ?_;refine G2 12 81 a1 ?_;refine G2 13 82 a1 ?_;clear a1;refine G5 14 (fun K r=>?_)
          · go_simp
            have Z:=G.alloc zH;refine r.out _ _ (y.out _ [_,_] Z) fun _=>?_;clear r K G;simp only[Gb,G7,G6];generalize V2.alloc _=V3 at*;generalize V2.heap.size=bh at*;exact hG.out bh bt V3 (Z.perm po)
        · go_simp
          have G:=U.alloc zH;refine r.out _ _ (y.out _ [_,_] G) fun _=>?_;clear r K U;simp only[Gb,G7,G6];generalize V1.alloc _=V2 at*;generalize V1.heap.size=bh at*;refine G5 9 (fun K r=>?_)
          · go_simp
            refine(ak.out _ [_,_] G).mono ?_;rintro e V3 ⟨rfl,hB⟩;have Z:=G.call hB;refine r.out _ _ (y.out _ [_,_] Z) fun _=>?_;clear r K hB G;simp only[Gb,G7,G6];have a2:=y.out _ [_,_] Z;refine G2 10 69 a2 ?_;refine G2 11 80 a2 ?_;refine G2 12 81 a2 ?_;refine G2 13 82 a2 ?_;clear a2;exact hG.out bh bt V3 (Z.perm po)
     case h2=>
      intro bh bt V0 U0;refine G5 16 (fun K r=>?_);have aW:=U0.there1;have U1:=U0.laid [yV 1,iV cb,iV cc,iV cd] rfl;refine JT rfl rfl 125 _ _ rfl _ 0 #[yV 1,iV cb,iV cc,iV cd] rfl rfl aW bF bn ?_;refine r.out _ _ (y.out _ [_,_] U1) fun _=>?_;clear r K aW;simp only[Gb,G7,G6];generalize V0.setCells bh 0 _=V9 at*;refine G5 17 (fun K r=>?_);have aX:=U1.there2;have U2:=U1.laid2 [yV tk,iV tw,uV tm] rfl;refine JT rfl rfl 79 _ _ rfl _ 0 #[yV tk,iV tw,uV tm] rfl rfl aX aV bp ?_;refine r.out _ _ (y.out _ [_,_] U2) fun _=>?_;clear r K aX;simp only[Gb,G7,G6];have be:=y.out _ [_,_] U2;refine G2 18 14 be ?_;clear be;refine P_ kr ?_ _;refine z_ ?_;exact⟨rfl,bh,bt,rfl,U2⟩
    case hq=>
     intro bh bt w5 T5;have bq:=T5.range2;have bW:=T5.cell1 2;have b2:=uh T5;clear T5
     go_wp2_with (first
      | (show lW 79;refine J_ rfl 79 _ rfl bt 0 rfl [yV tk,iV tw,uV tm] _ bq underlying79 rfl aV ?_)
      | fail)
     refine(aF.out _).mono ?_;rintro e w6 ⟨cu,cK,cf,rfl,ag,T6⟩;have T7:=b2.out.grow T6;obtain⟨Y,hY⟩:∃Y,Y=cf++[(bh,.cells #[yV 1,iV cb,iV cc,iV cd] 125),(bt,.cells #[yV tk,iV tw,uV tm] 79)]:=⟨_,rfl⟩;have T8:Turn [] w0 (Y++M) w6:=by rw[hY];exact T7.perm po
     have ay:=uh T8;clear T6 T7 bq bW b2 aF;rcases Hs.out with hs|⟨qs,ps,s,ae,bj,aj⟩
     · have k1:((rs.length:Int) == 0)=true:=by rw[Qx];omega
       have k2:(rs.length == 0)=true:=(by rw[Qx];exact hs);have HE:=uh (HN.out _ hs (bH.out _ _ T8));clear hs T8 hY HN HY ag
       go_wp2_with fail
       exact HE.out
     · have bZ:=ae.lt
       have k1:((rs.length:Int) == 0)=false:=(by rw[j_];omega);have k2:(rs.length == 0)=false:=(by rw[j_];omega);have k3:0<(rs.length:Int):=O;have k4:¬(rs.length:Int)=0:=O;obtain⟨bR,ck,rfl,rfl,-,-⟩:=ag.some_of O;have ch:w6.cell? (aD bR ps)=some (iV s):=(ag.cell (R:=[(bh,.cells #[yV 1,iV cb,iV cc,iV cd] 125),(bt,.cells #[yV tk,iV tw,uV tm] 79)]++M) (by rw[hY]at T8;exact T8.has.perm po) ps O).trans (Nv bj);have aA:=y.out _ _ T8;have q3:=aA.x 3 _ rfl;have i1:=ae.and_;have i2:=ae.low;have i3:=ae.rem;have i4:=ae.rem2;have s0:=aA.s0;have s1:=aA.s1;have ax:=b9.out s aj;have cF:=ax.1;have br:=ax.2;have HE:=uh (fun w'=>HY.out w' s aj);have b3:=uh (HV.out s aj)
       have aY:=uh (HO.out _ T8.below a aw (by
        rw[HM.out]at T8;exact JQ (n:=cw) (L:=(G1 sb a tb bb::lb)++(Y++(((rb,rN ao W cap lao L.length lcap)::lr)++(a0++(a3++((xb,.cells #[iV dk,iV g,iV id,iV n,uV wv,sl] 154)::X)))))) (T8.has.perm po) hf))
       clear ax bj ae aj HN HY HV hY ag T8 aA HO
       go_wp2_with (first
        | (go_at_call 15;refine(NW _ (a:=(aD a 0)) rfl s0).mono ?_;rintro e w' ⟨rfl,hw⟩;subst hw)
        | (go_at_call 112;refine(XQ _ (a:=(aD tb 0)) rfl s1).mono ?_;rintro e w' ⟨rfl,hw⟩;subst hw)
        | fail)
       refine aY.out.mono ?_;rintro e w8 ⟨vb,rfl,T9⟩;have az:=ay.out.grow T9;obtain⟨N,hN⟩:∃N,N=(G1 sb a tb bb::lb)++(((vb,.cells (G4 a E ⟨1,cb,cc,cd⟩ ⟨tk,tw,tm⟩).toArray 179)::(Y++(a0++(a3++[(xb,.cells #[iV dk,iV g,iV id,iV n,uV wv,sl] 154)]))))++X):=⟨_,rfl⟩
       have ba:Turn [] w0 (G0 a aw W cw++(((rb,rN ao W cap lao L.length lcap)::lr)++N)) w8:=by
        rw[HM.out]at az;rw[hN];exact az.perm po
       have hv:LN w8 vb a E ⟨1,cb,cc,cd⟩ ⟨tk,tw,tm⟩:=az.has.range (b:=vb) (c:=(G4 a E ⟨1,cb,cc,cd⟩ ⟨tk,tw,tm⟩).toArray) (e:=179) (f:=(0,0)) (by simp);have b4:=uh (b3.out w8 a aw cw _ ba vb hv);have HN:=uh hN;have cz:2*(E:Int)+1+(s:Int)<(W.length:Int):=O;have cA:(2*(E:Int)+1+(s:Int)).toNat=2*E+1+s:=O;clear T9 az ba hv hN ay aY b3 q3 i1 i2 i3 i4 ch s0 s1
       go_wp2_with fail
       refine b4.out.mono ?_;rintro e w9 ⟨rfl,a4,bc⟩;have aJ:=bc.perm (l2:=((rb,rN ao W cap lao L.length lcap)::(lr++(G0 a aw (W.set (2*E+1+s) v) a4++N)))) po;have c0:=aJ.cell1 0;have aK:=aJ.perm (l2:=lr++((rb,rN ao W cap lao L.length lcap)::(G0 a aw (W.set (2*E+1+s) v) a4++N))) po;have aT:=bA.out.src aK.has;have aq:=uh aK;clear bc aJ aK b4
       go_wp2_with (first
        | (at_builtin;refine Qv rfl _ _ rfl GF rfl rfl (Zb _ _) (R:=lr++((rb,rN ao W cap lao L.length lcap)::(G0 a aw (W.set (2*E+1+s) v) a4++N))) aq.out.has aT bE aN bV ?_;intro cv af cH bu am bf;rw[Q_,L_]at am;obtain⟨gb,aM,rfl,rfl,-,-⟩:=am.some_of O;have V1:=((aq.out).trans bf).perm (l2:=(gb,.cells aM 36)::(rb,rN ao W cap lao L.length lcap)::(lr++(G0 a aw (W.set (2*E+1+s) v) a4++N))) po;have c1:bu.cell? (aD gb (2*E+1+s))=some (uV (W[2*E+1+s])):=(am.cell (R:=(rb,rN ao W cap lao L.length lcap)::(lr++(G0 a aw (W.set (2*E+1+s) v) a4++N))) V1.has (2*E+1+s) (by rw[Xs];exact br)).trans (JG (a_ br));have f1:=V1.free1 (2*E+1+s);have V3:=V1.setCell (2*E+1+s) (uV v);have c3:(bu.setCell (aD gb (2*E+1+s)) (uV v)).cell? (aD rb 0)=some (.slice ao W.length cap):=V3.cell2 0;have f3:=V3.free2 0;have ay:=uh (V3.swap.setCell 0 (.slice (some (aD gb 0)) W.length af));have aR:=am.set (2*E+1+s) (uV v);rw[Ls]at aR;have bP:=uh aR;clear V1 V3 bf am aR aT aq c0)
        | fail)
       refine HE.out _ ⟨G0 a aw (W.set (2*E+1+s) v) a4++(G1 sb a tb bb::lb),(rb,.cells #[.slice (some (aD gb 0)) (W.set (2*E+1+s) v).length af,.slice lao L.length lcap] 62)::[(gb,.cells (aM.setIfInBounds (2*E+1+s) (uV v)) 36)],⟨a,aw,bb,a4,lb,?_,rfl⟩,⟨some (aD gb 0),af,_,?_,rfl⟩,fun x hx=>bL.out x (Qt _ (Qt _ (V_ _ hx))),?_⟩
       ·rw[Qn];exact bv.out
       · have h:=bP.out
         rw[Qn];exact h
       · rw[Qn]
         have h:=ay.out;rw[HN.out]at h;exact(h.perm (l2:=(lr++((vb,.cells (G4 a E ⟨1,cb,cc,cd⟩ ⟨tk,tw,tm⟩).toArray 179)::(Y++(a0++(a3++[(xb,.cells #[iV dk,iV g,iV id,iV n,uV wv,sl] 154)])))))++((G0 a aw (W.set (2*E+1+s) v) a4++(G1 sb a tb bb::lb))++((rb,.cells #[.slice (some (aD gb 0)) W.length af,.slice lao L.length lcap] 62)::[(gb,.cells (aM.setIfInBounds (2*E+1+s) (uV v)) 36)]++X))) po).drop
theorem AY {w1:World}(w:World){sb tb rb lcap:Nat}{lao:Option Addr}{L:List Ty}{W B:List Nat}{X:List Blk}(G:Gm w1 w sb tb rb lao lcap L W B W X)(r g J n:Int)(M:Nat)(E:Value)(_hsl:E.oneCell'=true)(U:r≠0)(h1:r≠1)(h2:r≠2)(V:r≠3)(Z:r≠5):
  Calls prog 97 #[pt sb,pt rb,.agg #[iV r,iV g,iV J,iV n,uV M,E]] w fun e w'=>e=.returned (.bool true) /\ Gm w1 w' sb tb rb lao lcap L W B W X:=by
 have y:=uh (G.alloc (.cells #[iV r,iV g,iV J,iV n,uV M,E] 154) rfl);have k0:(r == 0)=false:=by rw[j_];exact U
 have k1:(r == 1)=false:=by rw[j_];exact h1
 have k2:(r == 2)=false:=by rw[j_];exact h2
 have k3:(r == 3)=false:=by rw[j_];exact V
 have k5:(r == 5)=false:=by rw[j_];exact Z
 clear G
 go_enter func97,ntmps97
 have N:=uh (y.out.sub (Qm ..));have q0:=y.out.x 0 _ rfl;clear y
 go_wp2_with fail
 go_ret;exact⟨rfl,N.out⟩
theorem AX {w1:World}(w:World){sb tb rb lcap:Nat}{lao:Option Addr}{L:List Ty}{W B:List Nat}{X:List Blk}(U:Gm w1 w sb tb rb lao lcap L W B W X)(g y n:Int)(E:Nat)(r:Value)(_hsl:r.oneCell'=true)(N:Ending -> World -> Prop)
  (J:Hid (∀w' x,Gm w1 w' sb tb rb lao lcap L W B W (x::X) -> Calls prog 157 #[pt sb,pt rb,.agg #[iV 5,iV g,iV y,iV n,uV E,r]] w' fun e w2=>e=.returned (.bool true) /\ N (.returned (.bool true)) w2)):
  Calls prog 97 #[pt sb,pt rb,.agg #[iV 5,iV g,iV y,iV n,uV E,r]] w N:=by
 have G:=uh (U.alloc (.cells #[iV 5,iV g,iV y,iV n,uV E,r] 154) rfl);have V:(prog.info? 154).map (·.size)=some 6:=by kernel_rfl
 clear U
 go_enter func97,ntmps97
 have M:=uh (J.out _ _ G.out);have Z:=G.out.x;have q0:=Z 0 _ rfl;clear G J
 go_wp2_with (first
  | (show lW 154;refine J_ rfl 154 _ rfl w.heap.size 0 rfl [iV 5,iV g,iV y,iV n,uV E,r] _ Z underlying154 rfl V ?_)
  | fail)
 refine M.out.mono ?_;rintro e w2 ⟨rfl,hq⟩;have HQ:=uh hq;clear hq
 go_wp2_with fail
 exact HQ.out
theorem ZH {L:List Ty}{W B:List Nat}{cs:List Ce}(h:Pl L W B cs){c:Ce}(r:c∈cs)(E:c.2.tag=1){s v:Nat}(M:s<(tyAt L c.2.typ).slots c.2.len)(G:v<18446744073709551616):Pl L (W.set (2*c.1+1+s) v) B cs:=by
 have y:=(h.good.chain.mem c r).2.2;have J:=(LS y E).1;exact h.slot r O O G
theorem Ap {t:Ty}{n p s:Nat}(h:(t.refs n)[p]?= some s):s<t.slots n:=by
 have h1:=q_ h;unfold Ty.refs at h1;exact List.mem_range.1 (Ym.1 h1).1
theorem AJ {w1:World}(w:World){sb tb rb lcap:Nat}{lao:Option Addr}{L:List Ty}{W B:List Nat}{X:List Blk}{cs:List Ce}(hb:PlBase w1 tb L lao lcap)(hP:Gm w1 w sb tb rb lao lcap L W B W X)(h:Pl L W B cs)(U g y n:Int)(wv:Nat)(J:Value)(_hsl:J.oneCell'=true):
  Calls prog 157 #[pt sb,pt rb,.agg #[iV U,iV g,iV y,iV n,uV wv,J]] w fun e w'=>e=.returned (.bool true) /\ ∃W',Pl L W' B cs /\ Gm w1 w' sb tb rb lao lcap L W' B W' X:=by
 by_cases h0:(ats cs).length=0
 · refine(YD w hb hP h U g y n wv J _hsl h0).mono ?_
   rintro e w' ⟨rfl,r⟩;exact⟨rfl,W,h,r⟩
 · have hk:0<(ats cs).length:=O
   have a5:=h.good.small;obtain⟨q,p,hq⟩:=Cm g hk;obtain⟨c,Z,ht,a1⟩:=Du hq.lt;have a6:=(h.good.chain.mem c Z).2.2
   obtain⟨v,a0,hv⟩:∃v:Nat,v<18446744073709551616 /\ (y<0 /\ v=0∨0 <= y /\ ∃qi E d,Picks y (ats cs).length qi E /\ (ats cs)[E]?= some d /\ d <= 65536 /\ v=1048576+2*d):=by
    by_cases a3:y<0
    ·exact⟨0,by omega,.inl ⟨a3,rfl⟩⟩
    · obtain⟨qi,E,M⟩:=Cm y hk
      obtain⟨d,hd,-,V⟩:=Du M.lt;have a2:=h.good.chain.mem d hd;have:=a2.2.2.pos;exact⟨1048576+2*d.1,by omega,.inr ⟨by omega,qi,E,d.1,M,V,by omega,rfl⟩⟩
   have hs:((tyAt L c.2.typ).refs c.2.len).length=0∨∃qs G s,Picks n ((tyAt L c.2.typ).refs c.2.len).length qs G /\ ((tyAt L c.2.typ).refs c.2.len)[G]?= some s /\ s<(tyAt L c.2.typ).slots c.2.len:=by
    by_cases hr:((tyAt L c.2.typ).refs c.2.len).length=0
    ·exact .inl hr
    · obtain⟨qs,G,N⟩:=Cm n (k:=((tyAt L c.2.typ).refs c.2.len).length) O
      have hg:=a_ N.lt;exact .inr ⟨qs,G,_,N,hg,Ap hg⟩
   exact YC w hb hP h U g y n wv J _hsl _ q p v c rfl hq Z ht a1 hv hs _ (uh (fun w' _ r=>⟨rfl,W,h,r⟩)) (uh (fun w' s a4 r=>⟨rfl,_,ZH h Z ht a4 a0,r⟩))
theorem Dj {w1:World}(w:World){sb tb rb lcap:Nat}{lao:Option Addr}{L:List Ty}{W B:List Nat}{X:List Blk}{cs:List Ce}(M:PlBase w1 tb L lao lcap)(G:Gm w1 w sb tb rb lao lcap L W B W X)(h:Pl L W B cs)(s:Stp)(Z:s.ats.length <= 65536)(hw:s.w<18446744073709551616)(hA:Src w1 s.ao s.ats.length s.cap 1 (M9 s.ats)):
  Calls prog 97 #[pt sb,pt rb,.agg (KX s).toArray] w fun e w'=>e=.returned (.bool true) /\ ∃W' B' cs',Pl L W' B' cs' /\ Gm w1 w' sb tb rb lao lcap L W' B' W' X:=by
 obtain⟨J,g,y,n,E,al,ao,N⟩:=s;simp only at Z hw hA
 show Calls _ _ #[_,_,.agg #[iV J,iV g,iV y,iV n,uV E,.slice ao al.length N]] w _
 by_cases h0:J=0
 · subst h0
   exact Dg w M G h g y n E _ rfl
 by_cases h1:J=1
 · subst h1
   exact AZ w M G h g y n E _ rfl
 by_cases h3:J=3
 · subst h3
   exact WW w M G h g y n E al Z ao N hA
 by_cases h2:J=2
 · subst h2
   by_cases hg:∃c∈cs,(c.1:Int)=g /\ c.2.tag=1
   · obtain⟨c,U,rfl,ht⟩:=hg
     by_cases hn:n<0∨(((tyAt L c.2.typ).slots c.2.len:Nat):Int) <= n
     · refine(WX w G c.1 y n E _ rfl _ hn (uh (fun w' V=>W8 w' M h V c U ht))).mono ?_
       rintro e w' ⟨rfl,r⟩;exact⟨rfl,W,B,cs,h,r⟩
     · obtain⟨s,rfl⟩:∃s:Nat,n=s:=⟨n.toNat,by omega⟩
       refine(Dh w M G h c U ht y s O E _ rfl).mono ?_;rintro e w' ⟨rfl,r⟩;exact⟨rfl,_,B,cs,ZH h U ht O hw,r⟩
   · refine(WX w G g y n E _ rfl 0 O (uh (fun w' V=>BU w' M h V g (fun c U hx=>hg ⟨c,U,hx⟩)))).mono ?_
     rintro e w' ⟨rfl,r⟩;exact⟨rfl,W,B,cs,h,r⟩
 by_cases h5:J=5
 · subst h5
   refine AX w G g y n E _ rfl _ (uh (fun w' x V=>(AJ w' M V h 5 g y n E _ rfl).mono ?_));rintro e w2 ⟨rfl,W',h',r⟩;exact⟨rfl,rfl,W',B,cs,h',r.sub (Qm ..)⟩
 · refine(AY w G J g y n E _ rfl h0 h1 h2 h3 h5).mono ?_
   rintro e w' ⟨rfl,r⟩;exact⟨rfl,W,B,cs,h,r⟩
def RD (w w':World)(L:List Ty)(lao:Option Addr)(lcap:Nat)(e:Ending):Prop:=
 (e=.returned (.tuple #[.pointer none,.pointer none,.bool true]) /\ Below w.heap.size w w')∨
 ∃(sb rb tb:Nat) (w1:World) (W B:List Nat) (cs:List Ce),e=.returned (.tuple #[pt sb,pt rb,.bool true]) /\ Below w.heap.size w w1 /\ PlBase w1 tb L lao lcap /\ Pl L W B cs /\ Gm w1 w' sb tb rb lao lcap L W B W []
def j5 (w:World)(s:Stp):Prop:=s.ats.length <= 65536 /\ s.w<18446744073709551616 /\ Src w s.ao s.ats.length s.cap 1 (M9 s.ats)
theorem Uy (w:World)(n:Int)(L:List Ty)(lao:Option Addr)(lcap:Nat)(E:Option Addr)(M r:Nat)
  (J:Hid (Calls prog 96 #[iV n,.slice lao L.length lcap] w fun e w'=>e=.returned (.tuple #[.pointer none,.pointer none,.bool true]) /\ Below w.heap.size w w')):
  Calls prog 34 #[iV n,.slice lao L.length lcap,.slice E M r] w fun e w'=>RD w w' L lao lcap e:=by
 go_enter func34,ntmps34
 go_wp2_with fail
 refine J.out.mono ?_;rintro e N ⟨rfl,y⟩;have G:=uh y;clear y
 go_wp2_with fail
 refine f_ (La rfl _ _ _) rfl ?_;exact .inl ⟨rfl,G.out⟩
theorem Ax (w:World)(hF:Fields w)(L:List Ty)(lao:Option Addr)(lcap:Nat)(hS:Src w lao L.length lcap 3 (tys L))(a2:∀t∈L,TyIn t)(hL:L.length <= 1000)(J:(∀t∈L,t.may) /\ L.length <= 64)(n:Nat)(hn:Kq n)(ak:n <= 600)
  (af:Option Addr)(a5:Nat)(r:List Stp)(a0:Src w af r.length a5 6 (DH r))(aq:r.length <= 65536)(G:∀s∈r,j5 w s):
  Calls prog 34 #[iV n,.slice lao L.length lcap,.slice af r.length a5] w fun e w'=>RD w w' L lao lcap e:=by
 have HM:=uh (EB w hF L lao lcap hS a2 hL J n hn);have a9:=uh (Pl.new (L:=L) (n:=n) J.1 J.2 ak (by have:=hn.1;omega) (by have:=hn.2.2;omega));have a7:=uh (fun w1 tb U y (hB:Below w.heap.size w w1) (hT:TabAt w1 tb U y L)=>(⟨⟨U,y,hT⟩,range_below hF hB,hS.below hB,a2⟩:PlBase w1 tb L lao lcap));have HF:=uh (fun(h:0<r.length)=>a0.form (by rw[MP];omega));have ag:=uh a0;have ah:=uh (fun i s (hi:r[i]?= some s) w1 (hB:Below w.heap.size w w1)=>(⟨(G s (q_ hi)).1,(G s (q_ hi)).2.1,(G s (q_ hi)).2.2.below hB⟩:j5 w1 s));have am:(prog.info? 154).map (·.size)=some 6:=by kernel_rfl
 clear hF hS a2 J hn a0 G
 go_enter func34,ntmps34
 go_wp2_with fail
 refine HM.out.mono ?_;rintro e w2 ⟨sb,rb,tb,w1,U,y,ls,lr,rfl,Z,a1,ae,ac,T2⟩;have Hb:=uh (a7.out w1 tb U y Z a1);have a8:=uh (⟨ls,lr,ae,ac,fun x hx=>(by cases hx),T2.perm po⟩:Gm w1 w2 sb tb rb lao lcap L (lay (List.replicate n 0) 0 (n/2)) (List.replicate ((n/2+63)/64) 0) (lay (List.replicate n 0) 0 (n/2)) []);have E:=uh Z;clear Z a1 ae ac T2 a7 HM
 go_wp2_with fail
 go_loopw [12] (fun a6 wr=>∃(i:Nat) (W B:List Nat) (cs:List Ce),i <= r.length /\ a6=iV i /\ Pl L W B cs /\ Gm w1 wr sb tb rb lao lcap L W B W []) (fun a6 _=>r.length-(intOf a6).toNat)
 case atStart=>exact⟨0,_,_,_,u_ _,by go_num,a9.out,a8.out⟩
 case round=>
  clear a9 a8;obtain⟨i,W,B,cs,hi,rfl,M,hP⟩:=hrel
  by_cases aj:i<r.length
  · have an:(i:Int)<(r.length:Int):=O
    obtain⟨s,hs⟩:∃s,r[i]?= some s:=⟨r[i],a_ aj⟩;obtain⟨b,off,rfl,-⟩:=HF.out O;have aa:=E.out.trans (hP.below.mono E.out.size);have a4:wr.rangeAt b (off+i*6) (KX s):=(ag.out.below aa).st hs;have N:=ah.out i s hs w1 E.out;have HD:=uh (Dj wr Hb.out hP M s N.1 N.2.1 N.2.2);unfold KX at HD a4;clear hs M hP N aa
    go_wp2_with (first
     | (show lW 154;refine J_ rfl 154 _ rfl b (off+i*6) rfl _ _ a4 underlying154 rfl am ?_)
     | fail)
    refine HD.out.mono ?_;rintro e w3 ⟨rfl,W',B',cs',a3,ab⟩;have V:=uh (⟨a3,ab⟩:Pl L W' B' cs' /\ Gm w1 w3 sb tb rb lao lcap L W' B' W' []);clear a3 ab HD a4
    go_wp2_with fail
    go_roundw
    case rel=>exact⟨i+1,W',B',cs',by omega,by go_num,V.out.1,V.out.2⟩
    case measure=>simp[intOf];omega
  · obtain rfl:i=r.length:=O
    have ap:¬((r.length:Nat):Int)<(r.length:Int):=O;have V:=uh (⟨M,hP⟩:Pl L W B cs /\ Gm w1 wr sb tb rb lao lcap L W B W []);clear M hP
    go_wp2_with fail
    refine f_ (La rfl _ _ _) rfl ?_;exact .inr ⟨sb,rb,tb,w1,W,B,cs,rfl,E.out,Hb.out,V.out.1,V.out.2⟩
end
section
open Go Go.ChangeShapes Go.WideShapes Go.Deep Go.RowKit
section
variable {H:Type} {enc:TypeId×Value -> H} {P:Program} {w:World} {base:Nat} {spare:Nat -> Bool} {held:Bool}
theorem KA {t e:TypeId}{r:Array Field}{N:Nat}{cs:List Value}{x:DataW H×List MemPlace}(ht:P.underlying t=some (.slice e))(he:P.underlying e=some (.struct r))
  (V:oneCellFields P r=true)(hC:P.cellsOf e=r.size)(h:DataW.trod enc P w base spare held N t cs=some x):
  (cs=[.slice none 0 0] /\ x=(.nil,[]))∨
  ∃(a:Addr) (len cap m:Nat) (D:Nat -> DataW H) (Pl:Nat -> List MemPlace),cs=[.slice (some a) len cap] /\ base <= a.block /\ len <= cap /\ cap <= maxLen /\ m=(if spare a.block then cap else len) /\
   x=(.slice ((List.range len).map D) ((List.range (m-len)).map fun j=>D (len+j)),MemPlace.row a (m*r.size)++(List.range m).flatMap Pl) /\
   ∀i,i<m -> ∃(E:List (DataW H×List MemPlace)) (n:Nat),D i=.agg (E.map (·.1)) /\ Pl i=E.flatMap (·.2) /\ E.length=r.size /\
    ∀(j:Nat) (f:Field),r[j]?= some f -> ∃(v:Value) (y:DataW H×List MemPlace),w.cell? (a.add (i*r.size+j))=some v /\ E[j]?= some y /\ DataW.trod enc P w base spare held n f.type [v]=some y:=by
 rcases open_slice ht h with h0|⟨a,len,cap,m,n,D,Pl,a1,hb,hl,hm,a4,hx,hi⟩
 ·exact .inl h0
 · refine .inr ⟨a,len,cap,m,D,Pl,a1,hb,hl,hm,a4,by rw[hC]at hx;exact hx,fun i a2=>?_⟩
   obtain⟨cs',hc,a5⟩:=hi i a2;rw[hC]at hc;obtain⟨E,n',a9,Z,a7,a6,hf⟩:=DataW.trod_struct he a5;obtain⟨_,a8,a0⟩:=World.cells?_some hc;simp only[Prod.mk.injEq]at Z;refine⟨E,n',Z.1,Z.2,a6,fun j f U=>?_⟩;obtain⟨ho,hk⟩:=hone_of V j f U;have a3:j<r.size:=(Array.getElem?_eq_some_iff.1 U).1;have G:=a0 j a3;have hv:cs'[j]?= some (cs'[j]'O):=a_ O;have h1:=hf j f U;rw[ho,hk]at h1
   have J:(cs'.drop j).take 1=[cs'[j]'O]:=by
    rw[List.drop_eq_getElem_cons O]
    rfl
   rw[J]at h1;have M:E[j]?= some (E[j]'O):=a_ O;refine⟨_,_,?_,M,h1.trans M⟩;rw[←Go.Deep.add_add,G,hv]
end
theorem SF {α:Type}{P:Nat -> α -> Prop}(n:Nat)(h:∀k,k<n -> ∃x,P k x):∃L:List α,L.length=n /\ ∀k x,L[k]?= some x -> P k x:=by
 induction n with
 | zero=>exact⟨[],rfl,fun k x E=>by simp at E⟩
 | succ n ih=>
  obtain⟨L,J,N⟩:=ih fun k U=>h k O;obtain⟨x,E⟩:=h n O;refine⟨L++[x],by simp[J],fun k y r=>?_⟩
  by_cases U:k<n
  · rw[Qz O]at r
    exact N k y r
  · have M:=(m_.1 r).1
    rw[e_,Xx]at M;have G:k=n:=O;subst G;rw[Qg O,J,Jc]at r;simp at r;rw[←r];exact E
end
section
open Go Go.RowKit Go.ChangeShapes Go.WideShapes Go.ChangeAt Go.Deep
theorem YT:prog.cellsOf 79= 3:=by kernel_rfl
theorem X1:prog.cellsOf 154= 6:=by kernel_rfl
theorem B9:prog.bytesOf 3= 8:=by kernel_rfl
theorem U5:prog.cellsOf 3= 1:=by kernel_rfl
theorem NM {H:Type}{P:Program}{e:TypeId}{d:DataW H}{n:Nat}(r:n∈d.weights P e):∀{ds:List (DataW H)},d∈ds -> n∈DataW.weightsAll P e ds
 | d0::ds,hd=>by
  simp only[DataW.weightsAll,s_];rcases t_.1 hd with rfl|hd
  ·exact .inl r
  ·exact .inr (NM r hd)
theorem Y3 {H:Type}{enc:TypeId×Value -> H}{w:World}{ao:Option Addr}{len cap M:Nat}{d:DataW H}{p:List MemPlace}
  (h:DataW.trod enc prog w 0 (fun _=>true) true M 22 (Value.cells (.slice ao len cap)).toList=some (d,p)):
  ∃L:List Ty,(∀t∈L,TyIn t) /\ Src w ao len cap 3 (tys L) /\ L.length=len /\ len <= cap /\ cap <= maxLen:=by
 rcases KA underlying22 underlying79 kr YT h with⟨r,hx⟩|⟨a,a2,a1,m,D,Pl,r,hb,hl,hm,J,hx,y⟩
 · simp[Value.cells]at r
   obtain⟨rfl,rfl,rfl⟩:=r;exact⟨[],(fun _ h=>by cases h),⟨rfl,(fun _=>⟨rfl,rfl⟩),(fun ad h=>by cases h)⟩,rfl,g_ _,u_ _⟩
 · simp[Value.cells]at r
   obtain⟨rfl,rfl,rfl⟩:=r;simp only[if_true]at J;subst J
   have N:∀k,k<len -> ∃t:Ty,TyIn t /\ w.cell? (a.add (k*3))=some (.int .u8 t.kind) /\ w.cell? (a.add (k*3+1))=some (.int .i64 t.words) /\ w.cell? (a.add (k*3+2))=some (.int .u64 t.mask):=by
    intro k hk;obtain⟨ys,n,-,-,-,U⟩:=y k O;obtain⟨v0,y0,c0,-,t0⟩:=U 0 _ rfl;obtain⟨v1,y1,c1,-,t1⟩:=U 1 _ rfl;obtain⟨v2,y2,c2,-,t2⟩:=U 2 _ rfl;obtain⟨x0,Z,-,b0⟩:=DataW.trod_int underlying5 t0;obtain⟨V,e1,-,b1⟩:=DataW.trod_int underlying3 t1;obtain⟨x2,e2,-,b2⟩:=DataW.trod_int underlying36 t2;simp at Z e1 e2;subst Z;subst e1;subst e2;have h0:=bounds_u8 b0;have h1:=bounds_i64 b1;have h2:=bounds_u64 b2;obtain⟨z0,rfl⟩:=Ya h0.1;obtain⟨z2,rfl⟩:=Ya h2.1;refine⟨⟨z0,V,z2⟩,⟨?_,?_,?_,?_⟩,c0,c1,c2⟩
    ·show z0 <= 255;omega
    ·show _ <= V;omega
    ·show V <= _;omega
    ·show z2<_;omega
   obtain⟨L,hL,hP⟩:=SF len N;refine⟨L,fun t E=>?_,⟨by rw[M3,hL],(by intro h;cases h),fun ad a0 j u G=>?_⟩,hL,hl,hm⟩
   · obtain⟨k,hk⟩:=Ys E
     exact(hP k t hk).1
   · cases a0
     have a3:j<L.length*3:=(by rw[←M3];exact(m_.1 G).1);have hj:j=j/3*3+j%3:=(Nat.div_add_mod' j 3).symm;have h3:j%3<3:=Nat.mod_lt _ O;obtain⟨t,E⟩:∃t,L[j/3]?= some t:=⟨L[j/3]'O,a_ _⟩;obtain⟨-,q0,q1,q2⟩:=hP _ t E;rw[hj,ZB E h3]at G;rw[hj];have hc:j%3=0∨j%3=1∨j%3=2:=O;rcases hc with e|e|e<;>rw[e]at G ⊢ <;>cases G
     ·exact q0
     ·exact q1
     ·exact q2
theorem Wy {H:Type}{enc:TypeId×Value -> H}{w:World}{ao:Option Addr}{len cap a6:Nat}{d:DataW H}{p:List MemPlace}
  (h:DataW.trod enc prog w 0 (fun _=>true) true a6 23 (Value.cells (.slice ao len cap)).toList=some (d,p))(hw:∀n∈d.weights prog 23,n <= reachBytes):
  ∃N:List Stp,Src w ao len cap 6 (DH N) /\ N.length=len /\ len <= maxLen /\ ∀s∈N,s.w<18446744073709551616 /\ Src w s.ao s.ats.length s.cap 1 (M9 s.ats) /\ s.ats.length <= 17592186044416:=by
 rcases KA underlying23 underlying154 kr X1 h with⟨J,hx⟩|⟨a,ah,ag,m,D,Pl,J,hb,hl,hm,a3,hx,a2⟩
 · simp[Value.cells]at J
   obtain⟨rfl,rfl,rfl⟩:=J;exact⟨[],⟨rfl,(fun _=>⟨rfl,rfl⟩),(fun ad h=>by cases h)⟩,rfl,u_ _,(fun _ h=>by cases h)⟩
 · simp[Value.cells]at J
   obtain⟨rfl,rfl,rfl⟩:=J;simp only[Prod.mk.injEq]at hx;simp only[if_true]at a3;subst a3;obtain⟨rfl,-⟩:=hx
   have E:∀k,k<len -> ∃s:Stp,(∀j v,(KX s)[j]?= some v -> w.cell? (a.add (k*6+j))=some v) /\ s.w<18446744073709551616 /\ Src w s.ao s.ats.length s.cap 1 (M9 s.ats) /\ s.ats.length <= 17592186044416:=by
    intro k hk;obtain⟨ys,n,hD,-,-,U⟩:=a2 k O;obtain⟨v0,y0,c0,-,t0⟩:=U 0 _ rfl;obtain⟨v1,y1,c1,-,t1⟩:=U 1 _ rfl;obtain⟨v2,y2,c2,-,t2⟩:=U 2 _ rfl;obtain⟨v3,y3,c3,-,t3⟩:=U 3 _ rfl;obtain⟨v4,y4,c4,-,t4⟩:=U 4 _ rfl;obtain⟨v5,y5,c5,ae,t5⟩:=U 5 _ rfl;obtain⟨x0,e0,-,-⟩:=DataW.trod_int underlying3 t0;obtain⟨x1,e1,-,-⟩:=DataW.trod_int underlying3 t1;obtain⟨x2,e2,-,-⟩:=DataW.trod_int underlying3 t2;obtain⟨x3,e3,-,-⟩:=DataW.trod_int underlying3 t3;obtain⟨x4,e4,-,b4⟩:=DataW.trod_int underlying36 t4;simp at e0 e1 e2 e3 e4;subst e0;subst e1;subst e2;subst e3;subst e4;have h4:=bounds_u64 b4;obtain⟨z4,rfl⟩:=Ya h4.1;have a4:z4<18446744073709551616:=O
    have cells:∀(s:Stp),s.dk=x0 -> s.g=x1 -> s.id=x2 -> s.n=x3 -> s.w=z4 -> v5=.slice s.ao s.ats.length s.cap -> ∀j v,(KX s)[j]?= some v -> w.cell? (a.add (k*6+j))=some v:=by
     intro s r0 r1 r2 r3 r4 r5 j v M;subst r0;subst r1;subst r2;subst r3;subst r4;subst r5;have G:j<6:=(m_.1 M).1;have hc:j=0∨j=1∨j=2∨j=3∨j=4∨j=5:=O;rcases hc with rfl|rfl|rfl|rfl|rfl|rfl<;>cases M
     ·exact c0
     ·exact c1
     ·exact c2
     ·exact c3
     ·exact c4
     ·exact c5
    rcases open_ints underlying136 underlying3 U5 t5 with⟨M,-⟩|⟨a5,r,a7,y,M,-,aj,ak,af,hy,a9,-⟩
    · simp at M
      subst M;exact⟨⟨x0,x1,x2,x3,z4,[],none,0⟩,cells _ rfl rfl rfl rfl rfl rfl,a4,⟨rfl,(fun _=>⟨rfl,rfl⟩),(fun ad h=>by cases h)⟩,by show 0 <= _;omega⟩
    · simp at M
      subst M;simp only[if_true]at af
      have h8:r*8 <= reachBytes:=by
       have aa:y5.1=.slice (lits .i64 (y.take r)) (lits .i64 (y.drop r)):=by rw[hy]
       have ac:((lits (H:=H) .i64 (y.take r)).length+(lits (H:=H) .i64 (y.drop r)).length)*prog.bytesOf 3∈ (y5.1).weights prog 136:= by
        rw[aa];simp[DataW.weights,underlying136]
       have a8:((lits (H:=H) .i64 (y.take r)).length+(lits (H:=H) .i64 (y.drop r)).length)*prog.bytesOf 3∈ (D k).weights prog 154:= by
        rw[hD];simp only[DataW.weights,underlying154];exact DataW.weights_mem_each (j:=5) (t:=136) (d:=y5.1) rfl (by rw[G_,ae];rfl) _ ac
       have E:=hw _ (by
        simp only[DataW.weights,underlying23];exact V_ _ (Zr _ (NM a8 (U_.2 ⟨k,List.mem_range.2 hk,rfl⟩))))
       rw[B9]at E;have ab:(lits (H:=H) .i64 (y.take r)).length=r:=by simp[lits];omega
       rw[ab]at E;have h2:=Nat.mul_le_mul_right 8 (Nat.le_add_right r (lits (H:=H) .i64 (y.drop r)).length);omega
      have a1:(y.take r).length=r:=(by rw[Qh];omega);refine⟨⟨x0,x1,x2,x3,z4,y.take r,some a5,a7⟩,cells _ rfl rfl rfl rfl rfl (by rw[a1]),a4,⟨by simp[M9],(fun h=>by cases h),fun ad V j u G=>?_⟩,?_⟩
      · cases V
        have Z:j<(y.take r).length:=(by have:=(m_.1 G).1;simpa [M9]using this);have a0:j<y.length:=(by rw[Qh]at Z;omega);rw[a9 j a0];simp only[M9,G_]at G;rw[Xr (by rw[Qh]at Z;omega),a_ a0]at G;simp at G;rw[←G];simp[a0]
      · show(y.take r).length <= _
        rw[a1];simp only[reachBytes]at h8;omega
   obtain⟨N,hL,hP⟩:=SF len E;refine⟨N,⟨by rw[MP,hL],(by intro h;cases h),fun ad V j u hu=>?_⟩,hL,Qf hl hm,fun s hs=>?_⟩
   · cases V
     have Z:j<N.length*6:=(by rw[←MP];exact(m_.1 hu).1);have G:j=j/6*6+j%6:=(Nat.div_add_mod' j 6).symm;have h6:j%6<6:=Nat.mod_lt _ O;obtain⟨s,hs⟩:∃s,N[j/6]?= some s:=⟨N[j/6]'O,a_ _⟩;rw[G,ZE hs h6]at hu;rw[G];exact(hP _ s hs).1 _ _ hu
   · obtain⟨k,hk⟩:=Ys hs
     exact(hP k s hk).2
end
end Go.Proofs.YtoaofpohakaliaaGreatDoor
namespace Go.Proofs
open Go.Shelf
def Tryz.lays169_ren:Go.Shelf.Ren:=⟨fun|169=>93|n=>n,fun|70=>187|9=>9|0=>0|72=>189|37=>32|127=>272|3=>3|5=>5|n=>n,fun|n=>n⟩
theorem Tryz.lays169:Go.Proofs.Lays.n169 prog Tryz.lays169_ren:={
 mixed:=by kernel_rfl
 f169:=func93.trans (congrArg some (by kernel_rfl))
 t0:=underlying0
 a0:=Tryz.isAgg0
 z0:=Tryz.sizeOf0
 v0:=Tryz.zeroValue0
 t3:=underlying3
 a3:=Tryz.isAgg3
 z3:=Tryz.sizeOf3
 v3:=Tryz.zeroValue3
 t9:=underlying9
 a9:=Tryz.isAgg9
 z9:=Tryz.sizeOf9
 v9:=Tryz.zeroValue9
 t37:=underlying32
 a37:=Tryz.isAgg32
 z37:=Tryz.sizeOf32
 v37:=Tryz.zeroValue32
 t70:=underlying187
 a70:=Tryz.isAgg187
 z70:=Tryz.sizeOf187
 v70:=Tryz.zeroValue187
 t72:=underlying189
 a72:=Tryz.isAgg189
 z72:=Tryz.sizeOf189
 v72:=Tryz.zeroValue189
 t127:=underlying272
 a127:=Tryz.isAgg272
 z127:=Tryz.sizeOf272
 v127:=Tryz.zeroValue272 }
def Tryz.laysM171_ren:Go.Shelf.Ren:=⟨fun|171=>32|243=>94|246=>145|283=>146|284=>147|285=>148|286=>149|129=>194|317=>197|318=>198|319=>199|320=>200|337=>232|338=>233|n=>n,fun|3=>3|9=>9|2=>2|4=>4|171=>274|0=>0|53=>36|37=>32|5=>5|173=>276|212=>328|51=>323|20=>20|213=>329|46=>269|232=>373|233=>374|n=>n,fun|17=>1|18=>3|19=>4|n=>n⟩
theorem Tryz.laysM171:Go.Proofs.LaysM.n171 prog Tryz.laysM171_ren:={
 mixed:=by kernel_rfl
 f129:=func194.trans (congrArg some (by kernel_rfl))
 f171:=func32.trans (congrArg some (by kernel_rfl))
 f243:=func94.trans (congrArg some (by kernel_rfl))
 f246:=func145.trans (congrArg some (by kernel_rfl))
 f283:=func146.trans (congrArg some (by kernel_rfl))
 f284:=func147.trans (congrArg some (by kernel_rfl))
 f285:=func148.trans (congrArg some (by kernel_rfl))
 f286:=func149.trans (congrArg some (by kernel_rfl))
 f317:=func197.trans (congrArg some (by kernel_rfl))
 f318:=func198.trans (congrArg some (by kernel_rfl))
 f319:=func199.trans (congrArg some (by kernel_rfl))
 f320:=func200.trans (congrArg some (by kernel_rfl))
 f337:=func232.trans (congrArg some (by kernel_rfl))
 f338:=func233.trans (congrArg some (by kernel_rfl))
 t0:=underlying0
 a0:=Tryz.isAgg0
 z0:=Tryz.sizeOf0
 v0:=Tryz.zeroValue0
 t2:=underlying2
 a2:=Tryz.isAgg2
 z2:=Tryz.sizeOf2
 v2:=Tryz.zeroValue2
 t3:=underlying3
 a3:=Tryz.isAgg3
 z3:=Tryz.sizeOf3
 v3:=Tryz.zeroValue3
 t4:=underlying4
 a4:=Tryz.isAgg4
 z4:=Tryz.sizeOf4
 v4:=Tryz.zeroValue4
 t5:=underlying5
 a5:=Tryz.isAgg5
 z5:=Tryz.sizeOf5
 v5:=Tryz.zeroValue5
 t9:=underlying9
 a9:=Tryz.isAgg9
 z9:=Tryz.sizeOf9
 v9:=Tryz.zeroValue9
 t20:=underlying20
 a20:=Tryz.isAgg20
 z20:=Tryz.sizeOf20
 v20:=Tryz.zeroValue20
 t37:=underlying32
 a37:=Tryz.isAgg32
 z37:=Tryz.sizeOf32
 v37:=Tryz.zeroValue32
 t46:=underlying269
 a46:=Tryz.isAgg269
 z46:=Tryz.sizeOf269
 v46:=Tryz.zeroValue269
 t51:=underlying323
 a51:=Tryz.isAgg323
 z51:=Tryz.sizeOf323
 v51:=Tryz.zeroValue323
 t53:=underlying36
 a53:=Tryz.isAgg36
 z53:=Tryz.sizeOf36
 v53:=Tryz.zeroValue36
 t171:=underlying274
 a171:=Tryz.isAgg274
 z171:=Tryz.sizeOf274
 v171:=Tryz.zeroValue274
 t173:=underlying276
 a173:=Tryz.isAgg276
 z173:=Tryz.sizeOf276
 v173:=Tryz.zeroValue276
 t212:=underlying328
 a212:=Tryz.isAgg328
 z212:=Tryz.sizeOf328
 v212:=Tryz.zeroValue328
 t213:=underlying329
 a213:=Tryz.isAgg329
 z213:=Tryz.sizeOf329
 t232:=underlying373
 a232:=Tryz.isAgg373
 z232:=Tryz.sizeOf373
 v232:=Tryz.zeroValue373
 t233:=underlying374
 a233:=Tryz.isAgg374
 z233:=Tryz.sizeOf374
 v233:=Tryz.zeroValue374
 g17:=by kernel_rfl
 g18:=by kernel_rfl
 g19:=by kernel_rfl
 i0:=by kernel_rfl
 i2:=by kernel_rfl
 i3:=by kernel_rfl
 i4:=by kernel_rfl
 i5:=by kernel_rfl
 i9:=by kernel_rfl
 i20:=by kernel_rfl
 i37:=by kernel_rfl
 i46:=by kernel_rfl
 i51:=by kernel_rfl
 i53:=by kernel_rfl
 i171:=by kernel_rfl
 i173:=by kernel_rfl
 i212:=by kernel_rfl
 i232:=by kernel_rfl
 i233:=by kernel_rfl
 m17:=by kernel_rfl
 m18:=by kernel_rfl
 m19:=by kernel_rfl }
def Tryz.sortA_ren:Go.Shelf.Ren:=⟨fun|5=>165|8=>142|7=>216|19=>193|20=>194|10=>239|11=>240|12=>241|13=>242|14=>243|15=>244|16=>245|17=>246|18=>247|30=>255|31=>227|32=>228|33=>256|34=>257|35=>258|40=>272|n=>n,fun|23=>136|25=>3|3=>3|32=>269|22=>136|0=>0|44=>323|46=>36|4=>4|36=>316|35=>315|41=>242|5=>5|9=>9|53=>349|57=>353|63=>370|64=>371|n=>n,fun|n=>n⟩
theorem Tryz.sortA:Go.Proofs.SlLaysM.n5 prog Tryz.sortA_ren:={
 mixed:=by kernel_rfl
 f5:=⟨Tryz.f165.name,by decide,func165.trans (congrArg some (by kernel_rfl))⟩
 f7:=⟨Tryz.f216.name,by decide,func216.trans (congrArg some (by kernel_rfl))⟩
 f8:=func142.trans (congrArg some (by kernel_rfl))
 f10:=⟨Tryz.f239.name,by decide,func239.trans (congrArg some (by kernel_rfl))⟩
 f11:=⟨Tryz.f240.name,by decide,func240.trans (congrArg some (by kernel_rfl))⟩
 f12:=⟨Tryz.f241.name,by decide,func241.trans (congrArg some (by kernel_rfl))⟩
 f13:=⟨Tryz.f242.name,by decide,func242.trans (congrArg some (by kernel_rfl))⟩
 f14:=⟨Tryz.f243.name,by decide,func243.trans (congrArg some (by kernel_rfl))⟩
 f15:=⟨Tryz.f244.name,by decide,func244.trans (congrArg some (by kernel_rfl))⟩
 f16:=⟨Tryz.f245.name,by decide,func245.trans (congrArg some (by kernel_rfl))⟩
 f17:=⟨Tryz.f246.name,by decide,func246.trans (congrArg some (by kernel_rfl))⟩
 f18:=⟨Tryz.f247.name,by decide,func247.trans (congrArg some (by kernel_rfl))⟩
 f19:=func193.trans (congrArg some (by kernel_rfl))
 f20:=func194.trans (congrArg some (by kernel_rfl))
 f30:=⟨Tryz.f255.name,by decide,func255.trans (congrArg some (by kernel_rfl))⟩
 f31:=func227.trans (congrArg some (by kernel_rfl))
 f32:=func228.trans (congrArg some (by kernel_rfl))
 f33:=⟨Tryz.f256.name,by decide,func256.trans (congrArg some (by kernel_rfl))⟩
 f34:=⟨Tryz.f257.name,by decide,func257.trans (congrArg some (by kernel_rfl))⟩
 f35:=⟨Tryz.f258.name,by decide,func258.trans (congrArg some (by kernel_rfl))⟩
 f40:=⟨Tryz.f272.name,by decide,func272.trans (congrArg some (by kernel_rfl))⟩
 t0:=underlying0
 a0:=Tryz.isAgg0
 z0:=Tryz.sizeOf0
 v0:=Tryz.zeroValue0
 t3:=underlying3
 a3:=Tryz.isAgg3
 z3:=Tryz.sizeOf3
 v3:=Tryz.zeroValue3
 t4:=underlying4
 a4:=Tryz.isAgg4
 z4:=Tryz.sizeOf4
 v4:=Tryz.zeroValue4
 t5:=underlying5
 a5:=Tryz.isAgg5
 z5:=Tryz.sizeOf5
 v5:=Tryz.zeroValue5
 t9:=underlying9
 a9:=Tryz.isAgg9
 z9:=Tryz.sizeOf9
 v9:=Tryz.zeroValue9
 t22:=underlying136
 a22:=Tryz.isAgg136
 z22:=Tryz.sizeOf136
 v22:=Tryz.zeroValue136
 t23:=underlying136
 a23:=Tryz.isAgg136
 z23:=Tryz.sizeOf136
 v23:=Tryz.zeroValue136
 t25:=underlying3
 a25:=Tryz.isAgg3
 z25:=Tryz.sizeOf3
 v25:=Tryz.zeroValue3
 t32:=underlying269
 a32:=Tryz.isAgg269
 z32:=Tryz.sizeOf269
 v32:=Tryz.zeroValue269
 t35:=underlying315
 a35:=Tryz.isAgg315
 z35:=Tryz.sizeOf315
 v35:=Tryz.zeroValue315
 t36:=underlying316
 a36:=Tryz.isAgg316
 z36:=Tryz.sizeOf316
 v36:=Tryz.zeroValue316
 t41:=underlying242
 a41:=Tryz.isAgg242
 z41:=Tryz.sizeOf242
 v41:=Tryz.zeroValue242
 t44:=underlying323
 a44:=Tryz.isAgg323
 z44:=Tryz.sizeOf323
 v44:=Tryz.zeroValue323
 t46:=underlying36
 a46:=Tryz.isAgg36
 z46:=Tryz.sizeOf36
 v46:=Tryz.zeroValue36
 t53:=underlying349
 a53:=Tryz.isAgg349
 z53:=Tryz.sizeOf349
 v53:=Tryz.zeroValue349
 t57:=underlying353
 a57:=Tryz.isAgg353
 z57:=Tryz.sizeOf353
 v57:=Tryz.zeroValue353
 t63:=underlying370
 a63:=Tryz.isAgg370
 z63:=Tryz.sizeOf370
 v63:=Tryz.zeroValue370
 t64:=underlying371
 a64:=Tryz.isAgg371
 z64:=Tryz.sizeOf371
 v64:=Tryz.zeroValue371 }
end Go.Proofs
namespace Go.Proofs
open Go.Shelf
theorem Tryz.Builder_Extra_169:Builder.Extra prog Tryz.lays169_ren:={
 sizeBuilder:=by kernel_rfl
 liesBuilder:=by kernel_rfl
 t5:=underlying5
 a5:=Tryz.isAgg5
 z5:=Tryz.sizeOf5
 v5:=Tryz.zeroValue5
 infoByte:=by kernel_rfl
 cellsByte:=by kernel_rfl
 sizeByte:=by kernel_rfl
 neB5:=by decide }
open Go.RowKit in
theorem Tryz.Builder_String_any (B b:Nat)(l:List UInt8)(w:World)(h:Lib.IsBuilder 189 5 B b (Lib.byteCells l) w)(hBw:B <= w.heap.size):
  Calls prog 93 #[.pointer (some ⟨b,0,none⟩)] w fun e w'=>e=.returned (.string ⟨l.toArray⟩) /\ Below B w w':=Any.Builder_String_any Tryz.lays169 Tryz.Builder_Extra_169 B b l w h hBw
open Go.RowKit Go.Sort Go.Lib in
theorem Tryz.strconv_Itoa (n : Int) (h0 : -9223372036854775808 ≤ n) (h1 : n ≤ 9223372036854775807) (w : World) (htab : Lib.TabIs prog w "internal/strconv.uint64pow10" .u64 Lib.pow10Tab) :
  Calls prog 32 #[.int .i64 n] w fun e w'=>e=.returned (.string ⟨(Lib.itoa n).toArray⟩) /\ ∃k os,w'=grow (w.drewN k) os:=Any.strconv_Itoa Tryz.laysM171 n h0 h1 w htab
end Go.Proofs
namespace Go.Proofs.YtoaofpohakaliaaGreatDoor
section
open Go Go.RowKit Go.Shelf
theorem PZ (B b:Nat)(E:List Value)(w:World)(h:Lib.IsBuilder 189 5 B b E w):
  Calls prog 143 #[pt b] w fun e w'=>e=.returned (.tuple #[]) /\ (Lib.BuilderAt 189 5 B b (pt b) E w' /\ Below B w w'):=by
 obtain⟨j,y,G⟩:=Option.map_eq_some_iff.1 (show(prog.info? 189).map (·.size)=some 2 by kernel_rfl);rcases h with h|h
 · have J:=h.cell0
   have r:=h.shape;have M:=h.frozen0;have H:=uh h;clear h
   go_enter func143,ntmps143
   go_wp2
   rw[Lib.run_to_unsafe w (aD b 0) underlying187 underlying324 y (by rw[G];decide) r (Nat.zero_lt_succ 1)];simp only[Result.andThen];rw[Oper.upon_value]
   go_wp2
   rw[run_callFunc_extern func195 kr kr kr (e:=Extern.AbiNoEscape.same) kr];rw[Lib.run_noEscape];simp only[Result.andThen];rw[Oper.upon_value]
   go_wp2
   rw[Lib.run_from_unsafe w (aD b 0) underlying324 underlying187 y r kr];simp only[Result.andThen];rw[Oper.upon_value]
   go_wp2
   go_end0;exact⟨rfl,H.out.used _,(T_ B w).setCell (p:=(aD b 0)) H.out.1 _⟩
 · have J:=h.cell0
   have H:=uh h;clear h
   go_enter func143,ntmps143
   go_wp2
   rw[Lib.run_neq_ptr_same w _ underlying187 y]
   go_wp2
   go_end0;exact⟨rfl,H.out,T_ B _⟩
theorem YV (B b:Nat)(J:List Value)(s:ByteArray)(w:World)(h:Lib.IsBuilder 189 5 B b J w)(a5:J.length+s.size <= 140737488355328)(a7:B <= w.heap.size):
  Calls prog 92 #[pt b,.string s] w fun e w'=>e=.returned (.tuple #[iV s.size,.nilIface]) /\ (Lib.BuilderAt 189 5 B b (pt b) (J++Lib.strCells s) w' /\ Below B w w'):=by
 obtain⟨i0,hi,a2,a3,a4⟩:=info_parts (show(prog.info? 5).map (fun i=>(i.zero,i.size,i.bytes))=some (some (yV 0),1,1)by kernel_rfl)
 go_enter func92,ntmps92
 go_wp2_with fail
 refine(PZ B b J _ h).mono ?_;rintro e w1 ⟨rfl,h1,M⟩;obtain⟨hB,v,y,N,a1⟩:=h1;have c0:w1.cell? (aD b 0)=some (pt b):=by rw[Yz y];rfl
 have c1:w1.cell? (aD b 1)=some v:=by rw[Yz y];rfl
 go_wp2_with (at_builtin;refine Lib.wpList_append_own_string _ rfl _ _ 32 9 rfl B 5 i0 underlying32 underlying9 hi a2 a3 a4 _ _ _ rfl N s rfl ?c3 ?c4 ?c5 ?_)
 case c3=>unfold maxLen;omega
 case c4=>omega
 case c5=>have:=M.size;omega
 intro v' U G E _
 have a0:b<w1.heap.size:=by
  rcases Nat.lt_or_ge b w1.heap.size with V|V
  ·exact V
  ·simp[Yc V]at y
 have r:U.heap[b]?= some (.cells #[pt b,v] 189 (0,0)):=by
  rw[E.block b a0 (fun e=>a1 e.symm)];exact y
 have d0:U.cell? (aD b 0)=some (pt b):=by rw[Yz r];rfl
 have d1:U.cell? (aD b 1)=some v:=by rw[Yz r];rfl
 have f1:U.frozen? (aD b 1)=false:=Lib.frozen_of_heap r 1
 obtain⟨ao,n',cap,rfl⟩:∃ao n' cap,v'=.slice ao n' cap:=by
  rcases G.2 with⟨Z,_⟩|⟨g,cap,a6,Z,_⟩
  ·exact⟨_,_,_,Z⟩
  ·exact⟨_,_,_,Z⟩
 go_wp2
 go_ret2;refine⟨rfl,?_,?_⟩
 ·exact Lib.BuilderAt.put (T:=189) (e:=5) hB r (bs':=J++Lib.strCells s) (by simpa [Lib.strCells_length]using G) (by decide)
 ·exact(M.grown E (by have:=M.size;omega) (fun k hk=>(N.lt k hk).1)).setCell (p:=(aD b 1)) hB _
end
section
open Go Go.RowKit Go.Shelf Go.IntWalk
abbrev Ug (w : World) : Prop := Lib.TabIs prog w "internal/strconv.uint64pow10" .u64 Lib.pow10Tab
theorem Nn (a b:List UInt8):(⟨a.toArray⟩:ByteArray)++⟨b.toArray⟩=⟨(a++b).toArray⟩:=by
 apply ByteArray.ext
 simp[ByteArray.data_append]
theorem Uu {L:List Blk}{w0:World}(w:World)(T:Turn [] w0 L w)(E:Ug w)(n:Int)(r: -9223372036854775808 <= n)(h1:n <= 9223372036854775807):
  Calls prog 32 #[.int .i64 n] w fun e w'=>e=.returned (.string ⟨(Lib.itoa n).toArray⟩) /\ Turn [] w0 L w':=
 (Tryz.strconv_Itoa n r h1 w E).mono fun e w' ⟨y,k,os,G⟩=>⟨y,by
   subst G;exact T.call (Lib.below_grow _ _ (g_ _) _ _)⟩
end
section
open Go Go.RowKit Go.ChangeShapes Go.WideShapes
theorem jN : prog.globalNamed "internal/strconv.uint64pow10" = some 1 := by kernel_rfl
theorem D6:(prog.globals[1]?).map (·.type)=some 328:= by kernel_rfl
theorem jR:prog.cellsOf 328= 20:=by kernel_rfl
theorem jQ:prog.cellsOf 36= 1:=by kernel_rfl
theorem Eu:(Rows.laid_internal_strconv_uint64pow10:DataW Unit)=Lib.tabData .u64 Lib.pow10Tab:=by kernel_rfl
theorem gJ : prog.globalNamed "skerry/head.fields" = some 0 := by kernel_rfl
theorem D7:(prog.globals[0]?).map (·.type)=some 304:= by kernel_rfl
theorem gQ:prog.cellsOf 303= 2:=by kernel_rfl
theorem U4 {H:Type}{enc:TypeId×Value -> H}{P:Program}{w:World}{base:Nat}{sp:Nat -> Bool}{held:Bool}{r:Nat}{t e u:TypeId}{n:Nat}{E:Array Field}{cs:List Value}{Z:List (DataW H)}{p:List MemPlace}
  (ht:P.underlying t=some (.array n e))(he:P.underlying e=some (.struct E))(hf:E.size=2)(f0:(E[0]?).map (fun f=>(f.type,f.offset))=some (u,0))(f1:(E[1]?).map (fun f=>(f.type,f.offset))=some (u,1))(hu:P.underlying u=some (.int .i64))(a1:P.cellsOf u=1)(a0:P.cellsOf e=2)
  (h:DataW.trod enc P w base sp held r t cs=some (.agg Z,p))(i:Nat)(a b:Int)(hi:i<n)(hd:Z[i]?= some (.agg [.lit (.int .i64 a),.lit (.int .i64 b)])):cs[i*2]?= some (.int .i64 a) /\ cs[i*2+1]?= some (.int .i64 b):=by
 cases r with
 | zero=>simp[DataW.trod]at h
 | succ r=>
  simp only[DataW.trod,ht,a0]at h
  split at h
  · obtain⟨xs,hm,J⟩:=Option.map_eq_some_iff.1 h
    simp only[Prod.mk.injEq,DataW.agg.injEq]at J;obtain⟨J,-⟩:=J;obtain⟨y,hy,hg⟩:=Lib.mapM_at hm i i (by simp[hi])
    have U:y.1=.agg [.lit (.int .i64 a),.lit (.int .i64 b)]:=by
     rw[←J,G_,hy]at hd
     simpa using hd
    obtain⟨N,n',-,a5,a7,a6,a4⟩:=DataW.trod_struct he hg;rw[hf]at a6
    have V:N.map (·.1)=[.lit (.int .i64 a),.lit (.int .i64 b)]:=by
     rw[a5]at U
     simpa using U
    have one:∀(j:Nat) (z:Int),j<2 -> (E[j]?).map (fun f=>(f.type,f.offset))=some (u,j) -> (N.map (·.1))[j]?= some (.lit (.int .i64 z)) -> cs[i*2+j]?= some (.int .i64 z):=by
     intro j z hj a3 M;obtain⟨f,a2,G⟩:=Option.map_eq_some_iff.1 a3;simp only[Prod.mk.injEq]at G;have h1:=a4 j f a2;rw[G.1,G.2,a1]at h1;obtain⟨q,hq⟩:∃q,N[j]?= some q:=⟨N[j]'O,a_ _⟩;rw[hq]at h1;obtain⟨z',hc,hv,-⟩:=DataW.trod_int hu h1;rw[G_,hq]at M;rw[hv]at M;simp at M;subst M;have h3:=Qu (·[0]?) hc;simp[List.getElem?_take,List.getElem?_drop]at h3;exact h3.2
    exact⟨one 0 a O f0 (by rw[V];rfl),one 1 b O f1 (by rw[V];rfl)⟩
  ·cases h
theorem AT {W : World} {rest : List (String × DataW Unit)} (h : laidMet prog (("skerry/head.fields", Rows.laid_skerry_head_fields) :: rest) W) : Fields W := by
 obtain⟨ps,⟨g',t',cs,a0,p,q,N,U,J,hd,_,_⟩,_⟩:=h;obtain rfl:=Option.some.inj (gJ.symm.trans N);obtain rfl:=Option.some.inj (D7.symm.trans U);have E:=fun i a b hi M=>U4 (u:=3) underlying304 underlying303 rfl rfl rfl underlying3 kr gQ hd i a b hi M
 have r:∀(j:Nat) (v:Value),cs.toList[j]?= some v -> W.cell? ⟨0,j,none⟩=some v:=fun j v G=>by
  have:=World.var?_cell gJ J j;rw[this];rw[Zj]at G;exact G
 have V:=E 0 0 2 O rfl;have Z:=E 1 2 12 O rfl;have p2:=E 2 14 2 O rfl;have p3:=E 3 16 24 O rfl;have p4:=E 4 40 24 O rfl;intro j v G;have hj:j<10:=(m_.1 G).1;rw[Q_];have y:j=0∨j=1∨j=2∨j=3∨j=4∨j=5∨j=6∨j=7∨j=8∨j=9:=O;rcases y with rfl|rfl|rfl|rfl|rfl|rfl|rfl|rfl|rfl|rfl<;>cases G
 ·exact r _ _ V.1
 ·exact r _ _ V.2
 ·exact r _ _ Z.1
 ·exact r _ _ Z.2
 ·exact r _ _ p2.1
 ·exact r _ _ p2.2
 ·exact r _ _ p3.1
 ·exact r _ _ p3.2
 ·exact r _ _ p4.1
 ·exact r _ _ p4.2
theorem env9_of (W:World)(G:laidMet prog Rows.auditTellsRow.laid W):Fields W /\ Ug W:=by
 have r:=G.tail.tail;have E:=r.tail
 have y : laidMet prog (("internal/strconv.uint64pow10", Lib.tabData .u64 Lib.pow10Tab) :: (Rows.auditTellsRow.laid.tail.tail.tail)) W := by rw [← Eu]; exact r
 exact⟨AT E,Lib.tabIs_of_head jN D6 underlying328 underlying36 jQ jR y⟩
section
variable {H:Type} {enc:TypeId×Value -> H} {P:Program} {w:World} {base:Nat} {spare:Nat -> Bool} {held:Bool}
end
theorem returns_listed9 {H:Type}{enc:TypeId×Value -> H}{a:Assume}{C:Checked}{os:Os}{f:FuncId}{G:Func}{s:ChangeSpec}{M:List PathCond}{r fresh J U:Bool}{laid:List (String×DataW Unit)}
  (own:ownKnob C.prog.godebug=none)(V:os.Started)(a0:C.prog.inits.idxOf? f=none)(a1:C.prog.funcs[f]?= some G)
  (witness:∃(w:World) (y:Tape) (i:Input),w.os=os /\ (w.forCall y i).Shaped C.prog /\ i.vars=[] /\ Input.okWide C.prog (w.forCall y i) .any w.heap.size f i /\
    ((s.pre enc C.prog G M r (w.forCall y i).memory i.args /\ laidMetH C.prog laid (w.forCall y i).memory) /\ sizedMet enc C.prog G (OpenSpec.ofChange s) r (w.forCall y i).memory i.args) /\ a.holds C.prog (lone (Frame.enter C.prog f i.args .normal) [] (w.forCall y i)))
  (N:∀(W:World) (base:Nat) (args:Array Value) (Z gs:List (DataW H)) (E:List MemPlace),
    (∀(j:Nat) t v,G.params[j]?= some t -> args[j]?= some v -> Value.okWide C.prog W .any base t v) ->
    DataW.Whole enc C.prog G.params.toList s.vars r W args.toList Z gs E ->
    M.all (PathCond.test C.prog ⟨G.params.toList,Z,s.plain.varTypes C.prog,gs⟩)=true ->
    (DataW.weightsEach C.prog (G.params.toList++s.plain.varTypes C.prog) (Z++gs)).all (· <= reachBytes)=true -> laidMetH C.prog laid W ->
    Calls C.prog f args W fun e W'=>∃v,e=.returned v /\ s.post enc C.prog G r fresh J U W args v W'):
  ReturnsInHanded a C os f .any (fun w args=>(s.pre enc C.prog G M r w args /\ laidMetH C.prog laid w) /\ sizedMet enc C.prog G (OpenSpec.ofChange s) r w args) (s.post enc C.prog G r fresh J U):=
 returnsInHanded_of_change_and (X:=fun w _=>laidMetH C.prog laid w) (fun _ _ _ hh hx=>laidMetH.of_heap hh hx) own V a0 a1 witness
  fun W base args Z gs E h1 h2 h3 h4 h5 _=>N W base args Z gs E h1 h2 h3 h4 h5
end
section
open Go Go.RowKit Go.Shelf Go.IntWalk
attribute [local go_sem] Oper.semAt_some
theorem J6 {F:Fence}{n:Nat}{P:Program}{ops:Array Oper}{Q:Exit -> Act -> World -> Prop}{o:Oper}{rest:List Oper}{a:Act}{w:World}(r:Follows F n P)(y:Region.wanted o (yielded ops a.tmps)=true)(hd:∀c,o.op≠ .defer c)
  (h:o.wp P a w (wpListIn F n P ops Q rest) Q):wpListIn F n P ops Q (o::rest) a w:=by
 unfold wpListIn;rw[v_ y];exact r.op o a w _ Q hd h
structure WkAt (w:World)(a aw tb:Nat)(W:List Nat)(tao:Option Addr)(tcap:Nat)(L:List Ty):Prop where
 ar:ArAt w a aw W
 tab:TabAt w tb tao tcap L
 fields:Fields w
theorem WkAt.below {w w':World}{a G tb:Nat}{W:List Nat}{y:Option Addr}{r:Nat}{L:List Ty}(h:WkAt w a G tb W y r L)(E:Below w.heap.size w w'):WkAt w' a G tb W y r L:=
 ⟨h.ar.below E,h.tab.below E,range_below h.fields E⟩
theorem Ab (n:Nat)(a tb:Nat)(w:World):
  CallsIn Fence.wide n prog 210 #[pt a,pt tb] w fun e w'=>e=.returned (.func (.func 237) #[] #[pt w.heap.size,pt (w.heap.size+1)]) /\ w'=(w.alloc (.cells #[pt a] 65)).alloc (.cells #[pt tb] 75):=by
 have r:Fence.wide.fn 210:= trivial;refine Xk func210 rfl r ?_ rfl;simp only[ntmps210,Z_,B_,Qj,Nat.reduceAdd,Nat.reduceSub,S_,R_,Qc,X_,L_,Qd]
 gi_wp2
 go_ret;exact⟨rfl,rfl⟩
end
section
open Go Go.RowKit Go.Shelf
def Ct {α:Type}(B:Nat)(Kp:World -> World -> Prop)(I:List α -> World -> Prop)(xs:List α)(W:World):Exit -> Act -> World -> Prop
 | .normal,_,W'=>KeepsFrom B W W' /\ Kp W W' /\ I xs W'
 | .ret,_,_=>False
 | .exit _,_,_=>False
 | .goto _,_,_=>False
 | .panic _,_,_=>False
 | .outgrown,_,_=>False
section
variable {F:Fence} {n:Nat} {P:Program}
def Uh {α:Type}(F:Fence)(n:Nat)(P:Program)(g:Nat)(lb:Array Value)(encs:α -> Array Value)(Kp:World -> World -> Prop)(Nx:List α -> α -> Prop)(S:List α -> Prop)(G:World -> Prop)(w:World):Prop:=
 ∀(l:Nat) (J:List α -> World -> Prop) (W:World),Below w.heap.size w W -> AbidesFrom W.heap.size J -> (∀pre W,J pre W -> G W) ->
  (∀pre x W1,Nx pre x -> J pre W1 -> YieldAt F (n-1) P l (encs x) W1 fun e W'=>e=.returned (.bool true) /\ J (pre++[x]) W' /\ Kp W1 W') ->
  J [] W ->
  CallsIn F n P g (#[.func (.yield l) #[] #[]]++lb) W fun e W'=>(∃v,e=.returned v) /\ ∃xs,S xs /\ J xs W'
theorem JD {α β:Type}{FA:α -> β -> Act}{g:Operand}{ps:Array Tmp}{assign body:Code}{Q:Exit -> Act -> World -> Prop}{a:Act}{w:World}
  (ax:F.round=none)(h1:1 <= n){gf:Nat}{lb:Array Value}(hg:a.eval g=.func (.func gf) #[] lb)(ak:F.fn gf)(eg:∀args w,(callFunc gf args).run P w=.ok (.enter gf args) w)
  {J:α -> Array Value}{Kp:World -> World -> Prop}{Nx:List α -> α -> Prop}{S:List α -> Prop}{G:World -> Prop}{w0:World}(ah:Uh F (n-1) P gf lb J Kp Nx S G w0)
  (a0:∀{A B C:World},Kp A B -> Kp B C -> Kp A C)(a2:∀(W:World) (l:Nat) (o o':Obj),w.heap.size <= l -> W.heap[l]?= some o -> o.isCells=false -> o.isWalk=false -> Kp W (W.putObj l o'))(a4:Below w0.heap.size w0 w)(av:∀x,(J x).size=ps.size)
  (I:List α -> World -> Prop)(M:α -> β -> List α -> World -> Prop)(hI:OwnFrom w.heap.size I)(hM:∀x E,OwnFrom w.heap.size (M x E))(h0:I [] w)(hG:∀pre W,I pre W -> G W)
  (hassign:∀(l:Nat) (pre:List α) (x:α) (W:World),Nx pre x -> I pre W ->
    assign.wpIn (F.inRound l) (n-1-1) P (Exit.then (fun a' W'=>KeepsFrom w.heap.size W W' /\ Kp W W' /\ ∃E,a'=FA x E /\ M x E pre W') (fun _ _ _=>False)) { tmps:=(ps.zip (J x)).foldl (fun t (p,v)=>t.setIfInBounds p v) a.tmps,defers:=[] } W)
  (hbody:∀(l:Nat) (pre:List α) (x:α) (E:β) (W:World),Nx pre x -> M x E pre W -> body.wpIn (F.inRound l) (n-1-1) P (Ct w.heap.size Kp I (pre++[x]) W) (FA x E) W)
  (hdone:∀(D:Nat) (xs:List α) (W:World),w.heap.size <= D -> S xs -> I xs W -> W.heap[D]?= some (.deferred (some [])) -> Q .normal { a with defers:={ target:=.collected D,args:=#[] }::a.defers } W):
  (Code.rangeFunc g ps assign body).wpIn F n P Q a w:=by
 refine wpIn_rangeFunc fun fn an=>?_;rw[ax]
 let rc:LoopState -> Option Code -> Loop:=fun st pe=>{ state:=st,pending:=pe,fn,tmps:=a.tmps,params:=ps,assign,body,defers:=w.heap.size }
 have aj:((w.alloc (.deferred (some []))).alloc (.loop (rc .ready none))).heap.size=w.heap.size+2:=by simp
 have aa:Marks w.heap.size (rc .ready none) ((w.alloc (.deferred (some []))).alloc (.loop (rc .ready none))):=by
  refine⟨(Below.heap_alloc _ _ _ (by simp)).trans (World.alloc_heap_new w _),?_⟩;have:=World.alloc_heap_new (w.alloc (.deferred (some []))) (.loop (rc .ready none))
  rwa [Y_]at this
 have a8:I [] ((w.alloc (.deferred (some []))).alloc (.loop (rc .ready none))):=hI.alloc _ (hI.alloc _ h0);have a5:Below w0.heap.size w0 ((w.alloc (.deferred (some []))).alloc (.loop (rc .ready none))):=a4.trans ((((T_ _ w).alloc (g_ _) _).alloc (by simp) _).mono a4.size);have N:=run_enterLoop_outer (P:=P) (w:=w) fn a.tmps ps assign body
 change _=Result.ok _ ((w.alloc (.deferred (some []))).alloc (.loop (rc .ready none)))at N
 generalize((w.alloc (.deferred (some []))).alloc (.loop (rc .ready none)))=Z at aj aa a8 a5 N
 refine⟨w.heap.size+1,[{ target:=.collected w.heap.size,args:=#[] }],Z,{ target:=.fn (.func gf) lb,args:=#[.func (.yield (w.heap.size+1)) #[] #[]] },Z,gf,
  #[.func (.yield (w.heap.size + 1)) #[] #[]] ++ lb, Z, N, ?_, ?_, ?_, fun _ => h1, ?_⟩
 · simp only[resolve,hg]
   simp[go_sem]
 ·intro f' a6;simp[Target.leads]at a6;subst a6;exact ak
 ·simp[invoke,go_sem,eg]
 have ag:∀{A:World} {row:Option Nat},(∀r,row=some r -> Z.heap.size <= r /\ ∃o:Obj,A.heap[r]?= some o /\ o.isWalk=true) -> (∀r,row=some r -> w.heap.size <= r /\ ∃o:Obj,A.heap[r]?= some o /\ o.isCells=false):=
  fun hr r e=>by obtain⟨hB,o,ho,hw⟩:=hr r e;exact⟨by omega,o,ho,Obj.not_cells_of_walk hw⟩
 refine(ah (w.heap.size+1) (fun pre W=>I pre W /\ Marks w.heap.size (rc .ready none) W) Z a5
  (fun s A B row hs a7 hr=>⟨hI s A B row hs.1 a7 (ag hr),hs.2.grown a7 fun j e=>(hr j e).2⟩) (fun pre W h=>hG pre W h.1) ?_ ⟨a8,aa⟩).mono ?_
 · rintro pre x W ac ⟨hi,V⟩
   refine⟨fn,_,assign,body,run_yield V.loop (av x),roundIn_of_wpIn an (wpIn_mono (hassign _ pre x W ac hi) ?_)⟩;rintro e a' Wa y
   cases e with
   | normal=>
    obtain⟨aq,af,E,ha,am⟩:=y;subst ha;have U:=V.keeps aq;refine⟨_,run_beginRound U.loop rfl,?_⟩;have ab:=U.put (rc .busy none);have au:Kp W (Wa.putObj (w.heap.size+1) (.loop (rc .busy none))):=a0 af (a2 _ _ _ _ (Zh _) U.loop rfl rfl);refine wpIn_mono (hbody _ pre x E _ ac ((hM x E).putObj _ am (Zh _) U.loop rfl)) ?_;rintro e a3 W3 y
    cases e with
    | normal=>
     obtain⟨a9,ae,ap⟩:=y;have a1:=(ab.keeps a9).loop;exact⟨_,_,run_endRound (P:=P) none a1,rfl,⟨hI.putObj _ ap (Zh _) a1 rfl,(ab.keeps a9).put _⟩,a0 (a0 au ae) (a2 _ _ _ _ (Zh _) a1 rfl rfl)⟩
    | ret=>exact y.elim
    | exit id=>exact y.elim
    | goto t=>exact y.elim
    | panic ch=>exact y.elim
    | outgrown=>exact y.elim
   | ret=>exact y.elim
   | exit id=>exact y.elim
   | goto t=>exact y.elim
   | panic ch=>exact y.elim
   | outgrown=>exact y.elim
 · rintro e W2 ⟨⟨v,rfl⟩,xs,hS,hi,V⟩
   exact⟨none,_,run_endLoop (P:=P) V.loop (by simp[rc]),hdone _ xs _ (g_ _) hS (hI.putObj _ hi (Zh _) V.loop rfl) ((World.putObj_heap_other O).trans V.dfr)⟩
end
structure KpD (n₀:Nat)(D:World -> Nat -> Prop)(A B:World):Prop where
 below:Below n₀ A B
 size:A.heap.size <= B.heap.size
 same:∀b o,A.heap[b]?= some o -> o.isCells=true -> ¬D A b -> B.heap[b]?= some o
 own:∀b,b<A.heap.size -> D B b -> D A b
theorem KpD.t {n₀:Nat}{D:World -> Nat -> Prop}{A B C:World}(h:KpD n₀ D A B)(k:KpD n₀ D B C):KpD n₀ D A C:=
 ⟨h.below.trans k.below,Qf h.size k.size,fun b o h1 h2 r=>k.same b o (h.same b o h1 h2 r) h2 (fun hd=>r (h.own b (Qk h1) hd)),fun b y hd=>h.own b y (k.own b (Zt y h.size) hd)⟩
theorem KpD.b {n₀:Nat}{D:World -> Nat -> Prop}{w:World}(J:n₀ <= w.heap.size)(G:∀W l o',w.heap.size <= l -> ∀b,D (W.putObj l o') b -> D W b)(W:World)(l:Nat)(o o':Obj)(E:w.heap.size <= l)(h:W.heap[l]?= some o)(y:o.isCells=false)(M:o.isWalk=false):KpD n₀ D W (W.putObj l o'):=by
 refine⟨belowK_b J W l o o' E h y M,(grownBy_putObj' W l o').size,fun b N h1 h2 _=>?_,fun b _ hd=>G W l o' E b hd⟩
 by_cases r:b=l
 · subst r
   rw[h]at h1
   cases h1
   rw[y]at h2
   cases h2
 · rw[World.putObj_heap_other r]
   exact h1
theorem KpD.of {n₀:Nat}{D:World -> Nat -> Prop}{L L':List Blk}{A B:World}(h:Turn L A L' B)(M:n₀ <= A.heap.size)(y:∀b∈keys L,n₀ <= b /\ D A b)(G:∀b,b<A.heap.size -> D B b -> D A b):KpD n₀ D A B:=
 ⟨⟨h.os,h.tape,h.output,h.size,fun b J=>h.same b (Zt J M) (fun r=>by have:=(y b r).1;omega)⟩,
  h.size,fun b o h1 _ E=>(h.same b (Qk h1) (fun r=>E (y b r).2)).trans h1,G⟩
theorem Turn.grownC {l L:List Blk}{w W W':World}{B:Nat}{row:Option Nat}(h:Turn l w L W)(hB:w.heap.size <= B)(V:∀x∈L,x.2.isCells=true∨x.1<B)(y:W.grownBy W' row)(U:∀r,row=some r -> B <= r /\ ∃o:Obj,W.heap[r]?= some o /\ o.isCells=false):Turn l w L W':=by
 have N:∀b o,(b,o)∈L -> some b≠row:=fun b o E M=>by
  obtain⟨G,o',J,Z⟩:=U b M.symm;have h1:=h.has.own b o E;rw[h1]at J
  cases J
  rcases V _ E with h2|h2
  · rw[Z]at h2
    cases h2
  ·exact absurd h2 (Nat.not_lt.2 G)
 refine⟨y.os.trans h.os,y.tape.trans h.tape,y.output.trans h.output,Qf h.size y.size,⟨h.has.nd,fun b o E=>?_⟩,h.new,fun b G hn=>?_⟩
 · rw[y.block b (Qk (h.has.own b o E)) (N b o E)]
   exact h.has.own b o E
 · rw[y.block b (Zt G h.size) (fun M=>by have:=(U b M.symm).1;omega)]
   exact h.same b G hn
def KF (n4:Nat)(A:World)(b:Nat):Prop:=b=n4∨∃k cap t,A.heap[n4]?= some (.cells #[.slice (some (aD b 0)) k cap] t)
def F6 (n4 Bs:Nat)(A:World):Prop:=∀b,KF n4 A b -> b<A.heap.size /\ b≠Bs
theorem KF.old {r Bs:Nat}{A B:World}{b:Nat}(E:F6 r Bs A)(y:Below A.heap.size A B)(h:KF r B b):KF r A b:=by
 rcases h with h|⟨k,cap,t,h⟩
 ·exact .inl h
 · refine .inr ⟨k,cap,t,?_⟩
   rw[←y.block r (E r (.inl rfl)).1];exact h
theorem KF.put {r:Nat}{W:World}{l b:Nat}(y:r<l)(o':Obj)(h:KF r (W.putObj l o') b):KF r W b:=by
 rcases h with h|⟨k,cap,t,h⟩
 ·exact .inl h
 · refine .inr ⟨k,cap,t,?_⟩
   rw[World.putObj_heap_other O]at h;exact h
theorem Mg {e G J:TypeId}{size n cap:Nat}{xs:List Value}{ao:Option Addr}{y:List Blk}{E Bs:Nat}{v:Value}(h:Gh e size ao n cap xs y):∀x∈y++[(E,.cells #[.slice ao n cap] G),(Bs,.cells #[v] J)],x.2.isCells=true:=fun x r=>by
 rcases s_.1 r with r|r
 ·exact h.cells x r
 · simp only[t_,Zu,or_false]at r
   rcases r with rfl|rfl<;>rfl
theorem Kf {e G:TypeId}{size n cap:Nat}{xs:List Value}{ao:Option Addr}{y:List Blk}{E:Nat}(h:Gh e size ao n cap xs y):∀x∈y++[(E,.cells #[.slice ao n cap] G)],x.2.isCells=true:=fun x r=>by
 rcases s_.1 r with r|r
 ·exact h.cells x r
 · simp only[t_,Zu,or_false]at r
   rw[r];rfl
theorem SD {e J U:TypeId}{size n cap:Nat}{xs:List Value}{ao:Option Addr}{G:List Blk}{E Bs:Nat}{v:Value}{w W:World}(h:Gh e size ao n cap xs G)(T:Turn [] w (G++[(E,.cells #[.slice ao n cap] J),(Bs,.cells #[v] U)]) W):F6 E Bs W:=by
 intro b r;have y:=T.has.nd;rcases r with rfl|⟨k,M,t,r⟩
 · refine⟨T.has.lt (by simp[keys]),?_⟩
   intro N;rw[GN,Yt]at y;simp[keys,N]at y
 · have h1:=T.has.own E _ (by simp:(E,Obj.cells #[.slice ao n cap] J)∈_)
   rw[h1]at r;simp only[Option.some.injEq,Obj.cells.injEq,Array.mk.injEq,List.cons.injEq,Value.slice.injEq]at r;obtain⟨⟨⟨rfl,rfl,rfl⟩,-⟩,-⟩:=r;rcases h.2.2.2 with⟨h2,-⟩|⟨g,V,h2,rfl,-⟩
   ·cases h2
   · cases h2
     refine⟨T.has.lt (by simp[keys]),?_⟩;rintro rfl;simp[keys]at y
theorem KpD.res {n₀ y:Nat}{e N:TypeId}{size n cap n' G:Nat}{xs a1:List Value}{ao U:Option Addr}{M V Y:List Blk}{A B:World}(h1:Gh e size ao n cap xs M)(h2:Gh e size U n' G a1 V)
  (K:Turn (M++[(y,.cells #[.slice ao n cap] N)]) A ((y,.cells #[.slice U n' G] N)::(V++Y)) B)(hH:Has A (M++[(y,.cells #[.slice ao n cap] N)]))(hn:n₀ <= y)(hl:∀b∈keys M,n₀ <= b):KpD n₀ (KF y) A B:=by
 have a2:=hH.lt (b:=y) (by simp[keys])
 have J:∀b∈keys M,KF y A b:=by
  intro b r;rcases h1.2.2.2 with⟨-,-,rfl⟩|⟨g,a0,rfl,rfl,-⟩
  ·cases r
  · have:b=g:=by simpa [keys]using r
    subst this;exact .inr ⟨n,cap,N,hH.own y _ (by simp)⟩
 refine KpD.of K O (fun b r=>?_) (fun b r hd=>?_)
 · rw[GN,s_]at r
   rcases r with r|r
   ·exact⟨hl b r,J b r⟩
   · have:b=y:=by simpa [keys]using r
     exact⟨by omega,.inl this⟩
 · rcases hd with hd|⟨k,c,t,hd⟩
   ·exact .inl hd
   · rw[K.has.own y _ (d_ ..)]at hd
     simp only[Option.some.injEq,Obj.cells.injEq,Array.mk.injEq,List.cons.injEq,Value.slice.injEq]at hd;obtain⟨⟨⟨rfl,rfl,rfl⟩,-⟩,-⟩:=hd;rcases h2.2.2.2 with⟨Z,-⟩|⟨g,a0,Z,rfl,-⟩
     ·cases Z
     · cases Z
       rcases K.new b (by simp[keys])with E|E
       · rw[GN,s_]at E
         rcases E with E|E
         ·exact J b E
         ·exact .inl (by simpa [keys]using E)
       ·omega
end
section
open Go Go.RowKit Go.Shelf Go.IntWalk
attribute [local go_sem] Oper.semAt_some
end
section
open Go Go.RowKit Go.Shelf
def Re (g:Nat)(A:World)(b:Nat):Prop:=b=g∨∃c f t k cap,A.heap[g]?= some (.cells c t f) /\ c[3]?= some (.slice (some (aD b 0)) k cap)
def DC (g Bs Bt:Nat)(A:World):Prop:=∀b,Re g A b -> b<A.heap.size /\ b≠Bs /\ b≠Bt
theorem Re.old {g Bs r:Nat}{A B:World}{b:Nat}(E:DC g Bs r A)(y:Below A.heap.size A B)(h:Re g B b):Re g A b:=by
 rcases h with h|⟨c,f,t,k,cap,h,h2⟩
 ·exact .inl h
 · refine .inr ⟨c,f,t,k,cap,?_,h2⟩
   rw[←y.block g (E g (.inl rfl)).1];exact h
theorem Re.put {g:Nat}{W:World}{l b:Nat}(r:g<l)(o':Obj)(h:Re g (W.putObj l o') b):Re g W b:=by
 rcases h with h|⟨c,f,t,k,cap,h,h2⟩
 ·exact .inl h
 · refine .inr ⟨c,f,t,k,cap,?_,h2⟩
   rw[World.putObj_heap_other O]at h;exact h
theorem ZK {e Z:TypeId}{size n cap:Nat}{xs:List Value}{ao:Option Addr}{M:List Blk}{g m p Bs G:Nat}{J:Array Value}{f:Nat×Nat}{ob op os V:Obj}{w W:World}(h:Gh e size ao n cap xs M)(U:J[3]?= some (.slice ao n cap))
  (T:Turn [] w ((g,.cells J Z f)::(m,ob)::(M++[(p,op),(Bs,os),(G,V)])) W):DC g Bs G W:=by
 intro b y;have r:=T.has.nd;rcases y with rfl|⟨c,f',t,k,N,y,E⟩
 · refine⟨T.has.lt (by simp[keys]),?_,?_⟩
   ·rintro rfl;simp[keys]at r
   ·rintro rfl;simp[keys]at r
 · rw[T.has.own g _ (d_ ..)]at y
   simp only[Option.some.injEq,Obj.cells.injEq]at y;obtain⟨rfl,-,-⟩:=y;rw[U]at E;simp only[Option.some.injEq,Value.slice.injEq]at E;obtain⟨rfl,-,-⟩:=E;rcases h.2.2.2 with⟨h2,-⟩|⟨q,a0,h2,rfl,-⟩
   ·cases h2
   · cases h2
     refine⟨T.has.lt (by simp[keys]),?_,?_⟩
     ·rintro rfl;simp[keys]at r
     ·rintro rfl;simp[keys]at r
theorem KpD.of2 {n₀:Nat}{D:World -> Nat -> Prop}{L L':List Blk}{A B:World}(h:Turn L A L' B)(N:Has A L)(Z:n₀ <= A.heap.size)(J:∀x∈L,n₀ <= x.1 /\ (D A x.1∨x.2.isCells=false))(U:∀b,b<A.heap.size -> D B b -> D A b):KpD n₀ D A B:=
 ⟨⟨h.os,h.tape,h.output,h.size,fun b V=>h.same b (Zt V Z) (fun E=>by obtain⟨o,y⟩:=GE.1 E;have:=(J _ y).1;simp only at this;omega)⟩,
  h.size,fun b o h1 h2 M=>(h.same b (Qk h1) (fun E=>by
   obtain⟨o',y⟩:=GE.1 E;rcases(J _ y).2 with r|r
   ·exact M r
   · have G:=N.own b o' y
     rw[h1]at G
     cases G
     simp only at r;rw[h2]at r
     cases r)).trans h1,U⟩
theorem KpD.resE {n₀ g m:Nat}{e N:TypeId}{size n cap n' E:Nat}{xs a5:List Value}{ao U:Option Addr}{M a0 Y:List Blk}{G V:Array Value}{ob a4:Obj}{A B:World}(h1:Gh e size ao n cap xs M)(h2:Gh e size U n' E a5 a0)(a3:ob.isCells=false)
  (hg:G[3]?= some (.slice ao n cap))(a2:V[3]?= some (.slice U n' E))
  (K:Turn ((g,.cells G N)::(m,ob)::M) A ((g,.cells V N)::(m,a4)::(a0++Y)) B)(hH:Has A ((g,.cells G N)::(m,ob)::M))(hn:∀b∈keys ((g,.cells G N)::(m,ob)::M),n₀ <= b):KpD n₀ (Re g) A B:=by
 have a7:=hH.lt (b:=g) (by simp[keys]);have a6:=hn g (by simp[keys])
 have J:∀b∈keys M,Re g A b:=by
  intro b hb;rcases h1.2.2.2 with⟨-,-,rfl⟩|⟨q,a1,rfl,rfl,-⟩
  ·cases hb
  · have:b=q:=by simpa [keys]using hb
    subst this;exact .inr ⟨G,(0,0),N,n,cap,hH.own g _ (by simp),hg⟩
 refine KpD.of2 K hH O (fun x y=>⟨hn x.1 (GE.2 ⟨x.2,y⟩),?_⟩) (fun b hb hd=>?_)
 · rcases t_.1 y with rfl|y
   ·exact .inl (.inl rfl)
   rcases t_.1 y with rfl|y
   ·exact .inr a3
   ·exact .inl (J x.1 (GE.2 ⟨x.2,y⟩))
 · rcases hd with hd|⟨c,f,t,k,cp,hd,hc⟩
   ·exact .inl hd
   · rw[K.has.own g _ (d_ ..)]at hd
     simp only[Option.some.injEq,Obj.cells.injEq]at hd;obtain⟨rfl,-,-⟩:=hd;rw[a2]at hc;simp only[Option.some.injEq,Value.slice.injEq]at hc;obtain⟨rfl,-,-⟩:=hc;rcases h2.2.2.2 with⟨h3,-⟩|⟨q,a1,h3,rfl,-⟩
     ·cases h3
     · cases h3
       rcases K.new b (by simp[keys])with r|r
       · have Z:=K.has.nd
         simp only[keys,Zn,t_]at r;rcases r with r|r|r
         ·exact .inl r
         · rw[r]at Z
           simp[keys]at Z
         ·exact J b r
       ·omega
theorem Turn.keepsFrom {L L':List Blk}{W W':World}{B:Nat}(h:Turn L W L' W')(E:Has W L)(J:∀x∈L,x.2.isCells=true∨x.1<B):KeepsFrom B W W':=
 ⟨h.size,fun k o G y N=>(h.same k (Qk y) (fun M=>by
  obtain⟨o',r⟩:=GE.1 M;have h1:=E.own k o' r;rw[y]at h1
  cases h1
  rcases J _ r with h2|h2
  · rw[N]at h2
    cases h2
  ·exact absurd h2 (Nat.not_lt.2 G))).trans y⟩
section
variable {P:Program} {w:World} {ops:Array Oper} {o:Oper} {a:Act} {K:Act -> World -> Prop} {Q:Exit -> Act -> World -> Prop} {q:IntKind} {mp:List (Int×Value)} {b:Nat} {ob:Obj}
theorem Vb {E:Prop}(y:o.guard=none)(m x v:Operand)(t:TypeId)(M:o.op=Op.mapUpdate t m x v)(kt e:TypeId)(ht:P.underlying t=some (.map kt e))(V:P.underlying kt=some (.int q))
  (Z:a.eval m=.map (some b))(U:w.heap[b]?= some ob)(G:JK q mp ob)(k:Int)(hx:a.eval x=.int q k)(u:Value)(hv:a.eval v=u)
  (N:∀o',JK q (Lu mp k u) o' -> K (a.put o.dst undef) { w with heap:=w.heap.setIfInBounds b o' }):if Region.wanted o (yielded ops a.tmps)=true then Oper.wp P o a w K Q else E:=by
 have hw:Region.wanted o (yielded ops a.tmps)=true:=by simp[Region.wanted,y]
 rw[v_ hw];obtain⟨o',J,r⟩:=S6 U G ht V k u;unfold Oper.wp;simp only[execOp,M,Z,hx,hv,r,Sem.run_bind,Xd,Sem.run_pure];exact N o' J
end
def Tj (l:List Nat):List (Int×Value):=l.foldl (fun(m:List (Int×Value)) (g:Nat)=>Lu m (g:Int) (.bool true)) []
theorem UD (l:List Nat)(g:Nat):Tj (l++[g])=Lu (Tj l) (g:Int) (.bool true):=by unfold Tj;rw[List.foldl_append];rfl
theorem UE:∀(l:List Nat) (m:List (Int×Value)) (k:Nat),LV (l.foldl (fun(m:List (Int×Value)) (g:Nat)=>Lu m (g:Int) (.bool true)) m) (k:Int)=if k∈l then some (.bool true)else LV m (k:Int)
 | [],m,k=>by simp
 | g::l,m,k=>by
  rw[List.foldl_cons,UE l,CH]
  by_cases h:k∈l
  ·rw[v_ h,v_ (by simp[h])]
  · rw[y_ h]
    by_cases r:k=g
    · subst r
      rw[v_ rfl,v_ (by simp)]
    ·rw[y_ O,y_ (by simp[h,r])]
theorem Th (l:List Nat)(k:Nat):LV (Tj l) (k:Int)=if k∈l then some (.bool true)else none:=UE l [] k
theorem Vp {q:IntKind}{m:List (Int×Value)}{o:Obj}(h:JK q m o):o.isCells=false:=by
 obtain⟨r,c,rfl,-⟩:=h
 rfl
theorem Dt (pre:List Ce)(x:Ce):ats (pre++[x])=ats pre++if x.2.tag=1 then [x.1]else []:=by
 have h:=Np (cs:=pre++[x]) (i:=pre.length) (c:=x) (by simp);rw[Xp (by simp),List.take_left']at h
 ·exact h
 ·rfl
theorem EY (cs:List Ce):(ats cs).length <= cs.length:=by
 unfold ats objs;rw[n_];exact Zm ..
end
section
open Go Go.RowKit Go.Shelf Go.IntWalk
attribute [local go_sem] Oper.semAt_some
theorem Bu {F:Fence}{n:Nat}{P:Program}{c:Code}{Q:Exit -> Act -> World -> Prop}{a:Act}{w:World}(I:World -> Prop)(r:I w)(h:∀W,I W -> c.wpIn F n P Q a W):c.wpIn F n P Q a w:=h w r
theorem WN (pre:List Ce)(x:Ce):Gg 0 (pre++[x])=x.1+x.2.size:=R3 pre x 0
end
section
open Go Go.RowKit Go.Shelf Go.IntWalk
attribute [local go_sem] Oper.semAt_some
theorem Ut {L:List Ty}{W:List Nat}{g:Nat}{h:Hd}(r:JX W g=some h)(J:Ka L h=0)(M:g+h.size <= W.length/2):JH L W g h:=by
 have h2:=L8 r;have y:g<W.length/2:=by have:=h2.2.2.1;omega
 obtain⟨v,E⟩:∃v,W[2*g]?= some v:=⟨_,a_ (by omega:2*g<W.length)⟩;obtain⟨G,N⟩:=LZ y E;rw[G]at r;exact⟨⟨v,E,r⟩,(MS L h).1 J,M⟩
def Ky (L:List Ty)(W:List Nat)(en:Nat):Prop:=en=W.length/2∨(en<W.length/2 /\ ∀h,¬JH L W en h)
theorem Bv (n:Nat)(hn:2 <= n)(wb:World)(a aw tb:Nat)(W:List Nat)(bd:Option Addr)(aR:Nat)(L:List Ty)(hA:WkAt wb a aw tb W bd aR L)(hf:W.length <= 65536)(hu:∀v∈W,v<18446744073709551616)(b5:∀t∈L,TyIn t)(hL:L.length <= 1000)
  (cs:List Ce)(en:Nat)(hC:Chain L W 0 cs en)(hE:Ky L W en)(Bs Bt:Nat)(D:World -> Nat -> Prop)(G:World -> Prop)(aJ:∀A,G A -> ∀b,D A b -> b<A.heap.size /\ b≠Bs /\ b≠Bt)(aH:∀A B b,G A -> Below A.heap.size A B -> D B b -> D A b)(w:World)(hw:Below wb.heap.size wb w)(aF:w.heap[Bs]?= some (.cells #[pt a] 65))(aG:w.heap[Bt]?= some (.cells #[pt tb] 75)):
  Uh Fence.wide n prog 237 #[pt Bs,pt Bt] Mr (KpD wb.heap.size D) (fun pre x=>∃a2,cs=pre++x::a2) (fun xs=>xs=cs) G w:=fun l J W0 hW hJ hG hY h0=>by
 have aE:W0.heap[Bs]?= some (.cells #[pt a] 65):=(hW.block Bs (Qk aF)).trans aF;have a3:W0.heap[Bt]?= some (.cells #[pt tb] 75):=(hW.block Bt (Qk aG)).trans aG;have aQ:Below wb.heap.size wb W0:=hw.trans (hW.mono hw.size);have aC:=uh hw.size;have bk:=hW.size;have bj:Fence.wide.fn 237:= trivial;have bz:Fence.wide.fn 123:= trivial;have bA:Fence.wide.fn 83:= trivial;have bB:Fence.wide.fn 85:= trivial;refine Xk func237 rfl bj ?_ rfl;simp only[ntmps237,Z_,B_,Qj,Nat.reduceAdd,Nat.reduceSub,S_,R_,Qc,X_,L_,Qd];have h1:1 <= n:=O;have h2:1 <= n-1:=O;have HY:=uh hY;have HJ:=uh hJ;have a1:=Gr;have b1:=uh (F2 W0 (hA.below aQ).ar);have b0:=uh (fun w' (hB:Below wb.heap.size wb w') (g:Int)=>Wb w' (hA.below hB).fields (hA.below hB).ar hu g);have aZ:=uh (fun w' (hB:Below wb.heap.size wb w') h hi=>ZU w' (hA.below hB).fields L b5 hL tb bd aR (hA.below hB).tab h hi);have HA:=uh hA;have HC:=uh hC;have bt:=hC.len
 have b8:en <= W.length/2:=by
  rcases hE with h|h<;>omega
 have aW:=uh (fun(g:Nat) (h:Hd) (hs:∀h,¬JH L W g h) (hh:JX W g=some h)=>(fun hb=>hs h (Ut hh hb.1 hb.2):¬(Ka L h=0 /\ g+h.size <= W.length/2)));have HE:=uh hE;have aL:((W.length:Int)).tdiv 2=((W.length/2:Nat):Int):=GC _ 2;have aA:(W.length:Int)/2=((W.length/2:Nat):Int):=O;obtain⟨z,hz⟩:∃z:Nat,W.length/2=z:=⟨_,rfl⟩;have bE:z <= 32768:=O;unfold Ky at HE;rw[hz]at HE aL aA b8 aW;have b2:=uh aQ;have aU:=uh aE;have aY:=uh a3;have HG:=uh hG;have q1:W0.cell? (aD Bs 0)=some (pt a):=(Has.one aE).cell (d_ ..) 0;clear hY hJ hG hW hw aF aG aE a3 aQ hA hu b5 hC hE hz
 gi_wp2_with (first
  | (gi_at_call 123;refine(N_.2 b1.out).mono ?_;rintro e w' ⟨rfl,hw⟩;rw[hw];clear hw w')
  | fail)
 clear q1 b1 aL aA
 gi_loopw [5] (fun v5 wr=>∃(pre a2:List Ce) (g:Nat),cs=pre++a2 /\ v5=iV g /\ Chain L W g a2 en /\ J pre wr /\ Below wb.heap.size wb wr /\ wr.heap[Bs]?= some (.cells #[pt a] 65) /\ wr.heap[Bt]?= some (.cells #[pt tb] 75) /\ w.heap.size <= wr.heap.size) (fun v5 _=>z+1-(intOf v5).toNat)
 case atStart=>exact⟨[],cs,0,rfl,by go_num,HC.out,h0,b2.out,aU.out,aY.out,bk⟩
 case round=>
  clear HC h0 b2 aU aY;obtain⟨pre,a2,g,ag,rfl,b7,ap,ab,am,au,aB⟩:=hrel;have af:wr.cell? (aD Bs 0)=some (pt a):=(Has.one am).cell (d_ ..) 0;have aj:wr.cell? (aD Bt 0)=some (pt tb):=(Has.one au).cell (d_ ..) 0
  cases a2 with
  | nil=>
   obtain rfl:g=en:=b7;rw[p_]at ag;have HX:=uh (⟨ag.symm,ap⟩:pre=cs /\ J pre wr);rcases HE.out with bp|⟨bn,aP⟩
   · have bD:¬(g:Int)<(z:Int):=O
     clear ap ag ab am au bp
     gi_wp2_with fail
     go_end0;exact⟨⟨_,rfl⟩,by have h:=HX.out.2;rw[HX.out.1]at h;exact h⟩
   · have k4:(g:Int)<(z:Int):=O
     have a0:=uh (b0.out wr ab g);have a3:=uh (r_ (C_ wr))
     cases hh:JX W g with
     | none=>
      have bs:=LF hh;rw[hh]at a0;generalize K0 W g=er at*;simp only[Jj]at a0;have bu:(er != 0)=true:=Qe.2 bs;obtain⟨x0,bc⟩:∃x,AM=x:=⟨_,rfl⟩;rw[bc]at a0;clear bc;obtain⟨E,M,N,y⟩:=x0;have a9:=GP ⟨E,M,N,y⟩;simp only at a9;clear ap ag ab am au aP hh bn
      gi_wp2_with (first
       | (gi_at_call 83;refine(N_.2 a0.out).mono ?_;rintro e w1 ⟨rfl,a6⟩;have T2:=(a3.out.call a6).alloc zH;have a8:(w1.alloc zH).there w1.heap.size 0 4:=T2.there1;have a4:=uh (T2.laid [yV E,iV M,iV N,iV y] rfl);clear a6 T2)
       | (show wpListIn _ _ _ _ _ (⟨_,Op.store 125 _ _,_,_,_,_⟩::_) _ _;refine Gj (Gc _ _) rfl (by intro c h;cases h) (wp_store_mid 125 _ _ rfl _ 0 #[yV E,iV M,iV N,iV y] rfl rfl a8 a1 a9 ?_);clear a8;generalize(w1.alloc zH).setCells w1.heap.size 0 [yV E,iV M,iV N,iV y]=w5 at*;generalize w1.heap.size=U at*;have Z:=uh a4.out;clear a4 af aj a0 a3)
       | (show wpListIn _ _ _ _ _ (⟨_,Op.call _,_,_,_,_⟩::_) _ _;refine wpListIn_skip (by rfl) (by rfl) ?_)
       | fail)
      refine f_ (Zg rfl _ _ _) rfl ?_;exact⟨⟨_,rfl⟩,cs,rfl,by have h:=HJ.out pre wr _ none HX.out.2 (Gn Z.out.below) (fun r e=>by cases e);rw[HX.out.1]at h;exact h⟩
     | some h=>
      obtain⟨hm,bq,br,bm⟩:=L8 hh;have ax:=aW.out g h aP hh;rw[hh,bm]at a0;simp only[Zc]at a0;have av:=uh (fun w' (hB:Below wr.heap.size wr w')=>aZ.out w' (ab.trans (hB.mono (Qf aC.out aB))) h (M8 hm));generalize Ka L h=fe at*;have bf:=hm.2.1;obtain⟨E,M,N,y⟩:=h;have a9:=GP ⟨E,M,N,y⟩;simp only at a9 ax bf
      have HS:=uh (fun w' U (V:Turn [] wr [(U,.cells #[yV E,iV M,iV N,iV y] 125)] w')=>
       (⟨(V.below.cell (p:=(aD Bs 0)) (c_ wr _ af)).trans af,(V.below.cell (p:=(aD Bt 0)) (c_ wr _ aj)).trans aj,V.range1⟩:w'.cell? (aD Bs 0)=some (pt a) /\ w'.cell? (aD Bt 0)=some (pt tb) /\ w'.rangeAt U 0 [yV E,iV M,iV N,iV y]))
      clear ap ag ab am au aP hh bq br hm
      by_cases b9:fe=0
      · subst b9
        have bv:¬g+y <= z:=fun h=>ax ⟨rfl,h⟩;have k1:IntKind.i64.wrap ((z:Int)-(g:Int))=(z:Int)-(g:Int):=i64_in _ O;have k3:((z:Int)-(g:Int))<(y:Int):=O;have k2:decide (((z:Int)-(g:Int))<(y:Int))=true:=k_ k3;clear ax
        gi_wp2_with (first
        | (gi_at_call 83;refine(N_.2 a0.out).mono ?_;rintro e w1 ⟨rfl,a6⟩;have T2:=(a3.out.call a6).alloc zH;have a8:(w1.alloc zH).there w1.heap.size 0 4:=T2.there1;have a4:=uh (T2.laid [yV E,iV M,iV N,iV y] rfl);clear a6 T2)
        | (show wpListIn _ _ _ _ _ (⟨_,Op.store 125 _ _,_,_,_,_⟩::_) _ _;refine Gj (Gc _ _) rfl (by intro c h;cases h) (wp_store_mid 125 _ _ rfl _ 0 #[yV E,iV M,iV N,iV y] rfl rfl a8 a1 a9 ?_);clear a8;generalize(w1.alloc zH).setCells w1.heap.size 0 [yV E,iV M,iV N,iV y]=w5 at*;generalize w1.heap.size=U at*;have Z:=uh a4.out;have a7:=HS.out _ _ Z.out;have aq:=a7.2.1;have ah:=a7.2.2;have ac:=uh (av.out _ Z.out.below);clear a4 af aj a0 a3 a7)
        | (show wpListIn _ _ _ _ _ (⟨_,Op.load 125 _,_,_,_,_⟩::_) _ _;first|refine J6 (Gc _ _) (by rfl) (by intro c h;cases h) (wp_load_mid 125 _ rfl U 0 rfl [yV E,iV M,iV N,iV y] _ ah underlying125 rfl a1 ?_)|refine J6 (Gc _ _) (by rfl) (by intro c h;cases h) (wp_load_mid 125 _ rfl U 0 rfl [yV E,iV M,iV N,iV y] _ aa underlying125 rfl a1 ?_))
        | (gi_at_call 85;refine(N_.2 ac.out).mono ?_;rintro e w6 ⟨rfl,ae⟩;have a5:=uh (Z.out.call ae);have aa:=(HS.out _ _ a5.out).2.2;have aK:=aa 3 _ rfl;clear ae ac Z ah aq)
        | (show wpListIn _ _ _ _ _ (⟨_,Op.call _,_,_,_,_⟩::_) _ _;refine wpListIn_skip (by rfl) (by rfl) ?_)
        | fail)
        refine f_ (Zg rfl _ _ _) rfl ?_;exact⟨⟨_,rfl⟩,cs,rfl,by have h:=HJ.out pre wr _ none HX.out.2 (Gn a5.out.below) (fun r e=>by cases e);rw[HX.out.1]at h;exact h⟩
      · have bC:(fe != 0)=true:=Qe.2 b9
        clear ax
        gi_wp2_with (first
        | (gi_at_call 83;refine(N_.2 a0.out).mono ?_;rintro e w1 ⟨rfl,a6⟩;have T2:=(a3.out.call a6).alloc zH;have a8:(w1.alloc zH).there w1.heap.size 0 4:=T2.there1;have a4:=uh (T2.laid [yV E,iV M,iV N,iV y] rfl);clear a6 T2)
        | (show wpListIn _ _ _ _ _ (⟨_,Op.store 125 _ _,_,_,_,_⟩::_) _ _;refine Gj (Gc _ _) rfl (by intro c h;cases h) (wp_store_mid 125 _ _ rfl _ 0 #[yV E,iV M,iV N,iV y] rfl rfl a8 a1 a9 ?_);clear a8;generalize(w1.alloc zH).setCells w1.heap.size 0 [yV E,iV M,iV N,iV y]=w5 at*;generalize w1.heap.size=U at*;have Z:=uh a4.out;have a7:=HS.out _ _ Z.out;have aq:=a7.2.1;have ah:=a7.2.2;have ac:=uh (av.out _ Z.out.below);clear a4 af aj a0 a3 a7)
        | (show wpListIn _ _ _ _ _ (⟨_,Op.load 125 _,_,_,_,_⟩::_) _ _;first|refine J6 (Gc _ _) (by rfl) (by intro c h;cases h) (wp_load_mid 125 _ rfl U 0 rfl [yV E,iV M,iV N,iV y] _ ah underlying125 rfl a1 ?_)|refine J6 (Gc _ _) (by rfl) (by intro c h;cases h) (wp_load_mid 125 _ rfl U 0 rfl [yV E,iV M,iV N,iV y] _ aa underlying125 rfl a1 ?_))
        | (gi_at_call 85;refine(N_.2 ac.out).mono ?_;rintro e w6 ⟨rfl,ae⟩;have a5:=uh (Z.out.call ae);have aa:=(HS.out _ _ a5.out).2.2;have aK:=aa 3 _ rfl;clear ae ac Z ah aq)
        | (show wpListIn _ _ _ _ _ (⟨_,Op.call _,_,_,_,_⟩::_) _ _;refine wpListIn_skip (by rfl) (by rfl) ?_)
        | fail)
        refine f_ (Zg rfl _ _ _) rfl ?_;exact⟨⟨_,rfl⟩,cs,rfl,by have h:=HJ.out pre wr _ none HX.out.2 (Gn a5.out.below) (fun r e=>by cases e);rw[HX.out.1]at h;exact h⟩
  | cons c a2=>
   obtain⟨cg,h⟩:=c;obtain⟨b6,ay,ak⟩:=b7;simp only at b6 ay ak;subst b6;have be:=ay.pos;have aT:cg+h.size <= z:=Qf ak.le b8;obtain⟨e1,e2,e3,e4⟩:=L6 ay;have aN:=ay.2.1.1;have a0:=uh (b0.out wr ab cg);rw[e1,e2]at a0;simp only[Zc]at a0;have av:=uh (fun w' (hB:Below wr.heap.size wr w')=>aZ.out w' (ab.trans (hB.mono (Qf aC.out aB))) h (M8 aN));rw[e3]at av;have az:=uh (fun W1=>HY.out pre (cg,h) W1 ⟨a2,ag⟩);unfold Mr at az;obtain⟨E,M,N,y⟩:=h;simp only at be aT az;have a9:=GP ⟨E,M,N,y⟩;simp only at a9;have k1:IntKind.i64.wrap ((z:Int)-(cg:Int))=(z:Int)-(cg:Int):=i64_in _ O;have k2:decide (((z:Int)-(cg:Int))<(y:Int))=false:=b_ O;have k3:¬((z:Int)-(cg:Int))<(y:Int):=O;have k4:(cg:Int)<(z:Int):=O;have aS:=uh ak;have bh:=uh ag;have bg:=uh ap;have a3:=uh (r_ (C_ wr))
   have HS:=uh (fun w' U (V:Turn [] wr [(U,.cells #[yV E,iV M,iV N,iV y] 125)] w')=>
    (⟨(V.below.cell (p:=(aD Bs 0)) (c_ wr _ af)).trans af,(V.below.cell (p:=(aD Bt 0)) (c_ wr _ aj)).trans aj,V.range1⟩:w'.cell? (aD Bs 0)=some (pt a) /\ w'.cell? (aD Bt 0)=some (pt tb) /\ w'.rangeAt U 0 [yV E,iV M,iV N,iV y]))
   have an:=HG.out pre wr ap
   have aV:=uh (fun w8 w' U (hj:J (pre++[(cg,⟨E,M,N,y⟩)]) w8) (k:KpD wb.heap.size D w' w8) (V:Turn [] wr [(U,.cells #[yV E,iV M,iV N,iV y] 125)] w')=>
    (⟨hj,(ab.trans (V.below.mono (Qf aC.out aB))).trans k.below,k.same Bs _ ((V.below.block Bs (Qk am)).trans am) rfl (fun hd=>(aJ wr an Bs (aH wr w' Bs an V.below hd)).2.1 rfl),k.same Bt _ ((V.below.block Bt (Qk au)).trans au) rfl (fun hd=>(aJ wr an Bt (aH wr w' Bt an V.below hd)).2.2 rfl),Qf aB (Qf V.size k.size)⟩:J (pre++[(cg,⟨E,M,N,y⟩)]) w8 /\ Below wb.heap.size wb w8 /\ w8.heap[Bs]?= some (.cells #[pt a] 65) /\ w8.heap[Bt]?= some (.cells #[pt tb] 75) /\ w.heap.size <= w8.heap.size))
   have aX:=uh (fun w8 w' U (k:KpD wb.heap.size D w' w8) (V:Turn [] wr [(U,.cells #[yV E,iV M,iV N,iV y] 125)] w')=>by
    have h9:wr.heap.size <= U:=(V.new U (by simp[keys])).resolve_left (by simp[keys]);have h8:=k.same U _ (V.has.own _ _ (d_ ..)) rfl (fun hd=>by have:=(aJ wr an U (aH wr w' U an V.below hd)).1;omega);exact((Has.one h8).range (d_ ..):w8.rangeAt U 0 [yV E,iV M,iV N,iV y]))
   clear an ap ag ab am au ak ay e1 e2 e3 e4 aN HY
   gi_wp2_with (first
    | (gi_at_call 83;refine(N_.2 a0.out).mono ?_;rintro e w1 ⟨rfl,a6⟩;have T2:=(a3.out.call a6).alloc zH;have a8:(w1.alloc zH).there w1.heap.size 0 4:=T2.there1;have a4:=uh (T2.laid [yV E,iV M,iV N,iV y] rfl);clear a6 T2)
    | (show wpListIn _ _ _ _ _ (⟨_,Op.store 125 _ _,_,_,_,_⟩::_) _ _;refine Gj (Gc _ _) rfl (by intro c h;cases h) (wp_store_mid 125 _ _ rfl _ 0 #[yV E,iV M,iV N,iV y] rfl rfl a8 a1 a9 ?_);clear a8;generalize(w1.alloc zH).setCells w1.heap.size 0 [yV E,iV M,iV N,iV y]=w5 at*;generalize w1.heap.size=U at*;have Z:=uh a4.out;have a7:=HS.out _ _ Z.out;have aq:=a7.2.1;have ah:=a7.2.2;have ac:=uh (av.out _ Z.out.below);clear a4 af aj a0 a3 a7)
    | (show wpListIn _ _ _ _ _ (⟨_,Op.load 125 _,_,_,_,_⟩::_) _ _;first|refine J6 (Gc _ _) (by rfl) (by intro c h;cases h) (wp_load_mid 125 _ rfl U 0 rfl [yV E,iV M,iV N,iV y] _ ah underlying125 rfl a1 ?_)|refine J6 (Gc _ _) (by rfl) (by intro c h;cases h) (wp_load_mid 125 _ rfl U 0 rfl [yV E,iV M,iV N,iV y] _ aa underlying125 rfl a1 ?_))
    | (gi_at_call 85;refine(N_.2 ac.out).mono ?_;rintro e w6 ⟨rfl,ae⟩;have a5:=uh (Z.out.call ae);have aa:=(HS.out _ _ a5.out).2.2;have aK:=aa 3 _ rfl;obtain⟨fn,tmps,assign,body,hy,hR⟩:=az.out _ (HJ.out pre wr _ none bg.out (Gn a5.out.below) (fun r e=>by cases e));have HR:=uh hR;clear hR ae ac Z ah aq)
    | fail)
   refine HR.out.mono ?_;rintro e w8 ⟨rfl,b3,aM⟩
   · have HN:=uh (aV.out _ _ _ b3 aM a5.out)
     have ba:=aX.out _ _ _ aM a5.out;have bx:=ba 3 _ rfl;clear b3 aM ba aa aK a5 HS aX aV HR hy az av
     gi_wp2_with fail
     go_roundw
     case rel=>exact⟨pre++[(cg,⟨E,M,N,y⟩)],a2,cg+y,by rw[bh.out];simp,by go_num,aS.out,HN.out.1,HN.out.2.1,HN.out.2.2.1,HN.out.2.2.2.1,HN.out.2.2.2.2⟩
     case measure=>simp[intOf];omega
end
section
open Go Go.RowKit Go.Shelf Go.IntWalk
attribute [local go_sem] Oper.semAt_some
theorem Ky.le {L:List Ty}{W:List Nat}{en:Nat}(h:Ky L W en):en <= W.length/2:=by
 rcases h with h|h<;>omega
theorem Aa (w:World)(a aw tb:Nat){W:List Nat}(b5:Option Addr)(aR:Nat)(L:List Ty)(hA:WkAt w a aw tb W b5 aR L)(hf:W.length <= 65536)(hu:∀v∈W,v<18446744073709551616)(aY:∀t∈L,TyIn t)(hL:L.length <= 1000)
  (cs:List Ce)(en:Nat)(hC:Chain L W 0 cs en)(hE:Ky L W en):
  Calls prog 159 #[pt a,pt tb] w fun e w'=>∃(g m:Nat) (ob:Obj) (ao:Option Addr) (cap:Nat) (J:List Blk),e=.returned (pt g) /\ JK .i64 (Tj (ats cs)) ob /\ Gh 3 1 ao (ats cs).length cap (J7 (ats cs)) J /\
   Turn [] w ((g,.cells #[pt a,pt tb,.map (some m),.slice ao (ats cs).length cap,iV (Gg 0 cs:Nat)] 287)::(m,ob)::J) w':=by
 refine(N_ (n:=6)).1 ?_;have h3:Fence.wide.fn 159:= trivial;have h6:Fence.wide.fn 210:= trivial;have h7:Fence.wide.fn 237:= trivial;have b2:Fence.wide.round=none:=rfl;have h1:1 <= 6:=O;have bh:=hE.le;have bq:en <= 32768:=O;have b8:=hC.len;have bg:cs.length <= 32768:=O;have b7:=uh (fun x (hx:x∈cs)=>(hC.mem x hx).2.1);refine callsIn_of_wp_marks func159 rfl h3 ?_ b2;simp only[ntmps159,Z_,B_,Qj,Nat.reduceAdd,Nat.reduceSub,S_,R_,Qc,X_,L_,Qd];have bc:=uh (fun Bs Bt D G bf be w0 hw aJ aK=>Bv (6-1) O w a aw tb W b5 aR L hA hf hu aY hL cs en hC hE Bs Bt D G bf be w0 hw aJ aK);have a7:=uh (r_ (C_ w));have bj:= @run_makeMap prog;clear hA hC hE hu aY b8 bh
 gi_wp2_with (first
  | (gi_at_call 210;refine(Ab (6-1) a tb _).mono ?_;rintro e w' ⟨rfl,hw⟩;rw[hw];clear hw w')
  | fail)
 obtain⟨E,bk⟩:∃E,w.heap.size=E:=⟨_,rfl⟩;have T5:=((((a7.out.alloc (.map #[] 0)).alloc (.cells #[pt a,pt tb,.map (some w.heap.size),.slice none 0 0,iV 0] 287)).alloc (.cells #[pt (w.heap.size+1)] 283)).alloc (.cells #[pt a] 65)).alloc (.cells #[pt tb] 75);simp only[Y_]at T5;have aQ:(((((w.alloc (.map #[] 0)).alloc (.cells #[pt a,pt tb,.map (some w.heap.size),.slice none 0 0,iV 0] 287)).alloc (.cells #[pt (w.heap.size+1)] 283)).alloc (.cells #[pt a] 65)).alloc (.cells #[pt tb] 75)).heap.size=w.heap.size+1+1+1+1+1:=by simp
 generalize((((w.alloc (.map #[] 0)).alloc (.cells #[pt a,pt tb,.map (some w.heap.size),.slice none 0 0,iV 0] 287)).alloc (.cells #[pt (w.heap.size+1)] 283)).alloc (.cells #[pt a] 65)).alloc (.cells #[pt tb] 75)=W0 at T5 aQ ⊢;have R8:Below w.heap.size w W0:=T5.below;rw[bk]at T5 aQ ⊢;clear a7 bj;have T8:Turn [] w ((E+1,.cells #[pt a,pt tb,.map (some E),.slice none 0 0,iV 0] 287)::(E,.map #[] 0)::([]++[(E+1+1,.cells #[pt (E+1)] 283),(E+1+1+1,.cells #[pt a] 65),(E+1+1+1+1,.cells #[pt tb] 75)])) W0:=T5.perm po;clear T5;have aJ:W0.heap[E+1+1+1]?= some (.cells #[pt a] 65):=T8.has.own _ _ (by simp);have aK:W0.heap[E+1+1+1+1]?= some (.cells #[pt tb] 75):=T8.has.own _ _ (by simp);have az:w.heap.size <= W0.heap.size:=R8.size
 have aH:∀(J:List Blk) (ob:Obj) (gc:Array Value),(∀x∈J,x.2.isCells=true) -> ∀x∈((E+1,.cells gc 287):Blk)::(E,ob)::(J++[(E+1+1,.cells #[pt (E+1)] 283),(E+1+1+1,.cells #[pt a] 65),(E+1+1+1+1,.cells #[pt tb] 75)]),x.2.isCells=true∨x.1<W0.heap.size:=fun J ob gc hl x hx=>by
  simp only[t_,s_,Zu,or_false]at hx;rcases hx with rfl|rfl|hx|rfl|rfl|rfl
  ·exact .inl rfl
  ·exact .inr (by show E<W0.heap.size;omega)
  ·exact .inl (hl x hx)
  ·exact .inl rfl
  ·exact .inl rfl
  ·exact .inl rfl
 apply JD (β:=Nat) b2 h1 (gf:=237) (lb:=#[pt (E+1+1+1),pt (E+1+1+1+1)]) rfl h7 (enters_of func237 kr rfl)
  (bc.out (E+1+1+1) (E+1+1+1+1) (Re (E+1)) (DC (E+1) (E+1+1+1) (E+1+1+1+1)) (fun A h=>h) (fun A B b hg hB=>Re.old hg hB) W0 R8 aJ aK)
  (fun h k=>h.t k) (KpD.b O (fun W l o' hl b=>Re.put O o')) (T_ _ _) (fun _=>rfl)
  (fun pre W'=>∃ao cap J ob,JK .i64 (Tj (ats pre)) ob /\ Gh 3 1 ao (ats pre).length cap (J7 (ats pre)) J /\ pre.length <= 32768 /\ Turn [] w ((E+1,.cells #[pt a,pt tb,.map (some E),.slice ao (ats pre).length cap,iV (Gg 0 pre:Nat)] 287)::(E,ob)::(J++[(E+1+1,.cells #[pt (E+1)] 283),(E+1+1+1,.cells #[pt a] 65),(E+1+1+1+1,.cells #[pt tb] 75)])) W')
  (fun x nb pre W'=>∃ao cap J ob,JK .i64 (Tj (ats pre)) ob /\ Gh 3 1 ao (ats pre).length cap (J7 (ats pre)) J /\ pre.length+1 <= 32768 /\ Turn [] w ((nb,GQ x)::(E+1,.cells #[pt a,pt tb,.map (some E),.slice ao (ats pre).length cap,iV (Gg 0 pre:Nat)] 287)::(E,ob)::(J++[(E+1+1,.cells #[pt (E+1)] 283),(E+1+1+1,.cells #[pt a] 65),(E+1+1+1+1,.cells #[pt tb] 75)])) W')
  (fun s A D row ⟨ao,cap,J,ob,e0,V,e2,hT⟩ hg hr=>⟨ao,cap,J,ob,e0,V,e2,hT.grownC az (aH J ob _ V.cells) hg hr⟩)
  (fun x nb s A D row ⟨ao,cap,J,ob,e0,V,e2,hT⟩ hg hr=>⟨ao,cap,J,ob,e0,V,e2,hT.grownC az (by
    intro y hy;rcases t_.1 hy with rfl|hy
    ·exact .inl rfl
    ·exact aH J ob _ V.cells y hy) hg hr⟩)
  ⟨none,0,[],_,JK.new .i64,Zb _ _,by simp,T8⟩
  (fun pre W' ⟨ao,cap,J,ob,e0,V,e2,hT⟩=>ZK V rfl hT)
 case hassign=>
  rintro l1 pre x N ⟨ba,au⟩ ⟨ao,cap,J,ob,e0,V,e2,hT⟩;have bm:pre.length+1 <= 32768:=by rw[au,e_,B_]at bg;omega
  have T2:=hT.alloc (.cells #[iV 0,yV 0,iV 0,iV 0,iV 0] 127);have b3:(N.alloc (.cells #[iV 0,yV 0,iV 0,iV 0,iV 0] 127)).there N.heap.size 0 5:=T2.there1;have bd:=uh (T2.laid [iV x.1,yV x.2.tag,iV x.2.typ,iV x.2.len,iV x.2.size] rfl);have HX:=uh (((r_ (C_ N)).alloc (.cells #[iV 0,yV 0,iV 0,iV 0,iV 0] 127)).laid [iV x.1,yV x.2.tag,iV x.2.typ,iV x.2.len,iV x.2.size] rfl);have b9:=LQ;have b1:=Rb x;have aW:=ZK V rfl hT;have hE:=uh (⟨e0,V⟩:JK .i64 (Tj (ats pre)) ob /\ Gh 3 1 ao (ats pre).length cap (J7 (ats pre)) J);have bu:=hT.size;unfold Mr;clear T2 au hT V e0
  gi_wp2_with (first
   | (show wpListIn _ _ _ _ _ (⟨_,Op.store 127 _ _,_,_,_,_⟩::_) _ _;refine Gj (Gu _ _ _) rfl (by intro c h;cases h) (wp_store_mid 127 _ _ rfl _ 0 #[iV x.1,yV x.2.tag,iV x.2.typ,iV x.2.len,iV x.2.size] rfl rfl b3 b9 b1 ?_);clear b3)
   | fail)
  have HK:=uh (⟨((KeepsOthers.alloc _ _).trans (GT _ _ _)).from _,KpD.of HX.out O (fun b hb=>by cases hb) (fun b hb hd=>Re.old aW HX.out.below hd)⟩:
   KeepsFrom W0.heap.size N ((N.alloc (.cells #[iV 0,yV 0,iV 0,iV 0,iV 0] 127)).setCells N.heap.size 0 [iV x.1,yV x.2.tag,iV x.2.typ,iV x.2.len,iV x.2.size]) /\ KpD w.heap.size (Re (E+1)) N ((N.alloc (.cells #[iV 0,yV 0,iV 0,iV 0,iV 0] 127)).setCells N.heap.size 0 [iV x.1,yV x.2.tag,iV x.2.typ,iV x.2.len,iV x.2.size]))
  clear HX b1 aW;generalize(N.alloc (.cells #[iV 0,yV 0,iV 0,iV 0,iV 0] 127)).setCells N.heap.size 0 [iV x.1,yV x.2.tag,iV x.2.typ,iV x.2.len,iV x.2.size]=W3 at*;generalize N.heap.size=nb at*;exact⟨HK.out.1,HK.out.2,nb,rfl,ao,cap,J,ob,hE.out.1,hE.out.2,bm,bd.out⟩
 case hbody=>
  rintro l1 pre x nb N ⟨ba,au⟩ ⟨ao,cap,J,ob,e0,V,e2,hT⟩;have bv:x.1+x.2.size <= 32768:=by have:=b7.out x (by rw[au];simp);omega
  have bt:=EY pre
  -- what this client turns: L0; what lies beside it: R0
  have a7:Turn [] w (((E+1,.cells #[pt a,pt tb,.map (some E),.slice ao (ats pre).length cap,iV (Gg 0 pre:Nat)] 287)::(E,ob)::J)++((nb,GQ x)::[(E+1+1,.cells #[pt (E+1)] 283),(E+1+1+1,.cells #[pt a] 65),(E+1+1+1+1,.cells #[pt tb] 75)])) N:=hT.perm po;have an:Has N ((E+1,.cells #[pt a,pt tb,.map (some E),.slice ao (ats pre).length cap,iV (Gg 0 pre:Nat)] 287)::(E,ob)::J):=a7.has.left;have aC:=uh (fun w' (L1:List Blk) (K:Turn ((E+1,.cells #[pt a,pt tb,.map (some E),.slice ao (ats pre).length cap,iV (Gg 0 pre:Nat)] 287)::(E,ob)::J) N L1 w')=>a7.trans (K.more a7.has));have br:=uh an;have b0:∀b∈keys ((E+1,.cells #[pt a,pt tb,.map (some E),.slice ao (ats pre).length cap,iV (Gg 0 pre:Nat)] 287)::(E,ob)::J),w.heap.size <= b:=fun b hb=>(a7.new b (by rw[GN,s_];exact .inl hb)).resolve_left (by simp[keys])
  have ax:=uh (fun w' (am:Option Addr) (n' aa:Nat) (bp:List Value) (en:Int) (U:Obj) (b4 Z:List Blk) (h2:Gh 3 1 am n' aa bp b4) (K:Turn ((E+1,.cells #[pt a,pt tb,.map (some E),.slice ao (ats pre).length cap,iV (Gg 0 pre:Nat)] 287)::(E,ob)::J) N ((E+1,.cells #[pt a,pt tb,.map (some E),.slice am n' aa,iV en] 287)::(E,U)::(b4++Z)) w')=>
   (⟨Turn.keepsFrom K an (fun y hy=>by
       rcases t_.1 hy with rfl|hy
       ·exact .inl rfl
       rcases t_.1 hy with rfl|hy
       ·exact .inr (by show E<W0.heap.size;omega)
       ·exact .inl (V.cells y hy)),KpD.resE V h2 (Vp e0) rfl rfl K an b0⟩:KeepsFrom W0.heap.size N w' /\ KpD w.heap.size (Re (E+1)) N w'))
  have HS:=uh (fun w' (am:Option Addr) (n' aa:Nat) (en:Int) (Z:List Blk) (K:Turn ((E+1,.cells #[pt a,pt tb,.map (some E),.slice ao (ats pre).length cap,iV (Gg 0 pre:Nat)] 287)::(E,ob)::J) N ((E+1,.cells #[pt a,pt tb,.map (some E),.slice am n' aa,iV en] 287)::Z) w')=>by
   have T:=aC.out w' _ K;have bn:=T.has.range (b:=nb) (c:=#[iV x.1,yV x.2.tag,iV x.2.typ,iV x.2.len,iV x.2.size]) (e:=127) (f:=(0,0)) (by simp[GQ])
   exact(⟨T.has.cell (b:=E+1+1) (c:=#[pt (E+1)]) (e:=283) (f:=(0,0)) (by simp) 0,K.cell1 2,K.cell1 3,bn⟩:
    w'.cell? (aD (E+1+1) 0)=some (pt (E+1)) /\ w'.cell? (aD (E+1) 2)=some (.map (some E)) /\ w'.cell? (aD (E+1) 3)=some (.slice am n' aa) /\ w'.rangeAt nb 0 [iV x.1,yV x.2.tag,iV x.2.typ,iV x.2.len,iV x.2.size]))
  have aS:=uh e0;have aA:=uh V;have a2:=uh (Dt pre x);have aG:=uh (WN pre x);have ab:=r_ an;have aj:=HS.out N _ _ _ _ _ ab;have q1:=aj.2.2.2 1 _ rfl;have aV:(ats pre).length+1 <= maxLen:=by unfold maxLen;omega
  have aZ:((ats pre).length+1)*8 <= 140737488355328:=O;clear e0 V hT a7 an b0 au
  by_cases ht:x.2.tag=1
  · rw[v_ ht]at a2
    have k1:((x.2.tag:Int) == 1)=true:=(by rw[Qx];omega);have k2:(x.2.tag == 1)=true:=(by rw[Qx];exact ht);have aB:=uh ab.drew;clear ab ht aj
    gi_wp2_with fail
    clear q1;have ac:=HS.out _ _ _ _ _ _ aB.out;refine Jq (S:=fun W'=>W'.cell? (aD (E+1+1) 0)=some (pt (E+1)) /\ W'.cell? (aD (E+1) 2)=some (.map (some E)) /\ W'.cell? (aD (E+1) 3)=some (.slice ao (ats pre).length cap) /\ W'.rangeAt nb 0 [iV x.1,yV x.2.tag,iV x.2.typ,iV x.2.len,iV x.2.size]) 7 [false,false,false,false,false,false,false] rfl rfl kr (by rfl) (by rintro⟨a,w,h⟩;exact h) ?_;refine Jt 0 20 ac (fun w a3=>a3.1) ?_;refine G2 1 21 ac ?_;refine G2 2 22 ac ?_;refine Jt 3 23 ac (fun w a3=>a3.2.1) ?_;refine G2 4 24 ac ?_;refine Jt 5 25 ac (fun w a3=>a3.2.2.2 0 _ rfl) ?_;refine G5 6 (fun K M=>?_);refine Vb (q:=.i64) rfl _ _ _ 285 rfl 3 4 underlying285 underlying3 rfl (aB.out.has.own E ob (by simp)) aS.out (x.1:Int) rfl (.bool true) rfl ?_;intro U aN;have K2:=(aB.out.swap.setBlk U).swap;have aX:=HS.out _ _ _ _ _ _ K2;have aT:=uh K2;have aU:=uh aN;refine M.out _ _ aX fun _=>?_;clear M K K2 aN ac aB;simp only[Gb,G7,G6];refine P_ kr ?_ _;clear aX
    gi_wp2_with fail
    refine Bu (fun W'=>Turn ((E+1,.cells #[pt a,pt tb,.map (some E),.slice ao (ats pre).length cap,iV (Gg 0 pre:Nat)] 287)::(E,ob)::J) N ((E+1,.cells #[pt a,pt tb,.map (some E),.slice ao (ats pre).length cap,iV (Gg 0 pre:Nat)] 287)::(E,U)::J) W'.drew) aT.out.drew fun W3 K3=>?_;clear aT;refine Jq (S:=fun W'=>W'.cell? (aD (E+1+1) 0)=some (pt (E+1)) /\ W'.rangeAt nb 0 [iV x.1,yV x.2.tag,iV x.2.typ,iV x.2.len,iV x.2.size]) 12 [false,false,false,false,false,false,false,false,false,false,false,false] rfl rfl kr (by rfl) (by rintro⟨a,w,h⟩;exact h) ?_;generalize W3.drew=W5 at*;have bs:=uh K3;have aE:=HS.out _ _ _ _ _ _ K3;have q3:=aE.2.2.1;have a4:W5.cell? (aD (E+1+1) 0)=some (pt (E+1)) /\ W5.rangeAt nb 0 [iV x.1,yV x.2.tag,iV x.2.typ,iV x.2.len,iV x.2.size]:=⟨aE.1,aE.2.2.2⟩;have K4:=K3.alloc (.cells #[iV x.1] 3);have aF:=HS.out _ _ _ _ _ _ (K4.perm (l2:=(E+1,.cells #[pt a,pt tb,.map (some E),.slice ao (ats pre).length cap,iV (Gg 0 pre:Nat)] 287)::((E,U)::(J++[(W5.heap.size,(.cells #[iV x.1] 3))]))) po);have q4:=aF.2.2.1
    have ay:=(⟨aF.1,aF.2.2.2⟩:(fun W'=>W'.cell? (aD (E+1+1) 0)=some (pt (E+1)) /\ W'.rangeAt nb 0 [iV x.1,yV x.2.tag,iV x.2.typ,iV x.2.len,iV x.2.size]) (W5.alloc (.cells #[iV x.1] 3)));have ah:=uh K4;clear K3 K4 aE aF;refine Jt 0 26 a4 (fun w a3=>a3.1) ?_;refine Jt 1 27 a4 (fun w a3=>a3.1) ?_;refine G2 2 28 a4 ?_;refine G2 3 29 a4 ?_;refine G2 5 31 a4 ?_;refine Jt 6 32 a4 (fun w a3=>a3.2 0 _ rfl) ?_;refine Zf (rs:=[4,7]) kr (by simp) (H_ rfl (fun K M=>?_) (H_ rfl (fun K M=>?_) Zd))
    · go_simp
      refine M.out _ _ a4 fun _=>?_;clear M K;simp only[Gb,G7,G6];refine G5 7 (fun K M=>?_)
      go_simp
      refine M.out _ _ ay fun _=>?_;clear M K;simp only[Gb,G7,G6];refine G5 8 (fun K M=>?_);refine Xc rfl _ _ rfl L4 rfl aA.out (R:=[(W5.heap.size,(.cells #[iV x.1] 3)),(E+1,.cells #[pt a,pt tb,.map (some E),.slice ao (ats pre).length cap,iV (Gg 0 pre:Nat)] 287),(E,U)]) (ah.out.perm po).has rfl (news:=[iV x.1]) rfl (Qy (A_ _ _)) (by simp[Value.oneCell']) aV aZ ?_;intro a9 p9 l9 w4 av V4 aM;have K5:=((ah.out.perm po).trans V4).perm (l2:=(E+1,.cells #[pt a,pt tb,.map (some E),.slice ao (ats pre).length cap,iV (Gg 0 pre:Nat)] 287)::((E,U)::(l9++[(W5.heap.size,(.cells #[iV x.1] 3))]))) po;have ae:=HS.out _ _ _ _ _ _ K5;have ak:=uh av;have aP:=K5.cell1 3;have aL:=K5.free1 3;have a0:w4.cell? (aD (E+1+1) 0)=some (pt (E+1)) /\ w4.rangeAt nb 0 [iV x.1,yV x.2.tag,iV x.2.typ,iV x.2.len,iV x.2.size]:=⟨ae.1,ae.2.2.2⟩
      have K6:Turn ((E+1,.cells #[pt a,pt tb,.map (some E),.slice ao (ats pre).length cap,iV (Gg 0 pre:Nat)] 287)::(E,ob)::J) N ((E+1,.cells #[pt a,pt tb,.map (some E),.slice a9 ((ats pre).length+1) p9,iV (Gg 0 pre:Nat)] 287)::((E,U)::(l9++[(W5.heap.size,(.cells #[iV x.1] 3))]))) _:=K5.setCell 3 (.slice a9 ((ats pre).length+1) p9);have af:=HS.out _ _ _ _ _ _ K6;have ag:=(⟨af.1,af.2.2.2⟩:(fun W'=>W'.cell? (aD (E+1+1) 0)=some (pt (E+1)) /\ W'.rangeAt nb 0 [iV x.1,yV x.2.tag,iV x.2.typ,iV x.2.len,iV x.2.size]) (w4.setCell (aD (E+1) 3) (.slice a9 ((ats pre).length+1) p9)));have a1:=uh K6;refine M.out _ _ a0 fun _=>?_;clear M K V4 aM av ah ae K5 af K6;simp only[Gb,G7,G6];refine G2 9 35 a0 ?_;refine G2 10 36 a0 ?_;clear a0;refine G5 11 (fun K M=>?_)
      go_simp
      refine M.out _ _ ag fun _=>?_;clear M K aP aL;generalize w4.setCell (aD (E+1) 3) (.slice a9 ((ats pre).length+1) p9)=w7 at*;simp only[Gb,G7,G6];refine P_ kr ?_ _;have a5:=HS.out _ _ _ _ _ _ a1.out;have p1:=a5.1;have p2:=a5.2.2.2 0 _ rfl;have p3:=a5.2.2.2 4 _ rfl;have p4:=a1.out.cell1 4;have p5:=a1.out.free1 4;have a6:=uh (a1.out.setCell 4 (iV (x.1+x.2.size)));clear a5 ag a1
      gi_wp2_with fail
      have a8:=ax.out _ a9 ((ats pre).length+1) p9 _ _ U l9 [(W5.heap.size,(.cells #[iV x.1] 3))] ak.out a6.out;have ap:=aC.out _ _ a6.out;have aq:(ats (pre++[x])).length=(ats pre).length+1:=(by rw[a2.out];simp);refine⟨a8.1,a8.2,a9,p9,l9,U,by rw[a2.out,UD];exact aU.out,?_,by simp;omega,?_⟩
      · rw[aq,a2.out,GS]
        exact ak.out
      · rw[aq,aG.out]
        exact(ap.perm (l2:=[(W5.heap.size,(.cells #[iV x.1] 3)),(nb,GQ x)]++((E+1,.cells #[pt a,pt tb,.map (some E),.slice a9 ((ats pre).length+1) p9,iV ((x.1+x.2.size:Nat):Int)] 287)::(E,U)::(l9++[(E+1+1,.cells #[pt (E+1)] 283),(E+1+1+1,.cells #[pt a] 65),(E+1+1+1+1,.cells #[pt tb] 75)]))) po).drop
    · go_simp
      refine M.out _ _ ay fun _=>?_;clear M K;simp only[Gb,G7,G6];refine G5 4 (fun K M=>?_)
      go_simp
      refine M.out _ _ ay fun _=>?_;clear M K;simp only[Gb,G7,G6];refine G5 8 (fun K M=>?_);refine Xc rfl _ _ rfl L4 rfl aA.out (R:=[(W5.heap.size,(.cells #[iV x.1] 3)),(E+1,.cells #[pt a,pt tb,.map (some E),.slice ao (ats pre).length cap,iV (Gg 0 pre:Nat)] 287),(E,U)]) (ah.out.perm po).has rfl (news:=[iV x.1]) rfl (Qy (A_ _ _)) (by simp[Value.oneCell']) aV aZ ?_;intro a9 p9 l9 w4 av V4 aM;have K5:=((ah.out.perm po).trans V4).perm (l2:=(E+1,.cells #[pt a,pt tb,.map (some E),.slice ao (ats pre).length cap,iV (Gg 0 pre:Nat)] 287)::((E,U)::(l9++[(W5.heap.size,(.cells #[iV x.1] 3))]))) po;have ae:=HS.out _ _ _ _ _ _ K5;have ak:=uh av;have aP:=K5.cell1 3;have aL:=K5.free1 3;have a0:w4.cell? (aD (E+1+1) 0)=some (pt (E+1)) /\ w4.rangeAt nb 0 [iV x.1,yV x.2.tag,iV x.2.typ,iV x.2.len,iV x.2.size]:=⟨ae.1,ae.2.2.2⟩
      have K6:Turn ((E+1,.cells #[pt a,pt tb,.map (some E),.slice ao (ats pre).length cap,iV (Gg 0 pre:Nat)] 287)::(E,ob)::J) N ((E+1,.cells #[pt a,pt tb,.map (some E),.slice a9 ((ats pre).length+1) p9,iV (Gg 0 pre:Nat)] 287)::((E,U)::(l9++[(W5.heap.size,(.cells #[iV x.1] 3))]))) _:=K5.setCell 3 (.slice a9 ((ats pre).length+1) p9);have af:=HS.out _ _ _ _ _ _ K6;have ag:=(⟨af.1,af.2.2.2⟩:(fun W'=>W'.cell? (aD (E+1+1) 0)=some (pt (E+1)) /\ W'.rangeAt nb 0 [iV x.1,yV x.2.tag,iV x.2.typ,iV x.2.len,iV x.2.size]) (w4.setCell (aD (E+1) 3) (.slice a9 ((ats pre).length+1) p9)));have a1:=uh K6;refine M.out _ _ a0 fun _=>?_;clear M K V4 aM av ah ae K5 af K6;simp only[Gb,G7,G6];refine G2 9 35 a0 ?_;refine G2 10 36 a0 ?_;clear a0;refine G5 11 (fun K M=>?_)
      go_simp
      refine M.out _ _ ag fun _=>?_;clear M K aP aL;generalize w4.setCell (aD (E+1) 3) (.slice a9 ((ats pre).length+1) p9)=w7 at*;simp only[Gb,G7,G6];refine P_ kr ?_ _;have a5:=HS.out _ _ _ _ _ _ a1.out;have p1:=a5.1;have p2:=a5.2.2.2 0 _ rfl;have p3:=a5.2.2.2 4 _ rfl;have p4:=a1.out.cell1 4;have p5:=a1.out.free1 4;have a6:=uh (a1.out.setCell 4 (iV (x.1+x.2.size)));clear a5 ag a1
      gi_wp2_with fail
      have a8:=ax.out _ a9 ((ats pre).length+1) p9 _ _ U l9 [(W5.heap.size,(.cells #[iV x.1] 3))] ak.out a6.out;have ap:=aC.out _ _ a6.out;have aq:(ats (pre++[x])).length=(ats pre).length+1:=(by rw[a2.out];simp);refine⟨a8.1,a8.2,a9,p9,l9,U,by rw[a2.out,UD];exact aU.out,?_,by simp;omega,?_⟩
      · rw[aq,a2.out,GS]
        exact ak.out
      · rw[aq,aG.out]
        exact(ap.perm (l2:=[(W5.heap.size,(.cells #[iV x.1] 3)),(nb,GQ x)]++((E+1,.cells #[pt a,pt tb,.map (some E),.slice a9 ((ats pre).length+1) p9,iV ((x.1+x.2.size:Nat):Int)] 287)::(E,U)::(l9++[(E+1+1,.cells #[pt (E+1)] 283),(E+1+1+1,.cells #[pt a] 65),(E+1+1+1+1,.cells #[pt tb] 75)]))) po).drop
  · rw[y_ ht,p_]at a2
    have k1:((x.2.tag:Int) == 1)=false:=(by rw[j_];omega);have k2:(x.2.tag == 1)=false:=(by rw[j_];exact ht);have p1:=aj.1;have p2:=aj.2.2.2 0 _ rfl;have p3:=aj.2.2.2 4 _ rfl;have p4:=ab.cell1 4;have p5:=ab.free1 4;have a6:=uh (ab.setCell 4 (iV (x.1+x.2.size)));clear ab ht aj
    gi_wp2_with fail
    have a8:=ax.out _ ao (ats pre).length cap _ _ ob J [] aA.out (by rw[p_];exact a6.out);have ap:=aC.out _ _ a6.out;refine⟨a8.1,a8.2,ao,cap,J,ob,by rw[a2.out];exact aS.out,by rw[a2.out];exact aA.out,by simp;omega,?_⟩;rw[a2.out,aG.out];exact(ap.perm (l2:=[(nb,GQ x)]++((E+1,.cells #[pt a,pt tb,.map (some E),.slice ao (ats pre).length cap,iV ((x.1+x.2.size:Nat):Int)] 287)::(E,ob)::(J++[(E+1+1,.cells #[pt (E+1)] 283),(E+1+1+1,.cells #[pt a] 65),(E+1+1+1+1,.cells #[pt tb] 75)]))) po).drop
 case hdone=>
  rintro D xs N hD rfl ⟨ao,cap,J,ob,e0,V,e2,hT⟩ M;have q0:N.cell? (aD (E+1+1) 0)=some (pt (E+1)):=hT.has.cell (b:=E+1+1) (c:=#[pt (E+1)]) (e:=283) (f:=(0,0)) (by simp) 0;have b6:=uh (hT.grownC (B:=W0.heap.size) az (aH J ob _ V.cells) (grownBy_putObj' N D (.deferred none)) (fun r e=>by cases e;exact⟨hD,_,M,rfl⟩));have HE:=uh (⟨e0,V⟩:JK .i64 (Tj (ats xs)) ob /\ Gh 3 1 ao (ats xs).length cap (J7 (ats xs)) J);clear hT e0 V
  gi_wp2_with fail
  refine⟨by simp,.inl ⟨_,_,rfl,run_takeDeferred M,?_⟩⟩;refine⟨pt (E+1),?_,E+1,E,ob,ao,cap,J,rfl,HE.out.1,HE.out.2,(b6.out.perm (l2:=[(E+1+1,.cells #[pt (E+1)] 283),(E+1+1+1,.cells #[pt a] 65),(E+1+1+1+1,.cells #[pt tb] 75)]++((E+1,.cells #[pt a,pt tb,.map (some E),.slice ao (ats xs).length cap,iV (Gg 0 xs:Nat)] 287)::(E,ob)::J)) po).drop⟩;simp[results,results159,go_sem]
end
section
open Go Go.RowKit Go.IntWalk
section
variable {P:Program} {w:World} {ops:Array Oper} {rest:List Oper} {o:Oper} {a:Act} {Q:Exit -> Act -> World -> Prop} {q:IntKind} {mp:List (Int×Value)} {b:Nat} {ob:Obj}
theorem KP (hw:Region.wanted o (yielded ops a.tmps)=true)(m x:Operand)(t:TypeId)(y:Bool)(J:o.op=Op.lookup t m x y)(kt e:TypeId)(Z:P.underlying t=some (.map kt e))(U:P.underlying kt=some (.int q))(z:Value)(hz:(zeroValue e).run P w=.ok z w)
  (V:a.eval m=.map (some b))(N:w.heap[b]?= some ob)(G:JK q mp ob)(k:Int)(hx:a.eval x=.int q k)
  (M:wpList P ops Q rest (a.put o.dst (let v:=(LV mp k).getD z;if y then .tuple #[v,.bool (LV mp k).isSome]else v)) w):wpList P ops Q (o::rest) a w:=by
 refine Mj hw fun K' E=>?_;have r:=Na N G Z U hz k y;unfold Oper.wp;simp only[execOp,J,V,hx,r,Sem.run_bind,Xd,Sem.run_pure];exact E _ _ M
end
theorem Ff (w:World)(v:Nat)(Z:v<18446744073709551616):Calls prog 163 #[uV v] w fun e w'=>e=.returned (.tuple #[iV (if 1048576 <= v /\ v<1114112 then((v-1048576:Nat):Int)else 0),.bool (decide (1048576 <= v /\ v<1114112))]) /\ w'=w:=by
 by_cases h1:v<1048576
 · have G:decide ((v:Int)<1048576)=true:=k_ O
   have J:decide (v<1048576)=true:=k_ h1;have r:¬(1048576 <= v /\ v<1114112):=O;rw[y_ r,b_ r];clear r h1
   go_enter func163,ntmps163
   go_wp2
   refine f_ (E_ rfl _ _ _) rfl ?_;exact⟨rfl,rfl⟩
 · have G:decide ((v:Int)<1048576)=false:=b_ O
   have J:decide (v<1048576)=false:=b_ h1;have E:IntKind.u64.wrap ((v:Int)-1048576)=((v-1048576:Nat):Int):=by rw[IntKind.wrap_u64];omega
   by_cases h2:v<1114112
   · have r:1048576 <= v /\ v<1114112:=O
     rw[v_ r,k_ r];obtain⟨u,y⟩:∃u,v-1048576=u:=⟨_,rfl⟩;have V:u<65536:=O;have M:decide ((65536:Int) <= (u:Int))=false:=b_ O;have N:decide (65536 <= u)=false:=b_ O;have U:IntKind.i64.wrap (u:Int)=(u:Int):=i64_in _ O;rw[y]at E ⊢;clear y r h1 h2
     go_enter func163,ntmps163
     go_wp2
     refine f_ (E_ rfl _ _ _) rfl ?_;exact⟨rfl,rfl⟩
   · have r:¬(1048576 <= v /\ v<1114112):=O
     rw[y_ r,b_ r];obtain⟨u,y⟩:∃u,v-1048576=u:=⟨_,rfl⟩;have M:decide ((65536:Int) <= (u:Int))=true:=k_ O;have N:decide (65536 <= u)=true:=k_ O;rw[y]at E;clear y r h1 h2
     go_enter func163,ntmps163
     go_wp2
     refine f_ (E_ rfl _ _ _) rfl ?_;exact⟨rfl,rfl⟩
def NT (A:List Nat)(v:Nat):Int:=if 1048576 <= v /\ v<1114112 /\ v%2=0 /\ (v-1048576)/2∈A then(((v-1048576)/2:Nat):Int)else -1
theorem DN (w:World)(g m:Nat)(ob:Obj)(A:List Nat)(hc:w.cell? (aD g 2)=some (.map (some m)))(hb:w.heap[m]?= some ob)(a1:JK .i64 (Tj A) ob)(v:Nat)(hv:v<18446744073709551616):
  Calls prog 215 #[pt g,uV v] w fun e w'=>e=.returned (iV (NT A v)) /\ w'=w:=by
 have y:=uh (Ff w v hv);have HB:=uh hb;have HM:=uh a1;have hz:∀w,(zeroValue 4).run prog w=.ok (.bool false) w:=fun _=>by kernel_rfl
 clear hb a1
 by_cases h1:1048576 <= v /\ v<1114112
 · rw[v_ h1,k_ h1]at y
   obtain⟨u,E⟩:∃u,v-1048576=u:=⟨_,rfl⟩;have a2:u<65536:=O;have N:((u:Int)).tmod 2=((u%2:Nat):Int):=Mz _ 2;have U:((u:Int))%2=((u%2:Nat):Int):=O;have V:((u:Int)).tdiv 2=((u/2:Nat):Int):=GC _ 2;have Z:((u:Int))/2=((u/2:Nat):Int):=O
   by_cases h2:u%2=0
   · obtain⟨d,hd⟩:∃d,u/2=d:=⟨_,rfl⟩
     by_cases J:d∈A
     · have r:NT A v=(d:Int):=by unfold NT;rw[E,hd,v_ ⟨h1.1,h1.2,by omega,J⟩]
       have M:=uh (Th A d);rw[v_ J]at M;rw[r];rw[E]at y;rw[hd]at V Z;rw[h2]at N U;clear r hd E h1 J h2
       go_enter func215,ntmps215
       go_wp2_with fail
       refine y.out.mono ?_;rintro e w2 ⟨rfl,G⟩;subst G
       go_wp2_with (first
        | (show wpList _ _ _ (⟨_,Op.lookup 285 _ _ _,_,_,_,_⟩::_) _ _;refine KP (q:=.i64) (by rfl) _ _ 285 false rfl 3 4 underlying285 underlying3 (.bool false) (hz _) rfl HB.out HM.out (d:Int) rfl ?_;rw[M.out];simp only[Zc])
        | fail)
       go_ret;exact⟨rfl,rfl⟩
     · have r:NT A v= -1:=by unfold NT;rw[E,hd,y_ (fun h=>J h.2.2.2)]
       have M:=uh (Th A d);rw[y_ J]at M;rw[r];rw[E]at y;rw[hd]at V Z;rw[h2]at N U;clear r hd E h1 J h2
       go_enter func215,ntmps215
       go_wp2_with fail
       refine y.out.mono ?_;rintro e w2 ⟨rfl,G⟩;subst G
       go_wp2_with (first
        | (show wpList _ _ _ (⟨_,Op.lookup 285 _ _ _,_,_,_,_⟩::_) _ _;refine KP (q:=.i64) (by rfl) _ _ 285 false rfl 3 4 underlying285 underlying3 (.bool false) (hz _) rfl HB.out HM.out (d:Int) rfl ?_;rw[M.out];simp only[Jj])
        | fail)
       go_ret;exact⟨rfl,rfl⟩
   · have r:NT A v= -1:=by unfold NT;rw[y_ (fun h=>by omega)]
     have a0:u%2=1:=O;rw[r];rw[E]at y;rw[a0]at N U;clear r E h1 h2 a0
     go_enter func215,ntmps215
     go_wp2_with fail
     refine y.out.mono ?_;rintro e w2 ⟨rfl,G⟩;subst G
     go_wp2_with fail
     go_ret;exact⟨rfl,rfl⟩
 · rw[y_ h1,b_ h1]at y
   have r:NT A v= -1:=(by unfold NT;rw[y_ (fun h=>h1 ⟨h.1,h.2.1⟩)]);rw[r];clear r h1
   go_enter func215,ntmps215
   go_wp2_with fail
   refine y.out.mono ?_;rintro e w2 ⟨rfl,G⟩;subst G
   go_wp2_with fail
   go_ret;exact⟨rfl,rfl⟩
end
section
open Go Go.RowKit Go.Shelf Go.IntWalk
attribute [local go_sem] Oper.semAt_some
theorem C5 (n:Nat)(hn:2 <= n)(wb:World)(sb a aw tb:Nat)(W:List Nat)(aU:Option Addr)(ax:Nat)(L:List Ty)(hA:SpAt wb sb a aw tb W aU ax L)(hf:W.length <= 65536)(hu:∀v∈W,v<18446744073709551616)(aN:∀t∈L,TyIn t)(hL:L.length <= 1000)
  (cs:List Ce)(hC:Chain L W 0 cs (W.length/2))(Bs:Nat)(D:World -> Nat -> Prop)(G:World -> Prop)(an:∀A,G A -> ∀b,D A b -> b<A.heap.size /\ b≠Bs)(am:∀A B b,G A -> Below A.heap.size A B -> D B b -> D A b)(w:World)(hw:Below wb.heap.size wb w)(ak:w.heap[Bs]?= some (bS sb)):
  Uh Fence.wide n prog 133 #[pt Bs] Mr (KpD wb.heap.size D) (fun pre x=>∃M,cs=pre++x::M) (fun xs=>xs=cs) G w:=fun l J W0 hW hJ hG hY h0=>by
 have b6:Bs<w.heap.size:=Qk ak;have aH:W0.heap[Bs]?= some (bS sb):=(hW.block Bs b6).trans ak;have aT:Below wb.heap.size wb W0:=hw.trans (hW.mono hw.size);have b8:=hW.size;have a5:=uh hw.size;have a5:=uh hw.size;have a5:=uh hw.size;have a5:=uh hw.size;have b7:Fence.wide.fn 133:= trivial;have bc:Fence.wide.fn 67:= trivial;have bd:Fence.wide.fn 83:= trivial;have be:Fence.wide.fn 85:= trivial;refine Xk func133 rfl b7 ?_ rfl;simp only[ntmps133,Z_,B_,Qj,Nat.reduceAdd,Nat.reduceSub,S_,R_,Qc,X_,L_,Qd];have h1:1 <= n:=O;have y:Fence.wide.round=none:=rfl;have h2:1 <= n-1:=O;have HY:=uh hY;have HJ:=uh hJ;have ac:=Gr;have af:=uh (fun w' (hB:Below wb.heap.size wb w')=>Rk w' (hA.below hB).c0 (hA.below hB).ar hf);have b5:=uh (fun w' (hB:Below wb.heap.size wb w') (g:Int)=>Wb w' (hA.below hB).fields (hA.below hB).ar hu g);have b3:=uh (fun w' (hB:Below wb.heap.size wb w') h hi=>ZU w' (hA.below hB).fields L aN hL tb aU ax (hA.below hB).tab h hi);have HA:=uh hA;have HC:=uh hC;have aW:=hC.len;obtain⟨z,hz⟩:∃z:Nat,W.length/2=z:=⟨_,rfl⟩;have bg:z <= 32768:=O;rw[hz]at af HC aW;have aG:=uh aT;have aA:=uh aH
 have HG:=uh hG;clear hY hJ hG hW hw ak aH aT hA hu aN hC
 gi_wp2_with fail
 gi_loopw [3] (fun v3 wr=>∃(pre M:List Ce) (g:Nat),cs=pre++M /\ v3=iV g /\ Chain L W g M z /\ J pre wr /\ Below wb.heap.size wb wr /\ wr.heap[Bs]?= some (bS sb) /\ w.heap.size <= wr.heap.size) (fun v3 _=>z+1-(intOf v3).toNat)
 case atStart=>exact⟨[],cs,0,rfl,by go_num,HC.out,h0,aG.out,aA.out,b8⟩
 case round=>
  clear HC h0 aG aA;obtain⟨pre,M,g,a7,rfl,aQ,a8,a1,a3,ah⟩:=hrel;have ap:Has wr [(Bs,bS sb)]:=Has.one a3;have aq:wr.cell? (aD Bs 0)=some (pt sb):=ap.cell (d_ ..) 0;have aa:=HA.out.below a1;have q0:=aa.c0
  cases M with
  | nil=>
   obtain rfl:g=z:=aQ;rw[p_]at a7;have HX:=uh (⟨a7.symm,a8⟩:pre=cs /\ J pre wr);have Hg:=uh (af.out wr a1);have bf:¬(g:Int)<(g:Int):=O;clear a8 aa ap a7 a1 a3
   gi_wp2_with (gi_at_call 67;refine(N_.2 Hg.out).mono ?_;rintro e w' ⟨rfl,hw⟩;rw[hw];clear hw w')
   go_end0;exact⟨⟨_,rfl⟩,pre,HX.out.1,HX.out.2⟩
  | cons c M=>
   obtain⟨cg,h⟩:=c;obtain⟨aP,ab,a2⟩:=aQ;simp only at aP ab a2;subst aP;have aX:=ab.pos;have az:cg+h.size <= z:=a2.le;obtain⟨e1,e2,e3,e4⟩:=L6 ab;have av:=ab.2.1.1;have ag:=uh (b5.out wr a1 cg);rw[e1,e2]at ag;simp only[Zc]at ag;have aB:=uh (fun w' (hB:Below wr.heap.size wr w')=>b3.out w' (a1.trans (hB.mono (Qf a5.out ah))) h (M8 av));rw[e3]at aB;have aj:=uh (fun W1=>HY.out pre (cg,h) W1 ⟨M,a7⟩);unfold Mr at aj;have aV:=uh (fun w' X (V:Turn [] wr X w')=>af.out w' (a1.trans (V.below.mono (Qf a5.out ah))));obtain⟨xa,xb,xc,N⟩:=h;simp only at aX az aj;have aR:=GP ⟨xa,xb,xc,N⟩;simp only at aR;have k1:IntKind.i64.wrap ((z:Int)-(cg:Int))=(z:Int)-(cg:Int):=i64_in _ O;have k2:decide (((z:Int)-(cg:Int))<(N:Int))=false:=b_ O;have k3:¬((z:Int)-(cg:Int))<(N:Int):=O;have k4:(cg:Int)<(z:Int):=O;have ay:=uh a2;have b2:=uh a7;have aZ:=uh a8;have Hg:=uh (af.out wr a1);have aM:=uh (r_ (C_ wr))
   have HS:=uh (fun w' U (V:Turn [] wr [(U,.cells #[yV xa,iV xb,iV xc,iV N] 125)] w')=>
    (⟨(V.below.cell (p:=(aD Bs 0)) (c_ wr _ aq)).trans aq,(V.below.cell (p:=(aD sb 1)) (c_ wr _ aa.c1)).trans aa.c1,V.range1⟩:w'.cell? (aD Bs 0)=some (pt sb) /\ w'.cell? (aD sb 1)=some (pt tb) /\ w'.rangeAt U 0 [yV xa,iV xb,iV xc,iV N]))
   have aY:sb<wb.heap.size:=c_ wb _ HA.out.c0;have a4:=HG.out pre wr a8
   have aE:=uh (fun w8 w' U (k:KpD wb.heap.size D w' w8) (V:Turn [] wr [(U,.cells #[yV xa,iV xb,iV xc,iV N] 125)] w')=>by
    have h:=HS.out w' U V;have h9:wr.heap.size <= U:=(V.new U (by simp[keys])).resolve_left (by simp[keys]);have h8:=k.same U _ (V.has.own _ _ (d_ ..)) rfl (fun hd=>by have:=(an wr a4 U (am wr w' U a4 V.below hd)).1;omega);have h7:=k.same Bs _ ((V.below.block Bs (Qk a3)).trans a3) rfl (fun hd=>(an wr a4 Bs (am wr w' Bs a4 V.below hd)).2 rfl);exact(⟨(Has.one h7).cell (d_ ..) 0,(k.below.cell (p:=(aD sb 1)) aY).trans h.2.1,(Has.one h8).range (d_ ..)⟩:w8.cell? (aD Bs 0)=some (pt sb) /\ w8.cell? (aD sb 1)=some (pt tb) /\ w8.rangeAt U 0 [yV xa,iV xb,iV xc,iV N]))
   have b0:=uh (fun w8 w' U (hj:J (pre++[(cg,⟨xa,xb,xc,N⟩)]) w8) (k:KpD wb.heap.size D w' w8) (V:Turn [] wr [(U,.cells #[yV xa,iV xb,iV xc,iV N] 125)] w')=>
    (⟨hj,(a1.trans (V.below.mono (Qf a5.out ah))).trans k.below,k.same Bs _ ((V.below.block Bs (Qk a3)).trans a3) rfl (fun hd=>(an wr a4 Bs (am wr w' Bs a4 V.below hd)).2 rfl),Qf ah (Qf V.size k.size)⟩:J (pre++[(cg,⟨xa,xb,xc,N⟩)]) w8 /\ Below wb.heap.size wb w8 /\ w8.heap[Bs]?= some (bS sb) /\ w.heap.size <= w8.heap.size))
   clear a4 a8 aa ap a7 a1 a3 a2 ab e1 e2 e3 e4 av HY
   gi_wp2_with (first
    | (gi_at_call 67;refine(N_.2 Hg.out).mono ?_;rintro e w' ⟨rfl,hw⟩;rw[hw];clear hw w')
    | (gi_at_call 83;refine(N_.2 ag.out).mono ?_;rintro e w1 ⟨rfl,aJ⟩;have T2:=(aM.out.call aJ).alloc zH;have aS:(w1.alloc zH).there w1.heap.size 0 4:=T2.there1;have aF:=uh (T2.laid [yV xa,iV xb,iV xc,iV N] rfl);clear aJ T2)
    | (show wpListIn _ _ _ _ _ (⟨_,Op.store 125 _ _,_,_,_,_⟩::_) _ _;refine Gj (Gc _ _) rfl (by intro c h;cases h) (wp_store_mid 125 _ _ rfl _ 0 #[yV xa,iV xb,iV xc,iV N] rfl rfl aS ac aR ?_);clear aS)
    | fail)
   generalize(w1.alloc zH).setCells w1.heap.size 0 [yV xa,iV xb,iV xc,iV N]=w5 at*;generalize w1.heap.size=U at*;have ae:=uh aF.out.drew;have a0:=HS.out _ _ ae.out;have aC:=uh (aB.out _ ae.out.below);have b1:=aj;clear aF q0 aq Hg ag aM;refine Ge ?_;refine Bh (S:=fun W'=>W'.cell? (aD Bs 0)=some (pt sb) /\ W'.cell? (aD sb 1)=some (pt tb) /\ W'.rangeAt U 0 [yV xa,iV xb,iV xc,iV N]) 28 ?_;refine Jr 0 19 y a0 ?_;refine Jr 1 20 y a0 ?_;refine Jr 2 21 y a0 ?_;refine N6 3 22 y a0 (fun w Z=>Z.1) ?_;refine Jr 4 23 y a0 ?_;refine Jr 5 24 y a0 ?_;refine N6 6 25 y a0 (fun w Z=>Z.2.1) ?_;refine NU 7 26 y rfl rfl (by rfl) kr kr kr (fun _ _ _ _ h=>h) a0 (fun _=>rfl) (fun w' Z=>Xa 125 _ rfl U 0 rfl [yV xa,iV xb,iV xc,iV N] _ Z.2.2 underlying125 rfl ac) ?_;simp only[G7,G6];refine Ga (i:=8) kr rfl (fun K hK=>?_)
   go_simp
   refine(N_.2 aC.out).mono ?_;rintro e w6 ⟨rfl,aK⟩;have a6:=uh (ae.out.call aK);have E:=HS.out _ _ a6.out;clear aK aC ae a0;refine hK.out _ _ E ?_;clear hK K;simp only[Gb,G7,G6];refine Jr 9 28 y E ?_;refine Jr 10 29 y E ?_;refine Jr 11 30 y E ?_;refine Jr 12 31 y E ?_;refine N6 13 32 y E (fun w Z=>Z.2.2 3 _ rfl) ?_;refine N6 14 33 y E (fun w Z=>Z.1) ?_;refine Jr 16 35 y E ?_;refine Ga (i:=15) kr rfl (fun K hK=>?_)
   go_simp
   refine(N_.2 (aV.out _ _ a6.out)).mono ?_;rintro e w7 ⟨rfl,b9⟩;subst b9;refine hK.out _ _ E ?_;clear hK K;simp only[Gb,G7,G6];refine Jr 17 36 y E ?_;refine Jr 18 37 y E ?_;refine Jr 19 38 y E ?_;refine Jr 20 39 y E ?_;refine Jr 21 40 y E ?_;refine Jr 22 41 y E ?_;refine NU 23 42 y rfl rfl (by rfl) kr kr kr (fun _ _ _ _ h=>h) E (fun _=>rfl) (fun w' Z=>Xa 125 _ rfl U 0 rfl [yV xa,iV xb,iV xc,iV N] _ Z.2.2 underlying125 rfl ac) ?_;simp only[G7,G6];refine Jr 24 43 y E ?_;obtain⟨fn,tmps,assign,body,hy,hR⟩:=b1.out _ (HJ.out pre wr _ none aZ.out (Gn a6.out.below) (fun r e=>by cases e));have HR:=uh hR;clear hR;refine Ga (i:=25) kr rfl (fun K hK=>?_)
   go_simp
   refine HR.out.mono ?_;rintro e w8 ⟨rfl,aL,au⟩
   · have a9:=aE.out _ _ _ au a6.out
     refine hK.out _ _ a9 ?_;clear hK K;simp only[Gb,G7,G6];refine Jr 26 45 y a9 ?_;refine Jr 27 46 y a9 ?_;refine Gx kr ?_ _;refine z_ ?_;have ba:=a9.2.2 3 _ rfl;have HN:=uh (b0.out _ _ _ aL au a6.out);clear a9 E a6 HS aE aL au HR hy
     gi_wp2_with fail
     go_roundw
     case rel=>exact⟨pre++[(cg,⟨xa,xb,xc,N⟩)],M,cg+N,by rw[b2.out];simp,by go_num,ay.out,HN.out.1,HN.out.2.1,HN.out.2.2.1,HN.out.2.2.2⟩
     case measure=>simp[intOf];omega
theorem XV (w:World)(sb a aw tb:Nat){W:List Nat}(a8:Option Addr)(a2:Nat)(L:List Ty)(hA:SpAt w sb a aw tb W a8 a2 L)(hf:W.length <= 65536)(hu:∀v∈W,v<18446744073709551616)(aC:∀t∈L,TyIn t)(hL:L.length <= 1000)
  (cs:List Ce)(hC:Chain L W 0 cs (W.length/2)):
  Calls prog 115 #[pt sb] w fun e w'=>∃ao cap l,e=.returned (.slice ao cs.length cap) /\ Gh 127 5 ao cs.length cap (ces cs) l /\ Turn [] w l w':=by
 refine(N_ (n:=6)).1 ?_;have h3:Fence.wide.fn 115:= trivial;have h6:Fence.wide.fn 80:= trivial;have h7:Fence.wide.fn 133:= trivial;have ah:Fence.wide.round=none:=rfl;have h1:1 <= 6:=O;have an:sb<w.heap.size:=c_ w _ hA.c0;have am:=hC.len;have a5:cs.length <= 32768:=O;refine callsIn_of_wp_marks func115 rfl h3 ?_ ah;simp only[ntmps115,Z_,B_,Qj,Nat.reduceAdd,Nat.reduceSub,S_,R_,Qc,X_,L_,Qd];have HC:=uh hC;have HA:=uh hA;have ac:=uh (r_ (C_ w));clear hA hC am
 gi_wp2_with (first
  | (gi_at_call 80;refine(RR (6-1) sb _).mono ?_;rintro e w' ⟨rfl,hw⟩;rw[hw];clear hw w')
  | fail)
 obtain⟨E,aH⟩:∃E,w.heap.size=E:=⟨_,rfl⟩;have Z:=(ac.out.alloc (.cells #[.slice none 0 0] 58)).alloc (bS sb);have a7:((w.alloc (.cells #[.slice none 0 0] 58)).alloc (bS sb)).heap.size=w.heap.size+1+1:=by simp
 simp only[Y_]at Z;generalize(w.alloc (.cells #[.slice none 0 0] 58)).alloc (bS sb)=W0 at Z a7 ⊢;have R8:Below w.heap.size w W0:=Z.below;rw[aH]at Z a7 an ⊢;clear ac;have aA:W0.heap[E+1]?= some (bS sb):=Z.has.own _ _ (by simp);have T8:Turn [] w ([]++[(E,.cells #[.slice none 0 0] 58),(E+1,bS sb)]) W0:=Z.perm po;clear Z;have az:SpAt w sb a aw tb W a8 a2 L:=HA.out;have a1:w.heap.size <= W0.heap.size:=R8.size
 apply JD (β:=Nat) ah h1 (gf:=133) (lb:=#[pt (E+1)]) rfl h7 (enters_of func133 kr rfl)
  (C5 (6-1) O w sb a aw tb W a8 a2 L az hf hu aC hL _ HC.out (E+1) (KF E) (F6 E (E+1)) (fun A h=>h) (fun A B b hg hB=>KF.old hg hB) W0 R8 aA)
  (fun h k=>h.t k) (KpD.b O (fun W l o' hl b=>KF.put O o')) (T_ _ _) (fun _=>rfl)
  (fun pre W'=>∃ao cap J,Gh 127 5 ao pre.length cap (ces pre) J /\ pre.length <= 32768 /\ Turn [] w (J++[(E,.cells #[.slice ao pre.length cap] 58),(E+1,bS sb)]) W')
  (fun x V pre W'=>∃ao cap J,Gh 127 5 ao pre.length cap (ces pre) J /\ pre.length+1 <= 32768 /\ Turn [] w ((V,GQ x)::(J++[(E,.cells #[.slice ao pre.length cap] 58),(E+1,bS sb)])) W')
  (fun s A D row ⟨ao,cap,J,N,e2,M⟩ hg hr=>⟨ao,cap,J,N,e2,M.grownB a1 (Mg N) hg hr⟩)
  (fun x V s A D row ⟨ao,cap,J,N,e2,M⟩ hg hr=>⟨ao,cap,J,N,e2,M.grownB a1 (by
    intro y U;rcases t_.1 U with rfl|U
    ·rfl
    ·exact Mg N y U) hg hr⟩)
  ⟨none,0,[],Zb _ _,by simp,T8⟩
  (fun pre W' ⟨ao,cap,J,N,e2,M⟩=>SD N M)
 case hassign=>
  rintro l1 pre x G ⟨aM,af⟩ ⟨ao,cap,J,N,e2,M⟩;have aK:pre.length+1 <= 32768:=by rw[af,e_,B_]at a5;omega
  have T2:=M.alloc (.cells #[iV 0,yV 0,iV 0,iV 0,iV 0] 127);have aj:(G.alloc (.cells #[iV 0,yV 0,iV 0,iV 0,iV 0] 127)).there G.heap.size 0 5:=T2.there1;have au:=uh (T2.laid [iV x.1,yV x.2.tag,iV x.2.typ,iV x.2.len,iV x.2.size] rfl);have HX:=uh (((r_ (C_ G)).alloc (.cells #[iV 0,yV 0,iV 0,iV 0,iV 0] 127)).laid [iV x.1,yV x.2.tag,iV x.2.typ,iV x.2.len,iV x.2.size] rfl);have a0:=LQ;have ag:=Rb x;have aa:=SD N M;have aB:=uh N;have aP:=M.size;unfold Mr;clear T2 af M N
  gi_wp2_with (first
   | (show wpListIn _ _ _ _ _ (⟨_,Op.store 127 _ _,_,_,_,_⟩::_) _ _;refine Gj (Gu _ _ _) rfl (by intro c h;cases h) (wp_store_mid 127 _ _ rfl _ 0 #[iV x.1,yV x.2.tag,iV x.2.typ,iV x.2.len,iV x.2.size] rfl rfl aj a0 ag ?_);clear aj)
   | fail)
  have HK:=uh (⟨((KeepsOthers.alloc _ _).trans (GT _ _ _)).from _,KpD.of HX.out O (fun b hb=>by cases hb) (fun b hb hd=>KF.old aa HX.out.below hd)⟩:
   KeepsFrom W0.heap.size G ((G.alloc (.cells #[iV 0,yV 0,iV 0,iV 0,iV 0] 127)).setCells G.heap.size 0 [iV x.1,yV x.2.tag,iV x.2.typ,iV x.2.len,iV x.2.size]) /\ KpD w.heap.size (KF E) G ((G.alloc (.cells #[iV 0,yV 0,iV 0,iV 0,iV 0] 127)).setCells G.heap.size 0 [iV x.1,yV x.2.tag,iV x.2.typ,iV x.2.len,iV x.2.size]))
  clear HX ag aa;generalize(G.alloc (.cells #[iV 0,yV 0,iV 0,iV 0,iV 0] 127)).setCells G.heap.size 0 [iV x.1,yV x.2.tag,iV x.2.typ,iV x.2.len,iV x.2.size]=W3 at*;generalize G.heap.size=V at*;exact⟨HK.out.1,HK.out.2,V,rfl,ao,cap,J,aB.out,aK,au.out⟩
 case hbody=>
  rintro l1 pre x V G-⟨ao,cap,J,N,e2,M⟩;have q0:G.cell? (aD E 0)=some (.slice ao pre.length cap):=M.has.cell (b:=E) (c:=#[.slice ao pre.length cap]) (e:=58) (f:=(0,0)) (by simp) 0;have aL:G.rangeAt V 0 [iV x.1,yV x.2.tag,iV x.2.typ,iV x.2.len,iV x.2.size]:=M.range1;have a0:=LQ;have ay:pre.length+1 <= maxLen:=by unfold maxLen;omega
  have aE:(pre.length+1)*40 <= 140737488355328:=O
  have aG:∀u∈LB x,u.oneCell'=true:=by
   intro u hu;simp only[LB,t_,Zu,or_false]at hu;rcases hu with rfl|rfl|rfl|rfl|rfl<;>rfl
  have aN:=SD N M.tail;have HT:=uh M;have H1:=uh N;have HH:=uh (M.has.sub (l':=J++[(E,.cells #[.slice ao pre.length cap] 58)]) (by simp));clear M N
  gi_wp2_with (first
   | (show wpListIn _ _ _ _ _ (⟨_,Op.load 127 _,_,_,_,_⟩::_) _ _;refine Gj (Gu _ _ _) rfl (by intro c h;cases h) (wp_load_mid 127 _ rfl V 0 rfl [iV x.1,yV x.2.tag,iV x.2.typ,iV x.2.len,iV x.2.size] _ aL underlying127 rfl a0 ?_))
   | (gi_at_builtin;have T3:=uh (HT.out.alloc (.cells #[iV x.1,yV x.2.tag,iV x.2.typ,iV x.2.len,iV x.2.size] 127));have K3:=uh (((r_ HH.out).alloc (.cells #[iV x.1,yV x.2.tag,iV x.2.typ,iV x.2.len,iV x.2.size] 127)).perm (l2:=J++[(G.heap.size,.cells #[iV x.1,yV x.2.tag,iV x.2.typ,iV x.2.len,iV x.2.size] 127),(E,.cells #[.slice ao pre.length cap] 58)]) po);refine Gj (Gu _ _ _) rfl (by intro c h;cases h) (JB _ _ rfl Vz rfl H1.out (R:=[(G.heap.size,.cells #[iV x.1,yV x.2.tag,iV x.2.typ,iV x.2.len,iV x.2.size] 127),(E,.cells #[.slice ao pre.length cap] 58)]) K3.out.has rfl (news:=[iV x.1,yV x.2.tag,iV x.2.typ,iV x.2.len,iV x.2.size]) rfl (Qy (A_ _ _)) aG ay aE ?_);intro a9 p9 l9 w4 a6 V4 aJ;have T4:=(((T3.out.perm (l2:=(J++[(G.heap.size,.cells #[iV x.1,yV x.2.tag,iV x.2.typ,iV x.2.len,iV x.2.size] 127),(E,.cells #[.slice ao pre.length cap] 58)])++[(V,GQ x),(E+1,bS sb)]) po)).trans (V4.more ((T3.out.perm (l2:=(J++[(G.heap.size,.cells #[iV x.1,yV x.2.tag,iV x.2.typ,iV x.2.len,iV x.2.size] 127),(E,.cells #[.slice ao pre.length cap] 58)])++[(V,GQ x),(E+1,bS sb)]) po).has))).perm (l2:=(E,.cells #[.slice ao pre.length cap] 58)::(l9++[(G.heap.size,.cells #[iV x.1,yV x.2.tag,iV x.2.typ,iV x.2.len,iV x.2.size] 127),(V,GQ x),(E+1,bS sb)])) po;have q5:=T4.cell1 0;have f5:=T4.free1 0;have K5:=((K3.out.trans V4).perm (l2:=(E,.cells #[.slice ao pre.length cap] 58)::(l9++[(G.heap.size,.cells #[iV x.1,yV x.2.tag,iV x.2.typ,iV x.2.len,iV x.2.size] 127)])) po).setCell 0 (.slice a9 (pre.length+1) p9);have av:=uh (T4.setCell 0 (.slice a9 (pre.length+1) p9));have ap:=uh (KpD.res (n₀:=w.heap.size) H1.out a6 K5 HH.out O (fun b hb=>(HT.out.new b (by simp[keys]at hb ⊢;exact .inr (.inl hb))).resolve_left (by simp[keys])));have aq:=uh (Turn.keepsOthers K5 HH.out (Kf H1.out));have ax:=uh a6;clear V4 T4 K5 K3 T3 aJ a6 q0)
   | fail)
  have aF:ces (pre++[x])=ces pre++[iV x.1,yV x.2.tag,iV x.2.typ,iV x.2.len,iV x.2.size]:=Ra _ _;have ae:(pre++[x]).length=pre.length+1:=by simp
  refine⟨aq.out.from _,ap.out,a9,p9,l9,by rw[ae,aF];exact ax.out,by omega,by rw[ae];exact(av.out.perm (l2:=[(G.heap.size,.cells #[iV x.1,yV x.2.tag,iV x.2.typ,iV x.2.len,iV x.2.size] 127),(V,GQ x)]++(l9++[(E,.cells #[.slice a9 (pre.length+1) p9] 58),(E+1,bS sb)])) po).drop⟩
 case hdone=>
  rintro D xs G hD rfl ⟨ao,cap,J,N,e2,M⟩ hK;have a4:Has G ((E,.cells #[.slice ao xs.length cap] 58)::(J++[(E+1,bS sb)])):=M.has.perm po;have q0:G.cell? (aD E 0)=some (.slice ao xs.length cap):=a4.cell (d_ ..) 0;have f0:G.frozen? (aD E 0)=false:=a4.free (d_ ..) 0;have HT:=uh M;have H1:=uh N;have HK:=uh hK;clear M N a4 hK
  gi_wp2_with fail
  have T9:=(HT.out.perm (l2:=(E,.cells #[.slice ao xs.length cap] 58)::(J++[(E+1,bS sb)])) po).setCell 0 (.slice ao xs.length cap)
  have ab:(G.setCell (aD E 0) (.slice ao xs.length cap)).heap[D]?= some (.deferred (some [])):=by
   rw[Below.heap_setCell _ _ _ _ (by show D≠E;omega)];exact HK.out
  have a3:=T9.grownB (B:=W0.heap.size) a1 (fun y U=>by
   rcases t_.1 U with rfl|U
   ·rfl
   rcases s_.1 U with U|U
   ·exact H1.out.cells y U
   ·rw[Qa.1 U];rfl) (grownBy_putObj' _ D (.deferred none)) (fun r e=>by cases e;exact⟨hD,_,ab,rfl⟩)
  have a5:((G.setCell (aD E 0) (.slice ao xs.length cap)).putObj D (.deferred none)).cell? (aD E 0)=some (.slice ao xs.length cap):=a3.cell1 0;have ak:=uh a3;clear T9 a3 HT q0 f0;refine⟨by simp,.inl ⟨_,_,rfl,run_takeDeferred ab,?_⟩⟩;refine⟨.slice ao xs.length cap,?_,ao,cap,J,rfl,H1.out,(ak.out.perm (l2:=(E,.cells #[.slice ao xs.length cap] 58)::((E+1,bS sb)::J)) po).tail.tail⟩;simp[results,results115,go_sem,a5]
end
section
open Go Go.RowKit Go.Shelf Go.IntWalk
attribute [local go_sem] Oper.semAt_some
def XN (W:List Nat)(g:Nat)(rs:List Nat):List (Nat×Nat):=rs.map fun s=>(s,W.getD (2*g+1+s) 0)
def XP (x:Nat×Nat):Array Value:=#[iV x.1,uV x.2]
theorem BL {W:List Nat}{g i s:Nat}{rs:List Nat}(h:rs[i]?= some s):(XN W g rs)[i]?= some (s,W.getD (2*g+1+s) 0):=by unfold XN;rw[G_,h];rfl
theorem ZD (W:List Nat)(g:Nat)(rs:List Nat):(XN W g rs).length=rs.length:=by simp[XN]
theorem SQ {α:Type}{l:List α}{j:Nat}{d:α}(h:l[j]?= some d):l.take (j+1)=l.take j++[d]:=by rw[Qr,h];rfl
theorem TM {α:Type}{l:List α}{j:Nat}{d:α}(h:l[j]?= some d):l.drop j=d::l.drop (j+1):=by
 obtain⟨r,rfl⟩:=m_.1 h;exact List.drop_eq_getElem_cons r
theorem Ah {W:List Nat}{g i s:Nat}{rs:List Nat}(h:rs[i]?= some s):XN W g rs=(XN W g rs).take i++(s,W.getD (2*g+1+s) 0)::(XN W g rs).drop (i+1):=by
 rw[←TM (BL h),List.take_append_drop]
theorem BB (n:Nat)(r:Nat)(w:World):
  CallsIn Fence.wide n prog 238 #[pt r] w fun e w'=>e=.returned (.func (.func 253) #[] #[pt w.heap.size]) /\ w'=w.alloc (.cells #[pt r] 85):=by
 have y:Fence.wide.fn 238:= trivial;refine Xk func238 rfl y ?_ rfl;simp only[ntmps238,Z_,B_,Qj,Nat.reduceAdd,Nat.reduceSub,S_,R_,Qc,X_,L_,Qd]
 gi_wp2
 go_ret;exact⟨rfl,rfl⟩
theorem Ar {w:World}{b o:Nat}{xs r:List Value}(h:w.rangeAt b o (xs++r)):w.rangeAt b (o+xs.length) r:=fun j v y=>by
 have:=h (xs.length+j) v (by rw[Qg O,Yg];exact y)
 rwa [←Nat.add_assoc]at this
theorem DW (n:Nat)(hn:2 <= n)(wb:World)(M a aw g:Nat)(W:List Nat)(h:Hd)(t:Ty)(hA:ArAt wb a aw W)(hv:LN wb M a g h t)(ht:TyIn t)(he:t.err h.len=0)(hg:g <= 65536)(aL:∀s∈t.refs h.len,s<t.slots h.len /\ 2*g+1+s<W.length)
  (Bs:Nat)(D:World -> Nat -> Prop)(G:World -> Prop)(aC:∀A,G A -> ∀b,D A b -> b<A.heap.size /\ b≠Bs)(aj:∀A B b,G A -> Below A.heap.size A B -> D B b -> D A b)(w:World)(hw:Below wb.heap.size wb w)(ah:w.heap[Bs]?= some (.cells #[pt M] 85)):
  Uh Fence.wide n prog 253 #[pt Bs] XP (KpD wb.heap.size D) (fun pre x=>∃aS,XN W g (t.refs h.len)=pre++x::aS) (fun xs=>xs=XN W g (t.refs h.len)) G w:=fun l J E hW hJ hG hY h0=>by
 have b1:Bs<w.heap.size:=Qk ah;have af:E.heap[Bs]?= some (.cells #[pt M] 85):=(hW.block Bs b1).trans ah;have aK:Below wb.heap.size wb E:=hw.trans (hW.mono hw.size);have b2:Fence.wide.fn 253:= trivial;have b9:Fence.wide.fn 254:= trivial;have ba:Fence.wide.fn 214:= trivial;refine Xk func253 rfl b2 ?_ rfl;simp only[ntmps253,Z_,B_,Qj,Nat.reduceAdd,Nat.reduceSub,S_,R_,Qc,X_,L_,Qd];have h1:1 <= n:=O;have y:Fence.wide.round=none:=rfl;have h2:1 <= n-1:=O;have aX:=uh (fun w'=>gD w' t ht h.len he);have aV:=uh (fun w' (hB:Below wb.heap.size wb w') s v hs a5=>Fd w' (hA.below hB) (range_below hv hB) ht he hg s v hs a5);have HV:=uh (fun w' (hB:Below wb.heap.size wb w')=>(range_below hv hB:w'.rangeAt M 0 (G4 a g h t)));have b0:=uh (fun i s (hi:(t.refs h.len)[i]?= some s)=>aL s (q_ hi))
 have be:(t.refs h.len).length <= 65536:=by
  have h1:=JV t (t.slots h.len);have h2:t.refs h.len=KJ t (t.slots h.len):=rfl;obtain⟨hm,-,bc,-⟩:=L3.1 he;have:=GJ hm (n:=h.len) O;rw[h2];omega
 have aR:=JZ;generalize t.refs h.len=rs at*;generalize b5:t.slots h.len=sl at*;have aZ:=uh (fun i s (hi:rs[i]?= some s)=>Ah (W:=W) (g:=g) hi);have aP:=uh (ZD W g rs);have HY:=uh hY;have HJ:=uh hJ;have HG:=uh hG;have ac:=uh h0;have a9:=uh aK;have a4:E.cell? (aD Bs 0)=some (pt M):=(Has.one af).cell (d_ ..) 0;have ab:=uh af;have b8:=uh hA;obtain⟨tk,tw,tm⟩:=t;clear hY hJ hG hW hw ah af aK hA hv he ht aL h0 b5
 gi_wp2_with fail
 have am:Turn [] E [] E.drew:=(r_ (C_ E)).drew;have HS:=uh (fun w' X (V:Turn [] E X w')=>(⟨(V.below.cell (p:=(aD Bs 0)) (c_ E _ a4)).trans a4,HV.out w' (a9.out.trans (V.below.mono a9.out.size))⟩:(fun W'=>W'.cell? (aD Bs 0)=some (pt M) /\ W'.rangeAt M 0 (G4 a g h ⟨tk,tw,tm⟩)) w'));have hS:=HS.out _ _ am;have az:=uh am;clear am;refine Ge ?_;refine Bh (S:=fun W'=>W'.cell? (aD Bs 0)=some (pt M) /\ W'.rangeAt M 0 (G4 a g h ⟨tk,tw,tm⟩)) 15 ?_;refine N6 0 12 y hS (fun w Z=>Z.1) ?_;refine Jr 1 13 y hS ?_;refine Jr 2 14 y hS ?_;refine NU 3 15 y rfl rfl (by rfl) kr kr kr (fun _ _ _ _ h=>h) hS (fun _=>rfl) (fun w' Z=>Xa 79 _ rfl M 6 rfl [yV tk,iV tw,uV tm] _ (Ar (xs:=[pt a,iV g,yV h.tag,iV h.typ,iV h.len,iV h.size]) Z.2) underlying79 rfl aR) ?_;simp only[G7,G6];refine N6 4 16 y hS (fun w Z=>Z.1) ?_;refine Jr 5 17 y hS ?_;refine Jr 6 18 y hS ?_;refine Jr 7 19 y hS ?_;refine N6 8 20 y hS (fun w Z=>Z.2 4 _ rfl) ?_;refine Ga (i:=9) kr rfl (fun K hK=>?_)
 go_simp
 refine(N_.2 (aX.out _)).mono ?_;rintro e w3 ⟨a3,p3,l3,rfl,aJ,T3⟩;have T4:Turn [] E l3 w3:=az.out.trans T3;have U:=HS.out _ _ T4;have N:=uh T4;have aA:=uh aJ;refine hK.out _ _ U ?_;clear hK K T3 T4 aJ hS;simp only[Gb,G7,G6];refine Jr 10 11 y U ?_;refine Jr 11 22 y U ?_;refine Jr 12 23 y U ?_;refine Jr 13 3 y U ?_;refine Jr 14 4 y U ?_;refine Gx kr ?_ _;refine z_ ?_;have aQ:=U.1;have ak:=HG.out [] E ac.out
 have ay:=uh (fun x (hx:x∈l3)=>(⟨N.out.has.own x.1 x.2 hx,fun hd=>by
  have h1:=(aC E ak x.1 (aj E w3 x.1 ak N.out.below hd)).1;have h2:=(N.out.new x.1 (GE.2 ⟨x.2,hx⟩)).resolve_left (by simp[keys]);omega⟩:w3.heap[x.1]?= some x.2 /\ ¬D w3 x.1))
 have ax:=uh (HJ.out [] E _ none ac.out (Gn N.out.below) (fun r e=>by cases e));have au:=uh ((N.out.below.block Bs (Qk ab.out)).trans ab.out);have aB:=uh (a9.out.trans (N.out.below.mono a9.out.size));have aY:=uh N.out.has.nd;clear U HS az N ac ab a4 ak
 gi_wp2_with fail
 gi_loopw [26] (fun aq wr=>∃(i:Nat),i <= rs.length /\ aq=iV i /\ J ((XN W g rs).take i) wr /\ Below wb.heap.size wb wr /\ wr.heap[Bs]?= some (.cells #[pt M] 85) /\ (∀x∈l3,wr.heap[x.1]?= some x.2 /\ ¬D wr x.1)) (fun aq _=>rs.length-(intOf aq).toNat)
 case atStart=>exact⟨0,u_ _,by go_num,ax.out,aB.out,au.out,ay.out⟩
 case round=>
  clear ax aB au ay aQ;obtain⟨i,hi,rfl,a0,a6,a2,a1⟩:=hrel
  by_cases b4:i<rs.length
  · have b6:(i:Int)<(rs.length:Int):=O
    obtain⟨s,hs⟩:∃s,rs[i]?= some s:=⟨rs[i],a_ b4⟩;have a8:=b0.out i s hs;obtain⟨v,a5⟩:∃v,W[2*g+1+s]?= some v:=⟨W[2*g+1+s]'(a8.2),a_ _⟩;have ap:W.getD (2*g+1+s) 0=v:=(by rw[M_,a5];rfl);have a4:wr.cell? (aD Bs 0)=some (pt M):=(Has.one a2).cell (d_ ..) 0;have an:=aA.out.src (R:=[]) (w:=wr) (by rw[p_];exact⟨aY.out,fun b o hm=>(a1 (b,o) hm).1⟩);obtain⟨b3,b7,rfl,aF⟩:=an.form (by rw[GX];omega);have q3:=aF i _ (Nv hs);have HL:=uh (aV.out wr a6 s v a8.1 a5);have a7:=aZ.out i s hs;rw[ap]at a7;have aa:=HG.out _ wr a0;have ae:=uh (fun W1=>HY.out ((XN W g rs).take i) (s,v) W1 ⟨_,a7⟩);unfold XP at ae;have aH:(XN W g rs).take (i+1)=(XN W g rs).take i++[(s,v)]:=(by rw[SQ (BL hs),ap]);have aW:=uh aH;have aU:=uh a0
    have HK:=uh (fun w' w8 (hB:Below wr.heap.size wr w') (k:KpD wb.heap.size D w' w8)=>(⟨(a6.trans (hB.mono a6.size)).trans k.below,k.same Bs _ ((hB.block Bs (Qk a2)).trans a2) rfl (fun hd=>(aC wr aa Bs (aj wr w' Bs aa hB hd)).2 rfl),fun x hx=>by
     have aM:=(hB.block x.1 (Qk (a1 x hx).1)).trans (a1 x hx).1;have aN:¬D w' x.1:=fun hd=>(a1 x hx).2 (aj wr w' x.1 aa hB hd)
     exact⟨k.same x.1 x.2 aM (aA.out.cells x hx) aN,fun hd=>aN (k.own x.1 (Qk aM) hd)⟩⟩:
      Below wb.heap.size wb w8 /\ w8.heap[Bs]?= some (.cells #[pt M] 85) /\ (∀x∈l3,w8.heap[x.1]?= some x.2 /\ ¬D w8 x.1)))
    clear hs a8 a5 ap an aF a7 aa aH a0 a6 a2 a1
    gi_wp2_with (first
     | (gi_at_call 214;refine(N_.2 HL.out).mono ?_;rintro e w5 ⟨rfl,ag⟩;have av:=uh ag;obtain⟨fn,tmps,assign,body,hy,hR⟩:=ae.out _ (HJ.out _ wr _ none aU.out (Gn ag) (fun r e=>by cases e));have HR:=uh hR;clear hR ag HL q3 a4)
     | fail)
    refine HR.out.mono ?_;rintro e w8 ⟨rfl,aE,aG⟩;have HN:=uh (HK.out _ _ av.out aG);have aT:=uh aE;clear aE aG HR hy HK ae av
    gi_wp2_with fail
    go_roundw
    case rel=>exact⟨i+1,by omega,by go_num,by rw[aW.out];exact aT.out,HN.out.1,HN.out.2.1,HN.out.2.2⟩
    case measure=>simp[intOf];omega
  · obtain rfl:i=rs.length:=O
    have bd:¬((rs.length:Nat):Int)<(rs.length:Int):=O;have HX:=uh (show J (XN W g rs) wr by rw[←aP.out,D_]at a0;exact a0);clear a0 a6 a2 a1
    gi_wp2_with fail
    go_end0;exact⟨⟨_,rfl⟩,HX.out⟩
end
section
open Go Go.RowKit Go.Shelf Go.IntWalk
attribute [local go_sem] Oper.semAt_some
theorem Ag (w:World)(M a aw g:Nat)(W:List Nat)(h:Hd)(t:Ty)(hA:ArAt w a aw W)(hv:LN w M a g h t)(ht:TyIn t)(he:t.err h.len=0)(hg:g <= 65536)(ag:∀s∈t.refs h.len,s<t.slots h.len /\ 2*g+1+s<W.length):
  Calls prog 213 #[pt M] w fun e w'=>∃ao cap l,e=.returned (.slice ao (t.refs h.len).length cap) /\ Gh 3 1 ao (t.refs h.len).length cap (J7 (t.refs h.len)) l /\ Turn [] w l w':=by
 refine(N_ (n:=6)).1 ?_;have h3:Fence.wide.fn 213:= trivial;have h6:Fence.wide.fn 238:= trivial;have h7:Fence.wide.fn 253:= trivial;have af:Fence.wide.round=none:=rfl;have h1:1 <= 6:=O;have am:M<w.heap.size:=c_ w _ (hv.c (i:=0) rfl)
 have ab:(t.refs h.len).length <= 65536:=by
  have h1:=JV t (t.slots h.len);have h2:t.refs h.len=KJ t (t.slots h.len):=rfl;obtain⟨hm,-,aH,-⟩:=L3.1 he;have:=GJ hm (n:=h.len) O;rw[h2];omega
 refine callsIn_of_wp_marks func213 rfl h3 ?_ af;simp only[ntmps213,Z_,B_,Qj,Nat.reduceAdd,Nat.reduceSub,S_,R_,Qc,X_,L_,Qd];have an:=uh (fun Bs D G az ay w0 hw a3=>DW (6-1) O w M a aw g W h t hA hv ht he hg ag Bs D G az ay w0 hw a3);generalize t.refs h.len=rs at*;have a1:=uh (ZD W g rs);have aa:=uh (r_ (C_ w));clear hA hv ht he hg ag
 gi_wp2_with (first
  | (gi_at_call 238;refine(BB (6-1) M _).mono ?_;rintro e w' ⟨rfl,hw⟩;rw[hw];clear hw w')
  | fail)
 obtain⟨E,aC⟩:∃E,w.heap.size=E:=⟨_,rfl⟩;have T5:=(aa.out.alloc (.cells #[.slice none 0 0] 136)).alloc (.cells #[pt M] 85);have a6:((w.alloc (.cells #[.slice none 0 0] 136)).alloc (.cells #[pt M] 85)).heap.size=w.heap.size+1+1:=by simp
 simp only[Y_]at T5;generalize(w.alloc (.cells #[.slice none 0 0] 136)).alloc (.cells #[pt M] 85)=W0 at T5 a6 ⊢;have R8:Below w.heap.size w W0:=T5.below;rw[aC]at T5 a6 am ⊢;clear aa;have a3:W0.heap[E+1]?= some (.cells #[pt M] 85):=T5.has.own _ _ (by simp);have T8:Turn [] w ([]++[(E,.cells #[.slice none 0 0] 136),(E+1,.cells #[pt M] 85)]) W0:=T5.perm po;clear T5;have a0:w.heap.size <= W0.heap.size:=R8.size
 apply JD (β:=Nat) af h1 (gf:=253) (lb:=#[pt (E+1)]) rfl h7 (enters_of func253 kr rfl)
  (an.out (E+1) (KF E) (F6 E (E+1)) (fun A h=>h) (fun A B b hg hB=>KF.old hg hB) W0 R8 a3)
  (fun h k=>h.t k) (KpD.b O (fun W l o' hl b=>KF.put O o')) (T_ _ _) (fun _=>rfl)
  (fun pre W'=>∃ao cap J,Gh 3 1 ao pre.length cap (J7 (pre.map (·.1))) J /\ pre.length <= 65536 /\ Turn [] w (J++[(E,.cells #[.slice ao pre.length cap] 136),(E+1,.cells #[pt M] 85)]) W')
  (fun(x:Nat×Nat) (nb:Nat) pre W'=>∃ao cap J,Gh 3 1 ao pre.length cap (J7 (pre.map (·.1))) J /\ pre.length+1 <= 65536 /\ Turn [] w (J++[(E,.cells #[.slice ao pre.length cap] 136),(E+1,.cells #[pt M] 85)]) W')
  (fun s A D row ⟨ao,cap,J,U,Z,N⟩ hg hr=>⟨ao,cap,J,U,Z,N.grownB a0 (Mg U) hg hr⟩)
  (fun x nb s A D row ⟨ao,cap,J,U,Z,N⟩ hg hr=>⟨ao,cap,J,U,Z,N.grownB a0 (Mg U) hg hr⟩)
  ⟨none,0,[],Zb _ _,by simp,T8⟩
  (fun pre W' ⟨ao,cap,J,U,Z,N⟩=>SD U N)
 case hassign=>
  rintro l1 pre x V ⟨aG,ae⟩ ⟨ao,cap,J,U,Z,N⟩
  have aF:pre.length+1 <= 65536:=by
   have h9:=a1.out;rw[ae,e_,B_]at h9;omega
  have aJ:w.heap.size <= V.heap.size:=N.size;have HX:=uh (⟨U,N⟩:Gh 3 1 ao pre.length cap (J7 (pre.map (·.1))) J /\ Turn [] w (J++[(E,.cells #[.slice ao pre.length cap] 136),(E+1,.cells #[pt M] 85)]) V);unfold XP;clear N U ae
  gi_wp2_with fail
  obtain⟨z,-⟩:∃z:Nat,z=0:=⟨0,rfl⟩;exact⟨KeepsFrom.refl _ _,⟨T_ _ _,g_ _,fun _ _ h _ _=>h,fun _ _ h=>h⟩,z,rfl,ao,cap,J,HX.out.1,aF,HX.out.2⟩
 case hbody=>
  rintro l1 pre x nb V-⟨ao,cap,J,U,Z,N⟩;have q0:V.cell? (aD E 0)=some (.slice ao pre.length cap):=N.has.cell (b:=E) (c:=#[.slice ao pre.length cap]) (e:=136) (f:=(0,0)) (by simp) 0;have ax:pre.length+1 <= maxLen:=by unfold maxLen;omega
  have aA:(pre.length+1)*8 <= 140737488355328:=O;have HT:=uh N;have H1:=uh U;have HH:=uh (N.has.sub (l':=J++[(E,.cells #[.slice ao pre.length cap] 136)]) (by simp));clear N U
  gi_wp2_with (first
   | (gi_at_builtin;have T3:=uh (HT.out.alloc (.cells #[iV x.1] 3));have K3:=uh (((r_ HH.out).alloc (.cells #[iV x.1] 3)).perm (l2:=J++[(V.heap.size,.cells #[iV x.1] 3),(E,.cells #[.slice ao pre.length cap] 136)]) po);refine Gj (Gu _ _ _) rfl (by intro c h;cases h) (JB _ _ rfl L4 rfl H1.out (R:=[(V.heap.size,.cells #[iV x.1] 3),(E,.cells #[.slice ao pre.length cap] 136)]) K3.out.has rfl (news:=[iV x.1]) rfl (Qy (A_ _ _)) (by simp[Value.oneCell']) ax aA ?_);intro a9 p9 l9 w4 a5 V4 aE;have T4:=(((T3.out.perm (l2:=(J++[(V.heap.size,.cells #[iV x.1] 3),(E,.cells #[.slice ao pre.length cap] 136)])++[(E+1,.cells #[pt M] 85)]) po)).trans (V4.more ((T3.out.perm (l2:=(J++[(V.heap.size,.cells #[iV x.1] 3),(E,.cells #[.slice ao pre.length cap] 136)])++[(E+1,.cells #[pt M] 85)]) po).has))).perm (l2:=(E,.cells #[.slice ao pre.length cap] 136)::(l9++[(V.heap.size,.cells #[iV x.1] 3),(E+1,.cells #[pt M] 85)])) po;have q5:=T4.cell1 0;have f5:=T4.free1 0;have K5:=((K3.out.trans V4).perm (l2:=(E,.cells #[.slice ao pre.length cap] 136)::(l9++[(V.heap.size,.cells #[iV x.1] 3)])) po).setCell 0 (.slice a9 (pre.length+1) p9);have au:=uh (T4.setCell 0 (.slice a9 (pre.length+1) p9));have ap:=uh (KpD.res (n₀:=w.heap.size) H1.out a5 K5 HH.out O (fun b hb=>(HT.out.new b (by simp[keys]at hb ⊢;exact .inl hb)).resolve_left (by simp[keys])));have aq:=uh (Turn.keepsOthers K5 HH.out (Kf H1.out));have av:=uh a5;clear V4 T4 K5 K3 T3 aE a5 q0)
   | fail)
  have aB:J7 ((pre++[x]).map (·.1))=J7 (pre.map (·.1))++[iV x.1]:=by rw[Za,GS];rfl
  have ac:(pre++[x]).length=pre.length+1:=by simp
  refine⟨aq.out.from _,ap.out,a9,p9,l9,by rw[ac,aB];exact av.out,by omega,by rw[ac];exact(au.out.perm (l2:=[(V.heap.size,.cells #[iV x.1] 3)]++(l9++[(E,.cells #[.slice a9 (pre.length+1) p9] 136),(E+1,.cells #[pt M] 85)])) po).drop⟩
 case hdone=>
  rintro D xs V hD a7 ⟨ao,cap,J,U,Z,N⟩ hK;have ah:xs.length=rs.length:=by rw[a7];exact a1.out
  have aj:J7 (xs.map (·.1))=J7 rs:=by
   rw[a7];unfold XN;rw[Zv]
   congr 1
   exact List.map_id _
  rw[ah]at U Z N;rw[aj]at U;clear a7 ah aj;have a4:Has V ((E,.cells #[.slice ao rs.length cap] 136)::(J++[(E+1,.cells #[pt M] 85)])):=N.has.perm po;have q0:V.cell? (aD E 0)=some (.slice ao rs.length cap):=a4.cell (d_ ..) 0;have f0:V.frozen? (aD E 0)=false:=a4.free (d_ ..) 0;have HT:=uh N;have H1:=uh U;have HK:=uh hK;clear N U a4 hK
  gi_wp2_with fail
  have T9:=(HT.out.perm (l2:=(E,.cells #[.slice ao rs.length cap] 136)::(J++[(E+1,.cells #[pt M] 85)])) po).setCell 0 (.slice ao rs.length cap)
  have a8:(V.setCell (aD E 0) (.slice ao rs.length cap)).heap[D]?= some (.deferred (some [])):=by
   rw[Below.heap_setCell _ _ _ _ (by show D≠E;omega)];exact HK.out
  have a2:=T9.grownB (B:=W0.heap.size) a0 (fun y hy=>by
   rcases t_.1 hy with rfl|hy
   ·rfl
   rcases s_.1 hy with hy|hy
   ·exact H1.out.cells y hy
   ·rw[Qa.1 hy];rfl) (grownBy_putObj' _ D (.deferred none)) (fun r e=>by cases e;exact⟨hD,_,a8,rfl⟩)
  have ab:((V.setCell (aD E 0) (.slice ao rs.length cap)).putObj D (.deferred none)).cell? (aD E 0)=some (.slice ao rs.length cap):=a2.cell1 0;have ak:=uh a2;clear T9 a2 HT q0 f0;refine⟨by simp,.inl ⟨_,_,rfl,run_takeDeferred a8,?_⟩⟩;refine⟨.slice ao rs.length cap,?_,ao,cap,J,rfl,H1.out,(ak.out.perm (l2:=(E,.cells #[.slice ao rs.length cap] 136)::((E+1,.cells #[pt M] 85)::J)) po).tail.tail⟩;simp[results,results213,go_sem,ab]
end
section
open Go Go.RowKit Go.Shelf Go.IntWalk
attribute [local go_sem] Oper.semAt_some
abbrev Ed:=Nat×Nat×Int×Nat
def DJ (W A:List Nat)(c s:Nat):Ed:=(c,s,NT A (W.getD (2*c+1+s) 0),W.getD (2*c+1+s) 0)
def LH (L:List Ty)(W A:List Nat)(c:Ce):List Ed:=((tyAt L c.2.typ).refs c.2.len).map (DJ W A c.1)
def R9 (L:List Ty)(W A:List Nat)(os:List Ce):List Ed:=os.flatMap (LH L W A)
def YP (x:Ed):Array Value:=#[.agg #[iV x.1,iV x.2.1,iV x.2.2.1],uV x.2.2.2]
theorem WS {L:List Ty}{W A:List Nat}{c:Ce}{j s:Nat}(h:((tyAt L c.2.typ).refs c.2.len)[j]?= some s):(LH L W A c)[j]?= some (DJ W A c.1 s):=by unfold LH;rw[G_,h];rfl
theorem Df {L:List Ty}{W A:List Nat}{os:List Ce}{i:Nat}{c:Ce}(h:os[i]?= some c):R9 L W A (os.take (i+1))=R9 L W A (os.take i)++LH L W A c:=by
 rw[K8 h];unfold R9;rw[List.flatMap_append];simp
theorem AV {L:List Ty}{W A:List Nat}{os:List Ce}{i j s:Nat}{c:Ce}(h:os[i]?= some c)(y:((tyAt L c.2.typ).refs c.2.len)[j]?= some s):
  ∃r,R9 L W A os=(R9 L W A (os.take i)++(LH L W A c).take j)++DJ W A c.1 s::r:=by
 have h1:R9 L W A os=R9 L W A (os.take i)++(LH L W A c++R9 L W A (os.drop (i+1))):=by
  conv=>lhs;rw[←List.take_append_drop i os,NF h]
  unfold R9;rw[List.flatMap_append,Yj]
 have h2:LH L W A c=(LH L W A c).take j++DJ W A c.1 s::(LH L W A c).drop (j+1):=by
  rw[←TM (WS y),List.take_append_drop]
 refine⟨(LH L W A c).drop (j+1)++R9 L W A (os.drop (i+1)),?_⟩;rw[h1]
 conv=>lhs;rw[h2]
 simp
theorem D2 (n:Nat)(g:Nat)(w:World):
  CallsIn Fence.wide n prog 161 #[pt g] w fun e w'=>e=.returned (.func (.func 212) #[] #[pt w.heap.size]) /\ w'=w.alloc (.cells #[pt g] 283):=by
 have r:Fence.wide.fn 161:= trivial;refine Xk func161 rfl r ?_ rfl;simp only[ntmps161,Z_,B_,Qj,Nat.reduceAdd,Nat.reduceSub,S_,R_,Qc,X_,L_,Qd]
 gi_wp2
 go_ret;exact⟨rfl,rfl⟩
structure ObIn (L:List Ty)(W:List Nat)(c:Ce):Prop where
 obj:objq L W (c.1:Int)=some c.2
 ty:TyIn (tyAt L c.2.typ)
 err:(tyAt L c.2.typ).err c.2.len=0
 at_:c.1 <= 65536
 in_:∀s∈(tyAt L c.2.typ).refs c.2.len,s<(tyAt L c.2.typ).slots c.2.len /\ 2*c.1+1+s<W.length
end
section
open Go Go.RowKit Go.Shelf Go.IntWalk
attribute [local go_sem] Oper.semAt_some
theorem ME {L:List Ty}{W:List Nat}{cs:List Ce}{y:Nat}(N:Chain L W 0 cs y)(V:y <= W.length/2)(hf:W.length <= 65536)(G:∀t∈L,TyIn t){c:Ce}(U:c∈objs cs):ObIn L W c:=by
 obtain⟨h1,h2⟩:=Kn U;have r:=N.mem c h1;have E:=LW r.2.2 h2 G;have Z:=(LS r.2.2 h2).1;refine⟨Lz r.2.2 h2,E.2,E.1,by omega,fun s J=>?_⟩
 have M:s<(tyAt L c.2.typ).slots c.2.len:=by
  unfold Ty.refs at J;exact List.mem_range.1 (Ym.1 J).1
 exact⟨M,by omega⟩
theorem PL (n:Nat)(hn:2 <= n)(w1:World)(a aw tb:Nat){W:List Nat}(bp:Option Addr)(aL:Nat)(L:List Ty)(hA:WkAt w1 a aw tb W bp aL L)(hf:W.length <= 65536)(hu:∀v∈W,v<18446744073709551616)(aC:∀t∈L,TyIn t)(hL:L.length <= 1000)
  (cs:List Ce)(e0:Nat)(hC:Chain L W 0 cs e0)(bR:e0 <= W.length/2)(g m Bs:Nat)(ob:Obj)(ao:Option Addr)(cap:Nat)(lr:List Blk)(en:Int)(bd:JK .i64 (Tj (ats cs)) ob)(aK:Gh 3 1 ao (ats cs).length cap (J7 (ats cs)) lr)
  (XB:List Blk)(bk:(Bs,.cells #[pt g] 283)∈XB)(ah:(g,.cells #[pt a,pt tb,.map (some m),.slice ao (ats cs).length cap,iV en] 287)∈XB)(bm:∀x∈lr,x∈XB)(b7:∀x∈XB,x.2.isCells=true)
  (D:World -> Nat -> Prop)(G:World -> Prop)(b4:∀A,G A -> ∀b,D A b -> b<A.heap.size /\ b∉keys XB)(b2:∀A B b,G A -> Below A.heap.size A B -> D B b -> D A b)
  (w:World)(hw:Below w1.heap.size w1 w)(hX:∀x∈XB,w.heap[x.1]?= some x.2)(be:(keys lr).Nodup)(aH:w.heap[m]?= some ob):
  Uh Fence.wide n prog 212 #[pt Bs] YP (fun A B=>KpD w1.heap.size D A B /\ B.heap[m]?= A.heap[m]?) (fun pre x=>∃bu,R9 L W (ats cs) (objs cs)=pre++x::bu) (fun xs=>xs=R9 L W (ats cs) (objs cs)) G w:=fun l J W0 hW hJ hG hY h0=>by
 have aE:∀x∈XB,W0.heap[x.1]?= some x.2:=fun x y=>(hW.block x.1 (Qk (hX x y))).trans (hX x y);have bc:W0.heap[m]?= some ob:=(hW.block m (Qk aH)).trans aH;have bj:Below w1.heap.size w1 W0:=hw.trans (hW.mono hw.size);have bQ:Fence.wide.fn 212:= trivial;have cb:Fence.wide.fn 26:= trivial;have cc:Fence.wide.fn 214:= trivial;have cd:Fence.wide.fn 213:= trivial;have cf:Fence.wide.fn 215:= trivial;refine Xk func212 rfl bQ ?_ rfl;simp only[ntmps212,Z_,B_,Qj,Nat.reduceAdd,Nat.reduceSub,S_,R_,Qc,X_,L_,Qd];have h1:1 <= n:=O;have E:Fence.wide.round=none:=rfl;have h2:1 <= n-1:=O;have bL:=uh (fun(i:Nat) (c:Ce) (hi:(objs cs)[i]?= some c)=>ME hC bR hf aC (q_ hi));have bF:=uh (fun(i:Nat) (c:Ce) (hi:(objs cs)[i]?= some c)=>(show(ats cs)[i]?= some c.1 by unfold ats;rw[G_,hi];rfl));have ca:(ats cs).length=(objs cs).length:=by unfold ats;rw[n_]
 have ch:(objs cs).length <= 32768:=by
  have h5:=hC.len;have h6:(objs cs).length <= cs.length:=by unfold objs;exact Zm ..
  omega
 have bs:=uh (fun(w':World) (M:Below w1.heap.size w1 w') (c:Ce) (U:ObIn L W c)=>by
  have h7:=QE w' (hA.below M).fields (hA.below M).ar hu L aC hL tb bp aL (hA.below M).tab (c.1:Int);rw[U.obj]at h7;exact h7)
 have bN:=uh (fun(w':World) (M:Below w1.heap.size w1 w') (c:Ce) (U:ObIn L W c) vb (hv:LN w' vb a c.1 c.2 (tyAt L c.2.typ))=>Ag w' vb a aw c.1 W c.2 _ (hA.below M).ar hv U.ty U.err U.at_ U.in_);have bJ:=uh (fun(w':World) (M:Below w1.heap.size w1 w') (c:Ce) (U:ObIn L W c) vb (hv:LN w' vb a c.1 c.2 (tyAt L c.2.typ)) s v hs ab=>Fd w' (hA.below M).ar hv U.ty U.err U.at_ s v hs ab);have bM:=uh (fun(w':World) (aa:∀x∈XB,w'.heap[x.1]?= some x.2) (bU:w'.heap[m]?= some ob) v (hv:v<18446744073709551616)=>DN w' g m ob (ats cs) ((Has.one (aa _ ah)).cell (d_ ..) 2) bU bd v hv);have Hu:=uh (fun(i v:Nat) (hv:W[i]?= some v)=>hu v (q_ hv));have HY:=uh hY;have HJ:=uh hJ;have HG:=uh hG;have aT:=uh h0;have b0:=uh bj;have aY:=uh bc;have br:=uh aK;have bK:=uh be;have bG:=uh (fun(i:Nat) (c:Ce) (hi:(objs cs)[i]?= some c)=>Df (L:=L) (W:=W) (A:=ats cs) hi);have bH:=uh (fun(i j s:Nat) (c:Ce) (hi:(objs cs)[i]?= some c) (hj:((tyAt L c.2.typ).refs c.2.len)[j]?= some s)=>AV (L:=L) (W:=W) (A:=ats cs) hi hj);have aR:=uh (fun x (y:x∈XB)=>(⟨aE x y,fun hd=>(b4 W0 (hG [] W0 h0) x.1 hd).2 (GE.2 ⟨x.2,y⟩)⟩:W0.heap[x.1]?= some x.2 /\ ¬D W0 x.1))
 -- what stays, whatever list of blocks of cells is looked at
 have ae:=uh (fun(Z:List Blk) (wr w':World) (a3:G wr) (hz:∀x∈Z,wr.heap[x.1]?= some x.2 /\ ¬D wr x.1) (M:Below wr.heap.size wr w')=>(fun x y=>⟨(M.block x.1 (Qk (hz x y).1)).trans (hz x y).1,fun hd=>(hz x y).2 (b2 wr w' x.1 a3 M hd)⟩:∀x∈Z,w'.heap[x.1]?= some x.2 /\ ¬D w' x.1));have bA:=uh (fun(Z:List Blk) (wr w':World) (au:∀x∈Z,x.2.isCells=true) (hz:∀x∈Z,wr.heap[x.1]?= some x.2 /\ ¬D wr x.1) (k:KpD w1.heap.size D wr w')=>(fun x y=>⟨k.same x.1 x.2 (hz x y).1 (au x y) (hz x y).2,fun hd=>(hz x y).2 (k.own x.1 (Qk (hz x y).1) hd)⟩:∀x∈Z,w'.heap[x.1]?= some x.2 /\ ¬D w' x.1));have bD:=uh b7;have bP:=uh bm
 have az:=uh (fun(w':World) (aa:∀x∈XB,w'.heap[x.1]?= some x.2)=>(⟨(Has.one (aa _ bk)).cell (d_ ..) 0,(Has.one (aa _ ah)).cell (d_ ..) 0,(Has.one (aa _ ah)).cell (d_ ..) 1,(Has.one (aa _ ah)).cell (d_ ..) 3⟩:
  w'.cell? (aD Bs 0)=some (pt g) /\ w'.cell? (aD g 0)=some (pt a) /\ w'.cell? (aD g 1)=some (pt tb) /\ w'.cell? (aD g 3)=some (.slice ao (ats cs).length cap)))
 have aQ:=uh (fun(wr w':World) (a3:G wr) (Z:List Blk) (V:Turn [] wr Z w')=>(fun x y=>⟨V.has.own x.1 x.2 y,fun hd=>by
  have h8:=(b4 wr a3 x.1 (b2 wr w' x.1 a3 V.below hd)).1;have h9:=(V.new x.1 (GE.2 ⟨x.2,y⟩)).resolve_left (by simp[keys]);omega⟩:∀x∈Z,w'.heap[x.1]?= some x.2 /\ ¬D w' x.1))
 have c0:=az.out W0 aE;have q0:=c0.1;have q3:=c0.2.2.2;generalize bX:objs cs=os at*;clear hY hJ hG hW hw hX aE bc bj hA hu aC hC h0 bd aK be aH b7 c0 bX bk ah bm
 gi_wp2_with fail
 gi_loopw [16] (fun RN wr=>∃(i:Nat),i <= os.length /\ RN=iV i /\ J (R9 L W (ats cs) (os.take i)) wr /\ Below w1.heap.size w1 wr /\ (∀x∈XB,wr.heap[x.1]?= some x.2 /\ ¬D wr x.1) /\ wr.heap[m]?= some ob) (fun RN _=>os.length-(intOf RN).toNat)
 case atStart=>exact⟨0,u_ _,by go_num,aT.out,b0.out,aR.out,aY.out⟩
 case round=>
  clear aT b0 aR aY q0 q3;obtain⟨i,hi,rfl,a9,N,aq,aJ⟩:=hrel
  by_cases bT:i<os.length
  · have c6:(i:Int)<((ats cs).length:Int):=O
    obtain⟨c,U⟩:∃c,os[i]?= some c:=⟨os[i],a_ bT⟩;have b9:=bL.out i c U;have a7:=br.out.src (R:=[]) (w:=wr) (by rw[p_];exact⟨bK.out,fun b o hm=>(aq (b,o) (bP.out _ hm)).1⟩);obtain⟨b3,c7,rfl,b8⟩:=a7.form (by rw[GX];omega);have q3:=b8 i _ (Nv (bF.out i c U));have a3:=HG.out _ wr a9;have av:=uh aq;have aA:=uh aJ;have aV:=uh a9;have a2:=uh N;have af:=uh b9;have ac:=uh a3;have Hc:=uh U;clear U b9 a7 b8 a9 N aq aJ a3
    gi_wp2_with fail
    clear q3;have aB:Turn [] wr [] wr.drew:=(r_ (C_ wr)).drew
    have HS:=uh (fun(w':World) (X:List Blk) (V:Turn [] wr X w')=>by
     have h9:=az.out w' (fun x y=>(ae.out _ wr w' ac.out av.out V.below x y).1);exact(⟨h9.1,h9.2.1,h9.2.2.1⟩:(fun W'=>W'.cell? (aD Bs 0)=some (pt g) /\ W'.cell? (aD g 0)=some (pt a) /\ W'.cell? (aD g 1)=some (pt tb)) w'))
    have hS:=HS.out _ _ aB;have ax:=uh aB;clear aB;refine Ge ?_;refine Bh (S:=fun W'=>W'.cell? (aD Bs 0)=some (pt g) /\ W'.cell? (aD g 0)=some (pt a) /\ W'.cell? (aD g 1)=some (pt tb)) 15 ?_;refine N6 0 21 E hS (fun w a5=>a5.1) ?_;refine Jr 1 22 E hS ?_;refine Jr 2 23 E hS ?_;refine N6 3 24 E hS (fun w a5=>a5.2.1) ?_;refine N6 4 25 E hS (fun w a5=>a5.1) ?_;refine Jr 5 26 E hS ?_;refine Jr 6 27 E hS ?_;refine N6 7 28 E hS (fun w a5=>a5.2.2) ?_;refine Jr 8 29 E hS ?_;refine Ga (i:=9) kr rfl (fun K hK=>?_)
    go_simp
    refine(N_.2 (bs.out _ (a2.out.trans (ax.out.below.mono a2.out.size)) c af.out)).mono ?_;rintro e w3 ⟨vb,rfl,T3⟩;have T4:Turn [] wr [(vb,.cells (G4 a c.1 c.2 (tyAt L c.2.typ)).toArray 179)] w3:=ax.out.trans T3;have a4:=HS.out _ _ T4;have an:=uh T4;refine hK.out _ _ a4 ?_;clear hK K T3 T4 hS;simp only[Gb,G7,G6];refine Jr 10 20 E a4 ?_;refine Jr 11 31 E a4 ?_;refine Jr 12 32 E a4 ?_;refine Jr 13 5 E a4 ?_;refine Jr 14 6 E a4 ?_;refine Gx kr ?_ _;refine z_ ?_;clear a4 HS ax;have hv:LN w3 vb a c.1 c.2 (tyAt L c.2.typ):=an.out.range1;have aX:=uh (bN.out w3 (a2.out.trans (an.out.below.mono a2.out.size)) c af.out vb hv);clear hv
    gi_wp2_with fail
    refine(N_.2 aX.out).mono ?_;rintro e w5 ⟨c8,ck,bn,rfl,ak,T5⟩;have a0:=uh (an.out.grow T5);have bq:=uh ak;obtain⟨Z,hZ⟩:∃Z,Z=bn++((vb,.cells (G4 a c.1 c.2 (tyAt L c.2.typ)).toArray 179)::(XB)):=⟨_,rfl⟩;have HZ:=uh hZ
    have au:∀x∈Z,x.2.isCells=true:=by
     intro x y;rw[hZ]at y;rcases s_.1 y with y|y
     ·exact ak.cells x y
     rcases t_.1 y with rfl|y
     ·rfl
     ·exact bD.out x y
    have bE:=uh au
    have aS:=uh (show ∀x∈Z,w5.heap[x.1]?= some x.2 /\ ¬D w5 x.1 from by
     intro x y;rw[hZ]at y;rcases s_.1 y with y|y
     ·exact aQ.out wr w5 ac.out _ a0.out x (by simp[y])
     rcases t_.1 y with rfl|y
     ·exact aQ.out wr w5 ac.out _ a0.out _ (by simp)
     ·exact ae.out _ wr w5 ac.out av.out a0.out.below x y)
    have aU:=uh (HJ.out _ wr w5 none aV.out (Gn a0.out.below) (fun r e=>by cases e));have b1:=uh (a2.out.trans (a0.out.below.mono a2.out.size));have aZ:=uh ((a0.out.below.block m (Qk aA.out)).trans aA.out)
    have aN:=uh (show(keys bn).Nodup from by
     have h9:=a0.out.has.nd;rw[GN,Yt]at h9;exact h9.1)
    have cj:((tyAt L c.2.typ).refs c.2.len).length <= 65536:=by
     have h1:=JV (tyAt L c.2.typ) ((tyAt L c.2.typ).slots c.2.len);have h2:(tyAt L c.2.typ).refs c.2.len=KJ (tyAt L c.2.typ) ((tyAt L c.2.typ).slots c.2.len):=rfl;obtain⟨bV,-,cg,-⟩:=L3.1 af.out.err;have:=GJ bV (n:=c.2.len) O;rw[h2];omega
    clear ak T5 hZ au aX an a0 av aA aV a2 ac
    gi_wp2_with fail
    gi_loopw [38] (fun aM wr=>∃(j:Nat),j <= ((tyAt L c.2.typ).refs c.2.len).length /\ aM=iV j /\ J (R9 L W (ats cs) (os.take i)++(LH L W (ats cs) c).take j) wr /\ Below w1.heap.size w1 wr /\ (∀x∈Z,wr.heap[x.1]?= some x.2 /\ ¬D wr x.1) /\ wr.heap[m]?= some ob) (fun aM _=>((tyAt L c.2.typ).refs c.2.len).length-(intOf aM).toNat)
    case atStart=>exact⟨0,u_ _,by go_num,by rw[List.take_zero,p_];exact aU.out,b1.out,aS.out,aZ.out⟩
    case round=>
     clear aU b1 aS aZ;obtain⟨j,hj,rfl,a8,N,a1,a6⟩:=hrel
     by_cases bt:j<((tyAt L c.2.typ).refs c.2.len).length
     · have c1:(j:Int)<(((tyAt L c.2.typ).refs c.2.len).length:Int):=O
       obtain⟨s,hs⟩:∃s,((tyAt L c.2.typ).refs c.2.len)[j]?= some s:=⟨((tyAt L c.2.typ).refs c.2.len)[j],a_ bt⟩;have aG:=af.out.in_ s (q_ hs);obtain⟨v,ab⟩:∃v,W[2*c.1+1+s]?= some v:=⟨W[2*c.1+1+s]'(aG.2),a_ _⟩;have bg:W.getD (2*c.1+1+s) 0=v:=(by rw[M_,ab];rfl);have a7:=bq.out.src (R:=[]) (w:=wr) (by rw[p_];exact⟨aN.out,fun b o hm=>(a1 (b,o) (by rw[HZ.out];simp[hm])).1⟩);obtain⟨c9,c2,rfl,aF⟩:=a7.form (by rw[GX];omega);have bZ:=aF j _ (Nv hs);have bh:LN wr vb a c.1 c.2 (tyAt L c.2.typ):=(Has.one (a1 (vb,.cells (G4 a c.1 c.2 (tyAt L c.2.typ)).toArray 179) (by rw[HZ.out];simp)).1).range (d_ ..);have HL:=uh (bJ.out wr N c af.out vb bh s v aG.1 ab);have ap:=HG.out _ wr a8;have am:=bH.out i j s c Hc.out hs;have aj:DJ W (ats cs) c.1 s=(c.1,s,NT (ats cs) v,v):=(by unfold DJ;rw[bg]);rw[aj]at am;have bf:(LH L W (ats cs) c).take (j+1)=(LH L W (ats cs) c).take j++[(c.1,s,NT (ats cs) v,v)]:=(by rw[SQ (WS hs),aj]);have bB:=uh bf;have ay:=uh (fun W1=>HY.out _ (c.1,s,NT (ats cs) v,v) W1 am);unfold YP at ay;have bC:=uh (fun(w':World) (M:Below wr.heap.size wr w')=>bM.out w' (fun x y=>(ae.out Z wr w' ap a1 M x (by rw[HZ.out];simp only[s_,t_]at y ⊢;exact .inr (.inr y))).1) ((M.block m (Qk a6)).trans a6) v (Hu.out _ v ab))
       have bv:=uh (fun(w':World) (M:Below wr.heap.size wr w')=>(az.out w' (fun x y=>(ae.out Z wr w' ap a1 M x (by rw[HZ.out];simp only[s_,t_]at y ⊢;exact .inr (.inr y))).1)).1);have bz:=uh a8
       have HK:=uh (fun(w' w8:World) (M:Below wr.heap.size wr w') (k:KpD w1.heap.size D w' w8 /\ w8.heap[m]?= w'.heap[m]?)=>(⟨(N.trans (M.mono N.size)).trans k.1.below,bA.out Z w' w8 bE.out (ae.out Z wr w' ap a1 M) k.1,k.2.trans ((M.block m (Qk a6)).trans a6)⟩:
        Below w1.heap.size w1 w8 /\ (∀x∈Z,w8.heap[x.1]?= some x.2 /\ ¬D w8 x.1) /\ w8.heap[m]?= some ob))
       clear hs aG ab bg a7 aF bh ap am aj bf a8 N a1 a6
       gi_wp2_with (first
        | (gi_at_call 214;refine(N_.2 HL.out).mono ?_;rintro e w6 ⟨rfl,ag⟩;have aP:=uh ag;have q0:=bv.out w6 ag;have aW:=uh (bC.out w6 ag);obtain⟨fn,tmps,assign,body,hy,hR⟩:=ay.out _ (HJ.out _ wr _ none bz.out (Gn ag) (fun r e=>by cases e));have HR:=uh hR;clear hR ag HL bZ)
        | (gi_at_call 215;refine(N_.2 aW.out).mono ?_;rintro e w7 ⟨rfl,bY⟩;subst bY;clear aW q0)
        | fail)
       refine HR.out.mono ?_;rintro e w8 ⟨rfl,b5,ba⟩;have HN:=uh (HK.out _ _ aP.out ba);have bx:=uh b5;clear b5 ba HR hy HK ay aP
       gi_wp2_with fail
       go_roundw
       case rel=>exact⟨j+1,by omega,by go_num,by rw[bB.out,←Qq];exact bx.out,HN.out.1,HN.out.2.1,HN.out.2.2⟩
       case measure=>simp[intOf];omega
     · obtain rfl:j=((tyAt L c.2.typ).refs c.2.len).length:=O
       have bW:¬((((tyAt L c.2.typ).refs c.2.len).length:Nat):Int)<(((tyAt L c.2.typ).refs c.2.len).length:Int):=O
       have b6:J (R9 L W (ats cs) (os.take (i+1))) wr:=by
        rw[bG.out i c Hc.out];have h9:(LH L W (ats cs) c).length=((tyAt L c.2.typ).refs c.2.len).length:=by unfold LH;rw[n_]
        rw[←h9,D_]at a8;exact a8
       have HR:=uh (⟨b6,N,fun x y=>a1 x (by rw[HZ.out];simp[y]),a6⟩:J (R9 L W (ats cs) (os.take (i+1))) wr /\ Below w1.heap.size w1 wr /\ (∀x∈XB,wr.heap[x.1]?= some x.2 /\ ¬D wr x.1) /\ wr.heap[m]?= some ob);clear b6 a8 N a1 a6
       gi_wp2_with fail
       go_roundw
       case rel=>exact⟨i+1,by omega,by go_num,HR.out.1,HR.out.2.1,HR.out.2.2.1,HR.out.2.2.2⟩
       case measure=>simp[intOf];omega
  · obtain rfl:i=os.length:=O
    have bW:¬((os.length:Nat):Int)<(os.length:Int):=O;have HX:=uh (show J (R9 L W (ats cs) os) wr by rw[D_]at a9;exact a9);clear a9 N aq aJ
    gi_wp2_with fail
    go_end0;exact⟨⟨_,rfl⟩,HX.out⟩
end
section
open Go Go.RowKit
end
end Go.Proofs.YtoaofpohakaliaaGreatDoor
