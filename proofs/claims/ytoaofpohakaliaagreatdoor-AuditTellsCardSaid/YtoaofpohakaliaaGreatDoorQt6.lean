/-
  A part of a proof: texts packed by a program of mine.
  Conditions: those that each theorem states.
-/
import Derived.Test.YtoaofpohakaliaaGreatDoorRows
import Derived.JoinedOf
import GoSem.ClaimSeven
import Derived.SevenTiedAt
import Derived.Test.YtoaofpohakaliaaGreatDoorQt5
set_option maxRecDepth 100000
set_option maxHeartbeats 12800000
open Go.Proofs.Tryz
namespace Go.Proofs.YtoaofpohakaliaaGreatDoor
section
open Go Go.RowKit Go.IntWalk
def KD (l:List Bool):List Value:=l.map Value.bool
theorem MX (l:List Bool):(KD l).length=l.length:=by simp[KD]
def Ld (l:List Bool)(g:Nat):Bool:=l.getD g false
theorem E9 {r:List Bool}{w:World}{E:Option Addr}{M i:Nat}(G:Src w E r.length M 1 (KD r))(h:Ld r i=false):r.length <= i∨∃b o,E=some (aD b o) /\ i<r.length /\ w.cell? (aD b (o+i))=some (.bool false):=by
 by_cases y:i<r.length
 · refine .inr ?_
   obtain⟨b,o,rfl,J⟩:=G.form (by rw[MX];omega);refine⟨b,o,rfl,y,J i _ ?_⟩;unfold Ld at h;rw[M_,a_ y]at h;unfold KD;rw[G_,a_ y];simp only[Zc]at h;simp[h]
 ·exact .inl O
theorem BC {r:List Bool}{w:World}{E:Option Addr}{M i:Nat}(G:Src w E r.length M 1 (KD r))(h:Ld r i=true):∃b o,E=some (aD b o) /\ i<r.length /\ w.cell? (aD b (o+i))=some (.bool true):=by
 have y:i<r.length:=by
  rcases Nat.lt_or_ge i r.length with h2|h2
  ·exact h2
  · unfold Ld at h
    rw[M_,Qb h2]at h
    cases h
 obtain⟨b,o,rfl,J⟩:=G.form (by rw[MX];omega);refine⟨b,o,rfl,y,J i _ ?_⟩;unfold Ld at h;rw[M_,a_ y]at h;unfold KD;rw[G_,a_ y];simp only[Zc]at h;simp[h]
def MU (L:List Ty)(W:List Nat)(cs:List Ce)(i:Nat):List Ed:=R9 L W (ats cs) (objs (cs.take i))
def Y0 (L:List Ty)(c:Ce):Nat:=if c.2.tag=1 then(Kg (tyAt L c.2.typ) c.2.len).length else 0
theorem AW {L:List Ty}{W:List Nat}{cs:List Ce}{i en:Nat}{c:Ce}(G:Chain L W 0 cs en)(E:en <= W.length/2)(J:W.length <= 65536)(y:∀t∈L,TyIn t)(h:cs[i]?= some c):
  MU L W cs (i+1)=MU L W cs i++((Kg (tyAt L c.2.typ) c.2.len).take (Y0 L c)).map (DJ W (ats cs) c.1):=by
 unfold MU Y0;rw[K8 h,GM];unfold R9;rw[List.flatMap_append]
 congr 1
 by_cases r:c.2.tag=1
 · have M:=ME G E J y (Nf (q_ h) r)
   have N:Kg (tyAt L c.2.typ) c.2.len=(tyAt L c.2.typ).refs c.2.len:=v_ M.err;rw[v_ r,N,D_,show objs [c]=[c]from by unfold objs;rw[Xh (by rw[J2];exact r)];rfl];simp[LH]
 · rw[y_ r,show objs [c]=[]from by unfold objs;rw[Xj (by rw[J2];exact r)];rfl]
   rfl
theorem WT (L:List Ty)(W:List Nat)(cs:List Ce):MU L W cs cs.length=R9 L W (ats cs) (objs cs):=by
 unfold MU;rw[D_]
theorem Pq {L:List Ty}{W:List Nat}{cs:List Ce}{en k s:Nat}{c:Ce}(y:Chain L W 0 cs en)(J:en <= W.length/2)(V:W.length <= 65536)(E:∀t∈L,TyIn t)(G:c∈cs)(N:k<Y0 L c)(U:(Kg (tyAt L c.2.typ) c.2.len)[k]?= some s):
  c.2.tag=1 /\ c.1 <= 32768 /\ s <= 65536 /\ 2*c.1+1+s<W.length:=by
 have r:c.2.tag=1:=by
  by_cases r:c.2.tag=1
  ·exact r
  · unfold Y0 at N
    rw[y_ r]at N;omega
 have M:=ME y J V E (Nf G r);have Z:Kg (tyAt L c.2.typ) c.2.len=(tyAt L c.2.typ).refs c.2.len:=v_ M.err;rw[Z]at U;have h1:=M.in_ s (q_ U);have h2:=(y.mem c G).2.1;exact⟨r,by omega,by omega,h1.2⟩
theorem A5 (L:List Ty)(W:List Nat)(cs:List Ce)(i:Nat):(MU L W cs i).length <= (MU L W cs cs.length).length:=by
 have h:objs cs=objs (cs.take i)++objs (cs.drop i):=by rw[←GM,List.take_append_drop]
 unfold MU;rw[D_,h];unfold R9;rw[List.flatMap_append,e_];omega
theorem XZ {t:Ty}{n:Nat}:(Kg t n).length <= 1048576:=by
 unfold Kg
 split
 · rename_i he
   obtain⟨y,E,G,-⟩:=L3.1 he;have h1:=JV t (t.slots n);have h2:=GJ y (n:=n) O;have r:t.refs n=KJ t (t.slots n):=rfl;rw[r];omega
 ·simp
theorem EQ (w:World){W:List Nat}(wa:Option Addr)(aP:Nat)(hW:Src w wa W.length aP 1 (u64s W))(hf:W.length <= 65536)(hu:∀v∈W,v<18446744073709551616)(L:List Ty)(ag:∀t∈L,TyIn t)(hL:L.length <= 1000)(ta:Option Addr)(tc:Nat)(aK:Src w ta L.length tc 3 (tys L))
  (SS:List Bool)(sa:Option Addr)(sc:Nat)(hS:Src w sa SS.length sc 1 (KD SS))(ah:SS.length <= 65536)(cs:List Ce)(en:Nat)(hC:Chain L W 0 cs en)(hE:Ky L W en)(F:List Ft)(aq:F=Jy (Ld SS) L W cs en):
  Calls prog 126 #[.slice wa W.length aP,.slice ta L.length tc,.slice sa SS.length sc] w fun e w'=>∃ao cap l,e=.returned (.slice ao F.length cap) /\ Gh 240 3 ao F.length cap (TE F) l /\ Turn [] w l w':=by
 have HC:=uh (Wq w wa aP hW hf hu L ag hL ta tc aK cs en hC hE);have bC:=uh (fun(w':World) (la:Option Addr) (r:Nat) (hs:Src w' la cs.length r 5 (ces cs)) (g:Nat)=>jX w' cs la r hs (by have:=hC.len;have:=hE.le;omega) g);have bV:=hC.len;have bF:=hE.le;have bp:((W.length:Int)).tdiv 2=((W.length/2:Nat):Int):=GC _ 2;have aQ:(W.length:Int)/2=((W.length/2:Nat):Int):=O;have aF:=uh (fun(i:Nat) (h:Ld SS i=true) (w':World) (hk:Below w.heap.size w w')=>BC (hS.below hk) h);have aY:=uh (fun(i:Nat) (h:Ld SS i=false) (w':World) (hk:Below w.heap.size w w')=>E9 (hS.below hk) h);obtain⟨z,hz⟩:∃z,W.length/2=z:=⟨_,rfl⟩;have cc:z <= 32768:=O;unfold Jy Lk at aq;rw[hz]at bp aQ bF aq;obtain⟨f,b6⟩:∃f,Ld SS=f:=⟨_,rfl⟩;rw[b6]at aq aF aY;have aT:=uh aq;clear aq b6 hS;have bv:=uh (fun(w':World) (hk:Below w.heap.size w w') (c:Ce)=>Pp w' L ag hL ta tc (aK.below hk) c);have bE:=uh (fun(w':World) (la:Option Addr) (r:Nat) (hs:Src w' la cs.length r 5 (ces cs)) (v:Nat) (hv:v<18446744073709551616)=>BF w' cs la r hs O v hv);have bu:=uh (fun(i:Nat) (c:Ce) (hi:cs[i]?= some c)=>AW hC hE.le hf ag hi);have bs:=uh (WT L W cs);have bx:=uh (fun(i k s:Nat) (c:Ce) (hi:cs[i]?= some c) (hk:k<Y0 L c) (hs:(Kg (tyAt L c.2.typ) c.2.len)[k]?= some s)=>Pq hC hE.le hf ag (q_ hi) hk hs);have bB:=uh (fun(w':World) (hk:Below w.heap.size w w')=>hW.below hk);have Hu:=uh (fun(i v:Nat) (hv:W[i]?= some v)=>hu v (q_ hv))
 have c6:(MU L W cs cs.length).length <= 2147483648:=by
  rw[WT];have h6:(objs cs).length <= cs.length:=by unfold objs;exact Zm ..
  have h7:=VA (L:=L) (W:=W) (A:=ats cs) (os:=objs cs) (fun c hc=>by
   have hi:=ME hC hE.le hf ag hc;have h1:=JV (tyAt L c.2.typ) ((tyAt L c.2.typ).slots c.2.len);have h2:(tyAt L c.2.typ).refs c.2.len=KJ (tyAt L c.2.typ) ((tyAt L c.2.typ).slots c.2.len):=rfl;obtain⟨bJ,-,c7,-⟩:=L3.1 hi.err;have:=GJ bJ (n:=c.2.len) O;rw[h2];omega)
  omega
 clear hC hE ag hW hu aK
 go_enter func126,ntmps126
 go_wp2_with fail
 refine HC.out.mono ?_;rintro e w3 ⟨la,bk,r,rfl,be,T3⟩;have ae:Hid (Turn [] w ([]++r) w3):=uh T3;have aE:=uh be;clear T3 be HC
 go_wp2_with fail
 go_loopw [9,10] (fun v9 aM wr=>∃(i:Nat) (ao:Option Addr) (cap:Nat) (lr:List Blk),i <= en /\ aM=iV i /\ v9=.slice ao (J3 f (ats cs) i).length cap /\ Gh 240 3 ao (J3 f (ats cs) i).length cap (TE (J3 f (ats cs) i)) lr /\ Turn [] w (lr++r) wr) (fun _ aM _=>en-(intOf aM).toNat)
 case atStart=>exact⟨0,none,0,[],u_ _,by go_num,rfl,Zb _ _,ae.out⟩
 case round=>
  clear ae;obtain⟨i,ao,cap,lr,hi,rfl,rfl,a1,hT⟩:=hrel;have U:=uh a1;have bH:=My f (ats cs) i
  by_cases b9:i<en
  · have br:(i:Int)<((en:Nat):Int):=O
    have Hg:=uh (bC.out wr la bk (aE.out.src (R:=lr) (hT.perm po).has) i);have HT:=uh hT;have ab:(J3 f (ats cs) i).length+1 <= maxLen:=(by unfold maxLen;omega);have ac:((J3 f (ats cs) i).length+1)*24 <= 140737488355328:=O;have N:Hid (J3 f (ats cs) (i+1)=J3 f (ats cs) i++told f (ats cs) i):=uh rfl;clear hT a1;generalize J3 f (ats cs) i=S at*;unfold told at N
    cases hb:f i with
    | true=>
     have Ht:=uh (aF.out i hb)
     by_cases hm:i∈ats cs
     · skip
       rw[k_ hm]at Hg;rw[v_ (by rw[hb,k_ hm]),p_]at N;clear hm hb
       go_wp2_with fail
       refine Hg.out.mono ?_;rintro e w5 ⟨rfl,a0⟩;have G:=uh (HT.out.call a0);clear a0 HT Hg;obtain⟨sb,so,rfl,ah,aL⟩:=Ht.out w5 G.out.below;have af:(i:Int)<(SS.length:Int):=O
       go_wp2_with fail
       go_roundw
       case rel=>exact⟨i+1,ao,cap,lr,by omega,by go_num,by rw[N.out],by rw[N.out];exact U.out,G.out⟩
       case measure=>simp[intOf];omega
     · skip
       rw[b_ hm]at Hg;rw[y_ (by rw[hb,b_ hm];decide),hb]at N;rw[v_ rfl]at N;clear hm hb
       go_wp2_with fail
       refine Hg.out.mono ?_;rintro e w5 ⟨rfl,a0⟩;have G:=uh (HT.out.call a0);clear a0 HT Hg;obtain⟨sb,so,rfl,ah,aL⟩:=Ht.out w5 G.out.below;have af:(i:Int)<(SS.length:Int):=O
       go_wp2_with (first
        | (at_builtin;have T6:=uh (G.out.alloc (.cells #[iV i,iV 0,iV 9] 240));refine K_ rfl _ _ rfl KV rfl U.out (R:=(w5.heap.size,.cells #[iV i,iV 0,iV 9] 240)::r) (T6.out.perm po).has rfl (news:=[iV i,iV 0,iV 9]) rfl (Qy (A_ _ _)) (by simp[Value.oneCell']) ab ac ?_;intro a9 p9 l9 w8 E V9 a8;have a2:=uh (((T6.out.perm po).trans V9).perm (l2:=(w5.heap.size,.cells #[iV i,iV 0,iV 9] 240)::(l9++r)) po);have a5:=uh E;clear V9 E a8)
        | fail)
       go_roundw
       case rel=>
        have y:(J3 f (ats cs) (i+1)).length=S.length+1:=(by rw[N.out];simp);exact⟨i+1,a9,p9,l9,by omega,by go_num,by rw[y],by rw[y,N.out,JY];exact a5.out,a2.out.tail⟩
       case measure=>simp[intOf];omega
    | false=>
     have Ht:=uh (aY.out i hb)
     by_cases hm:i∈ats cs
     · skip
       rw[k_ hm]at Hg;rw[y_ (by rw[hb,k_ hm];decide),hb]at N;rw[y_ (by decide)]at N;clear hm hb
       go_wp2_with fail
       refine Hg.out.mono ?_;rintro e w5 ⟨rfl,a0⟩;have G:=uh (HT.out.call a0);clear a0 HT Hg;rcases Ht.out w5 G.out.below with ah|⟨sb,so,rfl,ah,aL⟩
       · have af:¬(i:Int)<(SS.length:Int):=O
         go_wp2_with (first
          | (at_builtin;have T6:=uh (G.out.alloc (.cells #[iV i,iV 0,iV 3] 240));refine K_ rfl _ _ rfl KV rfl U.out (R:=(w5.heap.size,.cells #[iV i,iV 0,iV 3] 240)::r) (T6.out.perm po).has rfl (news:=[iV i,iV 0,iV 3]) rfl (Qy (A_ _ _)) (by simp[Value.oneCell']) ab ac ?_;intro a9 p9 l9 w8 E V9 a8;have a2:=uh (((T6.out.perm po).trans V9).perm (l2:=(w5.heap.size,.cells #[iV i,iV 0,iV 3] 240)::(l9++r)) po);have a5:=uh E;clear V9 E a8)
          | fail)
         go_roundw
         case rel=>
          have y:(J3 f (ats cs) (i+1)).length=S.length+1:=(by rw[N.out];simp);exact⟨i+1,a9,p9,l9,by omega,by go_num,by rw[y],by rw[y,N.out,JY];exact a5.out,a2.out.tail⟩
         case measure=>simp[intOf];omega
       · have af:(i:Int)<(SS.length:Int):=O
         go_wp2_with (first
          | (at_builtin;have T6:=uh (G.out.alloc (.cells #[iV i,iV 0,iV 3] 240));refine K_ rfl _ _ rfl KV rfl U.out (R:=(w5.heap.size,.cells #[iV i,iV 0,iV 3] 240)::r) (T6.out.perm po).has rfl (news:=[iV i,iV 0,iV 3]) rfl (Qy (A_ _ _)) (by simp[Value.oneCell']) ab ac ?_;intro a9 p9 l9 w8 E V9 a8;have a2:=uh (((T6.out.perm po).trans V9).perm (l2:=(w5.heap.size,.cells #[iV i,iV 0,iV 3] 240)::(l9++r)) po);have a5:=uh E;clear V9 E a8)
          | fail)
         go_roundw
         case rel=>
          have y:(J3 f (ats cs) (i+1)).length=S.length+1:=(by rw[N.out];simp);exact⟨i+1,a9,p9,l9,by omega,by go_num,by rw[y],by rw[y,N.out,JY];exact a5.out,a2.out.tail⟩
         case measure=>simp[intOf];omega
     · skip
       rw[b_ hm]at Hg;rw[v_ (by rw[hb,b_ hm]),p_]at N;clear hm hb
       go_wp2_with fail
       refine Hg.out.mono ?_;rintro e w5 ⟨rfl,a0⟩;have G:=uh (HT.out.call a0);clear a0 HT Hg;rcases Ht.out w5 G.out.below with ah|⟨sb,so,rfl,ah,aL⟩
       · have af:¬(i:Int)<(SS.length:Int):=O
         go_wp2_with fail
         go_roundw
         case rel=>exact⟨i+1,ao,cap,lr,by omega,by go_num,by rw[N.out],by rw[N.out];exact U.out,G.out⟩
         case measure=>simp[intOf];omega
       · have af:(i:Int)<(SS.length:Int):=O
         go_wp2_with fail
         go_roundw
         case rel=>exact⟨i+1,ao,cap,lr,by omega,by go_num,by rw[N.out],by rw[N.out];exact U.out,G.out⟩
         case measure=>simp[intOf];omega
  · obtain rfl:i=en:=O
    have bL:¬(i:Int)<((i:Nat):Int):=O;have HT:=uh hT;have ab:(J3 f (ats cs) i).length+1 <= maxLen:=(by unfold maxLen;omega);have ac:((J3 f (ats cs) i).length+1)*24 <= 140737488355328:=O;clear hT a1;generalize J3 f (ats cs) i=H1 at*
    go_upto_if 66 with fail
    go_cut [9]from 10 (fun v9 wx=>∃(a7:Option Addr) (p7:Nat) (l7:List Blk),v9=.slice a7 (H1++Ju i z).length p7 /\ Gh 240 3 a7 (H1++Ju i z).length p7 (TE (H1++Ju i z)) l7 /\ Turn [] w (l7++r) wx)
    case first=>
     by_cases b7:i<z
     · have bq:(i:Int)<(z:Int):=O
       have ak:Hid (Ju i z=[(i,0,7)]):=uh (v_ b7)
       go_wp2_with (first
        | (at_builtin;have T6:=uh (HT.out.alloc (.cells #[iV i,iV 0,iV 7] 240));refine K_ rfl _ _ rfl KV rfl U.out (R:=(wr.heap.size,.cells #[iV i,iV 0,iV 7] 240)::r) (T6.out.perm po).has rfl (news:=[iV i,iV 0,iV 7]) rfl (Qy (A_ _ _)) (by simp[Value.oneCell']) ab ac ?_;intro a9 p9 l9 w8 E V9 a8;have a2:=uh (((T6.out.perm po).trans V9).perm (l2:=(wr.heap.size,.cells #[iV i,iV 0,iV 7] 240)::(l9++r)) po);have a5:=uh E;clear V9 E a8)
        | fail)
       go_meet
       have y:(H1++Ju i z).length=H1.length+1:=(by rw[ak.out];simp);exact⟨a9,p9,l9,by rw[y],by rw[y,ak.out,JY];exact a5.out,a2.out.tail⟩
     · have bq:¬(i:Int)<(z:Int):=O
       have ak:Hid (Ju i z=[]):=uh (y_ b7)
       go_wp2_with fail
       go_meet
       exact⟨ao,cap,lr,by rw[ak.out,p_],by rw[ak.out,p_];exact U.out,HT.out⟩
    case rest=>
    clear HT U ab ac;obtain⟨a7,p7,l7,rfl,bc,T7⟩:=hcut
    have bX:(H1++Ju i z).length <= 100000:=by
     rw[e_];unfold Ju
     split
     ·simp;omega
     ·simp;omega
    have bn:=uh aT.out;clear aT;generalize H1++Ju i z=H at*;have b0:=uh bc;have aX:Hid (Turn [] w (l7++([]++r)) wc):=uh T7;clear T7 bc
    go_wp2_with fail
    have ax:=LQ
    go_loopw [9,13] (fun v9 aN wr=>∃(i:Nat) (ao:Option Addr) (p:Nat) (lr lj:List Blk),i <= cs.length /\ aN=iV i /\ v9=.slice ao (Ln H (MU L W cs i)).length p /\ Gh 240 3 ao (Ln H (MU L W cs i)).length p (TE (Ln H (MU L W cs i))) lr /\ Turn [] w (lr++(lj++r)) wr) (fun _ aN _=>cs.length-(intOf aN).toNat)
    case atStart=>exact⟨0,a7,p7,l7,[],u_ _,by go_num,by rw[show MU L W cs 0=[]from rfl,SJ],by rw[show MU L W cs 0=[]from rfl,SJ];exact b0.out,aX.out⟩
    case round=>
     clear aX b0;obtain⟨i,ao,p,lr,lj,hi,rfl,rfl,a1,V⟩:=hrel
     by_cases b9:i<cs.length
     · have br:(i:Int)<(cs.length:Int):=O
       obtain⟨c,hc⟩:∃c,cs[i]?= some c:=⟨cs[i],a_ b9⟩;have aH:=aE.out.src (R:=lr++lj) (V.perm po).has;obtain⟨b,off,rfl,-⟩:=aH.form (by rw[GW];omega);have bd:wr.rangeAt b (off+i*5) [iV c.1,yV c.2.tag,iV c.2.typ,iV c.2.len,iV c.2.size]:=aH.ce hc;have T3:=V.alloc (.cells #[iV 0,yV 0,iV 0,iV 0,iV 0] 127);have bg:(wr.alloc (.cells #[iV 0,yV 0,iV 0,iV 0,iV 0] 127)).there wr.heap.size 0 5:=T3.there1;have ae:=uh (T3.laid [iV c.1,yV c.2.tag,iV c.2.typ,iV c.2.len,iV c.2.size] rfl);have bM:=Rb c;have U:=uh a1;have aZ:=uh (bu.out i c hc);have bD:=uh (fun k s=>bx.out i k s c hc);have aV:=uh (fun w' hk=>bv.out w' hk c);have bT:=A5 L W cs (i+1);have bK:=A5 L W cs i;clear T3 V hc aH a1;generalize b3:MU L W cs (i+1)=E1 at*;have ay:=uh b3;clear b3;generalize MU L W cs i=E0 at*
       go_wp2_with (first
        | (show lW 127;first|refine J_ rfl 127 _ rfl b (off+i*5) rfl [iV c.1,yV c.2.tag,iV c.2.typ,iV c.2.len,iV c.2.size] _ bd underlying127 rfl ax ?_|refine J_ rfl 127 _ rfl M 0 rfl [iV c.1,yV c.2.tag,iV c.2.typ,iV c.2.len,iV c.2.size] _ ba underlying127 rfl ax ?_)
        | (show sW 127;refine h_ rfl 127 _ _ rfl wr.heap.size 0 #[iV c.1,yV c.2.tag,iV c.2.typ,iV c.2.len,iV c.2.size] rfl rfl bg ax bM ?_;clear bg bd;generalize(wr.alloc (.cells #[iV 0,yV 0,iV 0,iV 0,iV 0] 127)).setCells wr.heap.size 0 [iV c.1,yV c.2.tag,iV c.2.typ,iV c.2.len,iV c.2.size]=w3 at*;generalize wr.heap.size=M at*;have ba:=ae.out.range1)
        | fail)
       refine(aV.out _ ae.out.below).mono ?_;rintro e w6 ⟨ra,rp,a3,rfl,bf,T6⟩;have aW:Hid (Turn [] w (lr++(((M,.cells #[iV c.1,yV c.2.tag,iV c.2.typ,iV c.2.len,iV c.2.size] 127)::a3)++(lj++r))) w6):=uh ((ae.out.grow T6).perm po);have b1:=uh bf;have c1:(Kg (tyAt L c.2.typ) c.2.len).length <= 1048576:=XZ;have aU:Hid (Y0 L c=if c.2.tag=1 then(Kg (tyAt L c.2.typ) c.2.len).length else 0):=uh rfl;generalize Kg (tyAt L c.2.typ) c.2.len=R at*;generalize Y0 L c=K at*;have bZ:K <= R.length:=by rw[aU.out];split<;>omega
       clear T6 bf ae aV ba
       go_wp2_with fail
       obtain⟨Ek,ap⟩:∃Ek:Nat -> List Ed,∀k,Ek k=E0++(R.take k).map (DJ W (ats cs) c.1):=⟨_,fun _=>rfl⟩;have aS:=uh ap;rw[←ap]at aZ;have aR:Hid (Ek 0=E0):=uh (by rw[ap];simp);have bt:Hid (∀k,(Ek k).length <= E0.length+R.length):=uh (fun k=>by rw[ap,e_,n_,Qh];omega);clear ap
       go_loopw [9,16] (fun v9 RN wr=>∃(k:Nat) (aa:Option Addr) (p2:Nat) (Z:List Blk),k <= K /\ RN=iV k /\ v9=.slice aa (Ln H (Ek k)).length p2 /\ Gh 240 3 aa (Ln H (Ek k)).length p2 (TE (Ln H (Ek k))) Z /\ Turn [] w (Z++(((M,.cells #[iV c.1,yV c.2.tag,iV c.2.typ,iV c.2.len,iV c.2.size] 127)::a3)++(lj++r))) wr) (fun _ RN _=>K-(intOf RN).toNat)
       case atStart=>exact⟨0,ao,p,lr,u_ _,by go_num,by rw[aR.out],by rw[aR.out];exact U.out,aW.out⟩
       case round=>
        clear aW U;obtain⟨k,aa,p2,Z,hk,rfl,rfl,av,V⟩:=hrel;have aC:=uh av;have q1:wr.cell? (aD M 1)=some (yV c.2.tag):=V.has.cell (b:=M) (c:=#[iV c.1,yV c.2.tag,iV c.2.typ,iV c.2.len,iV c.2.size]) (e:=127) (f:=(0,0)) (by simp) 1
        by_cases bG:k<K
        · obtain⟨s,hs⟩:∃s,R[k]?= some s:=⟨R[k]'O,a_ _⟩
          obtain⟨ht,c2,c8,bj⟩:=bD.out k s bG hs;have bP:(((c.2.tag:Nat):Int) == 1)=true:=(by rw[ht];rfl);have b8:(k:Int)<(R.length:Int):=O;obtain⟨v,hv⟩:∃v,W[2*c.1+1+s]?= some v:=⟨W[2*c.1+1+s],a_ bj⟩;have bQ:=Hu.out _ v hv;have hX:DJ W (ats cs) c.1 s=(c.1,s,NT (ats cs) v,v):=(by unfold DJ;rw[M_,hv];rfl);obtain⟨wb,wo,rfl,bh⟩:=(bB.out _ V.below).form (by unfold u64s;rw[n_];omega);have q5:wr.cell? (aD wb (wo+(2*c.1+1+s)))=some (uV v):=bh _ _ (by unfold u64s;rw[G_,hv];rfl);obtain⟨rb,ro,rfl,aA⟩:=(b1.out.src (R:=Z++((M,.cells #[iV c.1,yV c.2.tag,iV c.2.typ,iV c.2.len,iV c.2.size] 127)::(lj++r))) (V.perm po).has).form (by rw[GX];omega);have q3:wr.cell? (aD rb (ro+k))=some (iV s):=aA _ _ (by unfold J7;rw[G_,hs];rfl);have q0:wr.cell? (aD M 0)=some (iV c.1):=V.has.cell (b:=M) (c:=#[iV c.1,yV c.2.tag,iV c.2.typ,iV c.2.len,iV c.2.size]) (e:=127) (f:=(0,0)) (by simp) 0;have HV:=uh V;have a4:Hid (Ln H (Ek (k+1))=(Ln H (Ek k))++if VG (c.1,s,NT (ats cs) v,v)=true then [Bb (c.1,s,NT (ats cs) v,v)]else []):=uh (by rw[aS.out,aS.out,Qr,hs,Option.toList_some,Za,←Qq,List.map_singleton,hX,X8]);obtain⟨J,hJ⟩:∃J,2*c.1+1+s=J:=⟨_,rfl⟩;rw[hJ]at q5 bj;have c9:IntKind.i64.wrap (2*(c.1:Int))=2*(c.1:Int):=i64_in _ O
          have ca:IntKind.i64.wrap (2*(c.1:Int)+1)=2*(c.1:Int)+1:=i64_in _ O;have cb:IntKind.i64.wrap (2*(c.1:Int)+1+(s:Int))=(J:Int):=(i64_in _ O).trans O;have bY:(J:Int)<(W.length:Int):=O;have bN:=hs;clear V av hX bh aA hv hJ hs ht
          go_wp2_with fail
          go_quiet (fail)
          have bz:=uh (HV.out.drewN nq);have HV:=uh ((HV.out.drewN nq).perm (l2:=Z++(((M,.cells #[iV c.1,yV c.2.tag,iV c.2.typ,iV c.2.len,iV c.2.size] 127)::a3)++(lj++r))) (List.Perm.refl _));have b2:=uh (aE.out.src (R:=Z++(((M,.cells #[iV c.1,yV c.2.tag,iV c.2.typ,iV c.2.len,iV c.2.size] 127)::a3)++lj)) (HV.out.perm po).has)
          have aB:=uh (fun(W':World) (bm:List Blk) (V:Turn [] w (bm++(((M,.cells #[iV c.1,yV c.2.tag,iV c.2.typ,iV c.2.len,iV c.2.size] 127)::a3)++(lj++r))) W')=>(⟨V.has.cell (b:=M) (c:=#[iV c.1,yV c.2.tag,iV c.2.typ,iV c.2.len,iV c.2.size]) (e:=127) (f:=(0,0)) (by simp) 0,by
           obtain⟨cd,cf,he,aA⟩:=(b1.out.src (R:=bm++((M,.cells #[iV c.1,yV c.2.tag,iV c.2.typ,iV c.2.len,iV c.2.size] 127)::(lj++r))) (V.perm po).has).form (by rw[GX];omega)
           cases he
           exact aA _ _ (by unfold J7;rw[G_,bN];rfl)⟩:W'.cell? (aD M 0)=some (iV c.1) /\ W'.cell? (aD rb (ro+k))=some (iV s)))
          clear bz q0 q1 q3 q5;generalize wr.drewN nq=W1 at*
          by_cases aj:v=0
          · have bR:((v:Int) != 0)=false:=by rw[aj];rfl
            have au:¬VG (c.1,s,NT (ats cs) v,v)=true:=(by rw[aj];simp[VG]);rw[y_ au,p_]at a4;clear aj au
            go_wp2
            go_roundw
            case rel=>exact⟨k+1,aa,p2,Z,by omega,by go_num,by rw[a4.out],by rw[a4.out];exact aC.out,HV.out⟩
            case measure=>simp[intOf];omega
          · have bR:((v:Int) != 0)=true:=by rw[Qe];omega
            have az:=uh (bE.out W1 _ bk b2.out v bQ);clear b2
            by_cases hb:NT (ats cs) v<0
            · have b5:VG (c.1,s,NT (ats cs) v,v)=true:=by unfold VG;simp[aj,hb]
              rw[v_ b5]at a4;clear b5 aj;generalize NT (ats cs) v=tg at*
              go_wp2_with fail
              refine az.out.mono ?_;rintro e W2 ⟨rfl,an⟩;have am:=uh (HV.out.call an);clear an HV az;have bH:=Dy H (Ek k);have bW:=bt.out k;have ab:(Ln H (Ek k)).length+1 <= maxLen:=by unfold maxLen;omega
              have ac:((Ln H (Ek k)).length+1)*24 <= 140737488355328:=O
              go_wp2_with fail
              have a6:=aB.out _ _ am.out.drew;have bA:=uh am.out.drew;clear am;refine F_ ?_;refine rG (S:=fun W'=>W'.cell? (aD M 0)=some (iV c.1) /\ W'.cell? (aD rb (ro+k))=some (iV s)) 11 ?_;generalize W2.drew=w5 at*;have T6:=uh (bA.out.alloc (.cells #[iV c.1,iV s,iV 8] 240));have b4:=aB.out _ _ (T6.out.tail);refine G2 0 117 a6 ?_;refine G2 1 118 a6 ?_;refine Jt 2 119 a6 (fun w aJ=>aJ.1) ?_;refine G2 3 120 a6 ?_;refine G2 4 121 a6 ?_;refine G2 5 122 a6 ?_;refine Jt 6 123 a6 (fun w aJ=>aJ.2) ?_;refine G2 7 124 a6 ?_;refine G5 8 (fun K hK=>?_)
              go_simp
              refine hK.out _ _ b4 fun _=>?_;clear hK K a6 b4;simp only[Gb,G7,G6];refine G5 9 (fun K hK=>?_);refine Xc rfl _ _ rfl KV rfl aC.out (R:=(w5.heap.size,.cells #[iV c.1,iV s,iV 8] 240)::(((M,.cells #[iV c.1,yV c.2.tag,iV c.2.typ,iV c.2.len,iV c.2.size] 127)::a3)++(lj++r))) (T6.out.perm po).has rfl (news:=[iV c.1,iV s,iV 8]) rfl (Qy (A_ _ _)) (by simp[Value.oneCell']) ab ac ?_;intro a9 p9 l9 w8 E V9 a8;have a2:=uh (((T6.out.perm po).trans V9).perm (l2:=(w5.heap.size,.cells #[iV c.1,iV s,iV 8] 240)::(l9++(((M,.cells #[iV c.1,yV c.2.tag,iV c.2.typ,iV c.2.len,iV c.2.size] 127)::a3)++(lj++r)))) po);have a5:=uh E;have aG:=aB.out _ _ a2.out.tail;refine hK.out _ _ aG fun _=>?_;clear hK K V9 E a8;simp only[Gb,G7,G6];refine G5 10 (fun K hK=>?_)
              go_simp
              refine hK.out _ _ aG fun _=>?_;clear hK K aG;simp only[Gb,G7,G6];refine P_ kr ?_ _;refine z_ ?_
              go_wp2
              go_roundw
              case rel=>
               have y:(Ln H (Ek (k+1))).length=(Ln H (Ek k)).length+1:=(by rw[a4.out];simp);exact⟨k+1,a9,p9,l9,by omega,by go_num,by rw[y],by rw[y,a4.out,JY];exact a5.out,a2.out.tail⟩
              case measure=>simp[intOf];omega
            · have au:¬VG (c.1,s,NT (ats cs) v,v)=true:=by unfold VG;simp[hb]
              rw[y_ au,p_]at a4;clear au aj;generalize NT (ats cs) v=tg at*
              go_wp2_with fail
              refine az.out.mono ?_;rintro e W2 ⟨rfl,an⟩;have am:=uh (HV.out.call an);clear an HV az
              go_wp2
              go_roundw
              case rel=>exact⟨k+1,aa,p2,Z,by omega,by go_num,by rw[a4.out],by rw[a4.out];exact aC.out,am.out⟩
              case measure=>simp[intOf];omega
        · obtain rfl:k=K:=O
          have HX:=uh (by rw[←aZ.out]at av ⊢;exact⟨rfl,av,V⟩:(Ln H (Ek k)).length=(Ln H E1).length /\ Gh 240 3 aa (Ln H E1).length p2 (TE (Ln H E1)) Z /\ Turn [] w (Z++(((M,.cells #[iV c.1,yV c.2.tag,iV c.2.typ,iV c.2.len,iV c.2.size] 127)::a3)++(lj++r))) wr);clear V av
          by_cases bU:k<R.length
          · have b8:(k:Int)<(R.length:Int):=O
            have bP:(((c.2.tag:Nat):Int) == 1)=false:=by
             rw[j_];intro h;have h1:=aU.out;rw[v_ O]at h1;omega
            go_wp2
            go_roundw
            case rel=>exact⟨i+1,aa,p2,Z,((M,.cells #[iV c.1,yV c.2.tag,iV c.2.typ,iV c.2.len,iV c.2.size] 127)::a3)++lj,by omega,by go_num,by rw[ay.out,HX.out.1],by rw[ay.out];exact HX.out.2.1,HX.out.2.2.perm po⟩
            case measure=>simp[intOf];omega
          · have b8:¬(k:Int)<(R.length:Int):=O
            go_wp2
            go_roundw
            case rel=>exact⟨i+1,aa,p2,Z,((M,.cells #[iV c.1,yV c.2.tag,iV c.2.typ,iV c.2.len,iV c.2.size] 127)::a3)++lj,by omega,by go_num,by rw[ay.out,HX.out.1],by rw[ay.out];exact HX.out.2.1,HX.out.2.2.perm po⟩
            case measure=>simp[intOf];omega
     · obtain rfl:i=cs.length:=O
       have bL:¬((cs.length:Nat):Int)<(cs.length:Int):=O;have HX:=uh (⟨by rw[bn.out,bs.out];rfl,a1,V⟩:F=Ln H (MU L W cs cs.length) /\ Gh 240 3 ao (Ln H (MU L W cs cs.length)).length p (TE (Ln H (MU L W cs cs.length))) lr /\ Turn [] w (lr++(lj++r)) wr);clear a1 V
       go_wp2
       go_ret;exact⟨ao,p,by rw[HX.out.1];rfl,lr,by rw[HX.out.1];exact HX.out.2.1,HX.out.2.2.sub (x_ ..)⟩
end
section
open Go Go.RowKit
theorem Chain.asc {L:List Ty}{W:List Nat}:∀{cs:List Ce} {g e:Nat},Chain L W g cs e -> (∀c∈cs,g <= c.1) /\ List.Pairwise (fun c d:Ce=>c.1+c.2.size <= d.1) cs
 | [],_,_,_=>⟨(fun _ h=>by cases h),List.Pairwise.nil⟩
 | c::cs,g,e,h=>by
  obtain⟨h1,h2,y⟩:=h;obtain⟨r,E⟩:=Chain.asc y;refine⟨fun d hd=>?_,List.pairwise_cons.2 ⟨fun d hd=>?_,E⟩⟩
  · rcases t_.1 hd with rfl|hd
    ·omega
    · have:=r d hd
      omega
  · have:=r d hd
    omega
def VK (cs:List Ce)(n i:Nat):List Bool:=(List.range n).map fun g=>decide (g∈ats (cs.take i))
theorem SA (cs:List Ce)(n i:Nat):(VK cs n i).length=n:=by unfold VK;rw[n_,Xe]
theorem BM (cs:List Ce)(n:Nat):VK cs n 0=List.replicate n false:=by
 refine Xq fun g=>?_;unfold VK;rw[G_,Xz]
 by_cases h:g<n
 · rw[Yv h,v_ h]
   rfl
 · rw[Qb (by rw[Xe];omega),y_ h]
   rfl
theorem BN {L:List Ty}{W:List Nat}{cs:List Ce}{e n i:Nat}{c:Ce}(J:Chain L W 0 cs e)(G:cs[i]?= some c):VK cs n (i+1)=(VK cs n i).set c.1 (decide (c.2.tag=1)):=by
 have V:c.1∉ats (cs.take i):=fun h=>by
  obtain⟨d,hd,r⟩:=Rs.1 h;obtain⟨j,y⟩:=Ys (Ym.1 hd).1;rw[List.getElem?_take]at y
  split at y
  · rename_i hji
    have Z:=(m_.1 G).1;have U:=(m_.1 y).1;have h1:=Yd.1 J.asc.2 j i U Z hji;rw[(m_.1 y).2,(m_.1 G).2]at h1;have h2:=(J.mem d (q_ y)).2.2.pos;omega
  ·cases y
 refine Xq fun g=>?_;rw[List.getElem?_set];unfold VK;rw[G_,G_,n_,Xe,Np G]
 by_cases N:g<n
 · rw[Yv N]
   by_cases r:c.1=g
   · subst r
     rw[v_ rfl,v_ N]
     by_cases E:c.2.tag=1
     ·simp[E]
     ·simp[E,V]
   · rw[y_ r]
     have M:¬g=c.1:=fun h=>r h.symm
     by_cases E:c.2.tag=1
     ·simp[E,M]
     ·simp[E]
 · rw[Qb (by rw[Xe];omega)]
   by_cases r:c.1=g
   · rw[v_ r,y_ (show ¬c.1<n by omega)]
     rfl
   · rw[y_ r]
     rfl
theorem Pa {cs:List Ce}{n g:Nat}(r:g<n):Ld (VK cs n cs.length) g=decide (g∈ats cs):=by
 unfold Ld VK;rw[M_,G_,Yv r,D_]
 rfl
theorem BP {W B:List Nat}{cs:List Ce}(h:bitsOf B (W.length/2) (objs cs)):∀g,g<W.length/2 -> Gv B g=Ld (VK cs (W.length/2) cs.length) g:=fun g y=>by
 rw[Pa y];have h1:=h g y;rw[←Rs]at h1
 cases r:Gv B g with
 | true=>exact(k_ (h1.1 r)).symm
 | false=>
  refine(b_ fun h=>?_).symm;rw[h1.2 h]at r
  cases r
end
section
open Go Go.RowKit Go.IntWalk
theorem ZZ:Elem prog 51 4 1 1 (.bool false):=Jm underlying51 kr rfl
theorem Y7 (n:Nat):madeCells (Value.bool false).cells (n*1)=(KD (List.replicate n false)).toArray:=by
 apply Array.ext_getElem?
 intro m;rw[Xs]
 by_cases r:m<n
 · have h1:((KD (List.replicate n false)).toArray)[m]?= some (.bool false):=by
     rw[Yp];unfold KD;rw[G_,Xz,v_ r]
     rfl
   rw[h1];simp[madeCells,r];have y:(Value.bool false).cells=#[.bool false]:=rfl;rw[y,show m%(#[Value.bool false]:Array Value).size=0 from Nat.mod_one m]
   rfl
 ·rw[Yc (by simp[madeCells];omega),Yc (by simp[KD];omega)]
theorem Ba (S:List Bool)(i:Nat)(b:Bool):(KD S).toArray.setIfInBounds i (.bool b)=(KD (S.set i b)).toArray:=by
 rw[Zq];unfold KD;rw[List.map_set]
theorem Dr {S:List Bool}{i:Nat}(h:i<S.length):∃b:Bool,(KD S).toArray[i]?= some (.bool b):=⟨S[i],by
 rw[Yp];unfold KD;rw[G_,a_ h]
 rfl⟩
theorem BQ (w:World)(la:Option Addr)(lc:Nat)(cs:List Ce){L:List Ty}{W:List Nat}{en:Nat}(hC:Chain L W 0 cs en)(n:Nat)(hn:n <= 65536)(he:en <= n)(hS:Src w la cs.length lc 5 (ces cs))(aa:cs.length <= 32768):
  Calls prog 14 #[.slice la cs.length lc,iV n] w fun e w'=>∃ao cap l,e=.returned (.slice ao n cap) /\ Gh 4 1 ao n cap (KD (VK cs n cs.length)) l /\ Turn [] w l w':=by
 have HS:=uh (fun u (hk:Below w.heap.size w u)=>hS.below hk);have HN:=uh (fun(i:Nat) (c:Ce) (h:cs[i]?= some c)=>BN (n:=n) hC h)
 have a0:=uh (fun(i:Nat) (c:Ce) (h:cs[i]?= some c)=>(by
  have h1:=hC.mem c (q_ h);have h2:=h1.2.2.pos;omega:c.1<n))
 obtain⟨i0,hi,hz,a6,a5⟩:=ZZ.info;have M:=fun W:World=>JU (P:=prog) 51 4 i0 _ ZZ.ht hi hz .i64 .i64 n (by rw[a5];omega) O W;rw[a6,Y7 n,←BM cs]at M;have T0:=(r_ (C_ w)).alloc (.cells (KD (VK cs n 0)).toArray 4);obtain⟨g,hg⟩:∃g,w.heap.size=g:=⟨_,rfl⟩;rw[hg]at T0;have HT:=uh T0;have E:=uh (fun i=>SA cs n i);clear hC hS he hi hz a6 a5 T0;obtain⟨St,a3⟩:∃St:Nat -> List Bool,St=VK cs n:=⟨_,rfl⟩;rw[←a3]at HN HT E M ⊢;clear a3
 go_enter func14,ntmps14
 go_wp2_with fail
 try rw[hg]
 clear hg M;generalize w.alloc (.cells (KD (St 0)).toArray 4)=wa at*
 go_loopw [6] (fun v6 wr=>∃i:Nat,i <= cs.length /\ v6=iV i /\ Turn [] w [(g,.cells (KD (St i)).toArray 4)] wr) (fun v6 _=>cs.length-(intOf v6).toNat)
 case atStart=>exact⟨0,u_ _,by go_num,HT.out⟩
 case round=>
  clear HT;obtain⟨i,hi,rfl,V⟩:=hrel;have HV:=uh V
  by_cases a7:i<cs.length
  · have a9:(i:Int)<(cs.length:Int):=O
    obtain⟨c,hc⟩:∃c,cs[i]?= some c:=⟨cs[i],a_ a7⟩;have U:=HS.out wr V.below;obtain⟨lb,lo,rfl,-⟩:=U.form (by rw[GW];omega);have N:=U.ce hc;have q0:wr.cell? (aD lb (lo+i*5))=some (iV c.1):=N 0 _ rfl;have q1:wr.cell? (aD lb (lo+i*5+1))=some (yV c.2.tag):=N 1 _ rfl;have ab:(c.1:Int)<(n:Int):=(by have:=a0.out i c hc;omega);have Hc:=uh hc
    have HQ:=uh (fun u (hk:Below w.heap.size w u)=>(by
     have h:=(HS.out u hk).ce Hc.out;exact⟨h 0 _ rfl,h 1 _ rfl⟩:u.cell? (aD lb (lo+i*5))=some (iV c.1) /\ u.cell? (aD lb (lo+i*5+1))=some (yV c.2.tag)))
    clear U N hc V
    go_upto_region 6 with fail
    have y:=uh HV.out.drew;have r:wr.drew.cell? (aD lb (lo+i*5))=some (iV c.1) /\ wr.drew.cell? (aD lb (lo+i*5+1))=some (yV c.2.tag):=⟨q0,q1⟩;clear q0 q1 HV;refine F_ ?_;refine rG (S:=fun u=>u.cell? (aD lb (lo+i*5))=some (iV c.1) /\ u.cell? (aD lb (lo+i*5+1))=some (yV c.2.tag)) 15 ?_;generalize wr.drew=u0 at*;refine G2 0 22 r ?_;refine G2 1 23 r ?_;refine G2 2 24 r ?_;refine G2 3 25 r ?_;refine G2 4 26 r ?_;refine Jt 5 27 r (fun w J=>J.1) ?_;refine G2 6 28 r ?_;refine G2 7 29 r ?_;refine G2 8 30 r ?_;refine G2 9 31 r ?_;refine G2 10 32 r ?_;refine Jt 11 33 r (fun w J=>J.2) ?_;obtain⟨tv,Z⟩:∃tv,tv=decide (c.2.tag=1):=⟨_,rfl⟩;have he:(((c.2.tag:Nat):Int) == 1)=tv:=(by rw[Z,Bool.eq_iff_iff,Qx,decide_eq_true_iff];omega);have a2:=uh Z;clear Z;have a8:=a0.out i c Hc.out;have ae:=E.out i;refine G2 12 34 r ?_;refine G2 13 35 r ?_;obtain⟨b0,a4⟩:=Dr (S:=St i) (i:=c.1) O;have q6:=(y.out.cell1 c.1).trans a4;have f6:=y.out.free1 c.1;have G:=y.out.setCell c.1 (.bool tv);rw[Ba,a2.out,←HN.out i c Hc.out,←a2.out]at G;have a1:=uh G;clear G a4;refine G5 14 (fun K hK=>?_)
    go_simp
    refine hK.out _ _ (HQ.out _ a1.out.below) fun _=>?_;clear hK K q6 f6 r;simp only[Gb,G7,G6];refine P_ kr ?_ _;refine z_ ?_;generalize World.setCell _ _ _=u9 at*;clear y HQ
    go_wp2_with fail
    go_roundw
    case rel=>exact⟨i+1,by omega,by go_num,a1.out⟩
    case measure=>simp[intOf];omega
  · obtain rfl:i=cs.length:=O
    have ac:¬((cs.length:Nat):Int)<(cs.length:Int):=O
    go_wp2
    go_ret;have h:=Gh.lit (e:=4) (size:=1) g (KD (St cs.length)).toArray n (by rw[Z_,MX,E.out,Xs]) (by unfold maxLen;omega);exact⟨_,_,rfl,_,h,HV.out⟩
theorem YA {cs:List Ce}{v i:Nat}{c:Ce}(h:cs[i]?= some c)(r:JJ (cs.take i) v=false)(E:¬(c.2.tag=1 /\ 1048576+2*c.1=v)):JJ (cs.take (i+1)) v=false:=by
 rw[Jf]at r ⊢;intro h1;obtain⟨d,hd,rfl⟩:=Lv.1 h1;rw[K8 h,GM]at hd;rcases s_.1 hd with hd|hd
 ·exact r (Lv.2 ⟨d,hd,rfl⟩)
 · obtain⟨h2,y⟩:=Kn hd
   rw[Qa]at h2;subst h2;exact E ⟨y,rfl⟩
theorem CL {cs:List Ce}{v i:Nat}{c:Ce}(h:cs[i]?= some c)(r:c.2.tag=1)(y:1048576+2*c.1=v):JJ cs v=true:=
 Lv.2 ⟨c,Nf (q_ h) r,y.symm⟩
theorem jS (w:World)(cs:List Ce)(ca:Option Addr)(cc:Nat)(hS:Src w ca cs.length cc 5 (ces cs))(hl:cs.length <= 65536)(Z:∀c∈cs,c.1 <= 65536)(v:Nat):
  Calls prog 73 #[.slice ca cs.length cc,uV v] w fun e w'=>e=.returned (.bool (JJ cs v)) /\ Below w.heap.size w w':=by
 have HS:=uh (fun w' (hk:Below w.heap.size w w')=>hS.below hk);have a0:=uh Z;clear hS Z
 go_enter func73,ntmps73
 go_wp2_with fail
 go_loopw [5] (fun v5 wr=>∃(i:Nat),i <= cs.length /\ v5=iV i /\ JJ (cs.take i) v=false /\ Below w.heap.size w wr) (fun v5 _=>cs.length-(intOf v5).toNat)
 case atStart=>exact⟨0,u_ _,by go_num,rfl,T_ _ _⟩
 case round=>
  obtain⟨i,hi,rfl,J,y⟩:=hrel
  by_cases a2:i<cs.length
  · have a3:(i:Int)<(cs.length:Int):=O
    obtain⟨c,G⟩:∃c,cs[i]?= some c:=⟨cs[i],a_ a2⟩;have E:=HS.out wr y;obtain⟨b,off,rfl,-⟩:=E.form (by rw[GW];omega);have M:wr.rangeAt b (off+i*5) [iV c.1,yV c.2.tag,iV c.2.typ,iV c.2.len,iV c.2.size]:=E.ce G;have q0:=M 0 _ rfl;rw[Zs]at q0;have q1:=M 1 _ rfl;have HN:=uh (YA (v:=v) G);have HM:=uh (CL (v:=v) G);have Ha:=uh (Dx wr c.1 (a0.out c (q_ G)));obtain⟨ad,a1⟩:∃ad,1048576+2*c.1=ad:=⟨_,rfl⟩;rw[a1]at Ha HN HM;have r:=uh y;have Hn:=uh J;clear E M G y J
    by_cases N:c.2.tag=1
    · have k1:(((c.2.tag:Nat):Int) == 1)=true:=by rw[Qx];omega
      by_cases V:ad=v
      · have k0:(((ad:Nat):Int) == (v:Int))=true:=by rw[Qx];omega
        have Hd:=uh (HM.out N V);clear V N
        go_wp2_with (first
         | (go_at_call 99;refine Ha.out.mono ?_;rintro e w' ⟨rfl,U⟩;rw[U];clear U w')
         | fail)
        go_ret;exact⟨by first|(rw[Hd.out];done)|(rw[Hd.out];rfl)|simp[Hd.out],r.out⟩
      · have k0:(((ad:Nat):Int) == (v:Int))=false:=by rw[j_];omega
        have Hx:=uh (HN.out Hn.out (fun h=>V h.2));clear V N
        go_wp2_with (first
         | (go_at_call 99;refine Ha.out.mono ?_;rintro e w' ⟨rfl,U⟩;rw[U];clear U w')
         | fail)
        go_roundw
        case rel=>exact⟨i+1,by omega,by go_num,Hx.out,r.out⟩
        case measure=>simp[intOf];omega
    · have k1:(((c.2.tag:Nat):Int) == 1)=false:=by rw[j_];omega
      have Hx:=uh (HN.out Hn.out (fun h=>N h.1));clear N
      go_wp2
      go_roundw
      case rel=>exact⟨i+1,by omega,by go_num,Hx.out,r.out⟩
      case measure=>simp[intOf];omega
  · obtain rfl:i=cs.length:=O
    have a4:¬((cs.length:Nat):Int)<(cs.length:Int):=O;rw[D_]at J;have Hd:=uh J;have r:=uh y;clear J y
    go_wp2
    go_ret;exact⟨by first|(rw[Hd.out];done)|(rw[Hd.out];rfl)|simp[Hd.out],r.out⟩
theorem ES (w:World){W:List Nat}(wa:Option Addr)(ae:Nat)(L:List Ty)(ta:Option Addr)(tc:Nat)(SS:List Bool)(sa:Option Addr)(sc:Nat)(F:List Ft)(aj:F.length <= 2200000000)(aa:∀x∈F,x.2.2≠8 -> x.2.1=0)
  (y:Calls prog 126 #[.slice wa W.length ae,.slice ta L.length tc,.slice sa SS.length sc] w fun e w'=>∃ao cap l,e=.returned (.slice ao F.length cap) /\ Gh 240 3 ao F.length cap (TE F) l /\ Turn [] w l w'):
  Calls prog 69 #[.slice wa W.length ae,.slice ta L.length tc,.slice sa SS.length sc] w fun e w'=>∃ao cap l,e=.returned (.slice ao F.length cap) /\ Gh 39 5 ao F.length cap (Nm (F.map S1)) l /\ Turn [] w l w':=by
 have HK:=uh y;have af:=uh (fun(i:Nat) (x:Ft) (h:F[i]?= some x)=>aa x (q_ h));clear y aa
 go_enter func69,ntmps69
 go_wp2_with fail
 refine HK.out.mono ?_;rintro e w1 ⟨fa,fc,lf,rfl,ac,T1⟩;have a5:Hid (Turn [] w ([]++lf) w1):=uh T1;have a6:=uh ac;clear T1 ac HK
 go_wp2_with fail
 go_loopw [7,9] (fun v7 v9 wr=>∃(i:Nat) (a7:Option Addr) (p7:Nat) (lr:List Blk),i <= F.length /\ v9=iV i /\ v7=.slice a7 i p7 /\ Gh 39 5 a7 i p7 (Nm ((F.take i).map S1)) lr /\ Turn [] w (lr++lf) wr) (fun _ v9 _=>F.length-(intOf v9).toNat)
 case atStart=>exact⟨0,none,0,[],u_ _,by go_num,rfl,Zb _ _,a5.out⟩
 case round=>
  clear a5;obtain⟨i,a7,p7,lr,hi,rfl,rfl,a4,V⟩:=hrel;have a0:=uh a4;have HV:=uh V
  by_cases ag:i<F.length
  · have ah:(i:Int)<(F.length:Int):=O
    obtain⟨x,hx⟩:∃x,F[i]?= some x:=⟨F[i],a_ ag⟩;obtain⟨b,off,rfl,-⟩:=(a6.out.src (R:=lr) (V.has.perm po)).form (by rw[YL];omega);have E:=uh (fun(W':World) (l':List Blk) (V:Turn [] w (l'++lf) W')=>(Src.fm (f:=Ry) (fun _=>rfl) (a6.out.src (R:=l') (V.has.perm po)) hx:W'.rangeAt b (off+i*3) [iV x.1,iV x.2.1,iV x.2.2]));have q2:=E.out wr lr V 2 _ rfl;have HN:=uh (KT (f:=S1) hx);have h0:=af.out i x hx;have a8:i+1 <= maxLen:=(by unfold maxLen;omega);have ab:(i+1)*40 <= 140737488355328:=O;clear V a4 hx
    by_cases h8:x.2.2=8
    · have k8:((x.2.2:Int) == 8)=true:=by rw[Qx];omega
      have U:S1 x=(2,x.1,x.2.1,0,8):=(by unfold S1;rw[v_ h8,h8]);rw[U]at HN;clear U h8 h0
      go_wp2_with fail
      have r:=E.out _ _ HV.out.drew;have a1:=uh HV.out.drew;clear HV q2;refine F_ ?_;refine rG (S:=fun W'=>W'.rangeAt b (off+i*3) [iV x.1,iV x.2.1,iV x.2.2]) 15 ?_;generalize wr.drew=w5 at*;have T6:=uh (a1.out.alloc (.cells #[yV 2,iV x.1,iV x.2.1,uV 0,iV 8] 39));have N:=E.out _ ((w5.heap.size,.cells #[yV 2,iV x.1,iV x.2.1,uV 0,iV 8] 39)::lr) T6.out;refine G2 0 26 r ?_;refine G2 1 27 r ?_;refine G2 2 28 r ?_;refine G2 3 29 r ?_;refine G2 4 30 r ?_;refine Jt 5 31 r (fun w J=>(by have h:=J 0 _ rfl;rwa [Zs]at h:w.cell? (aD b (off+i*3))=some (iV x.1))) ?_;refine G2 6 32 r ?_;refine G2 7 33 r ?_;refine G2 8 34 r ?_;refine G2 9 35 r ?_;refine Jt 10 36 r (fun w J=>J 1 _ rfl) ?_;refine G2 11 37 r ?_;refine G5 12 (fun K y=>?_)
      go_simp
      refine y.out _ _ N fun _=>?_;clear y K r N;simp only[Gb,G7,G6];refine G5 13 (fun K y=>?_);refine Xc rfl _ _ rfl GB rfl a0.out (R:=(w5.heap.size,.cells #[yV 2,iV x.1,iV x.2.1,uV 0,iV 8] 39)::lf) (T6.out.perm po).has rfl (news:=[yV 2,iV x.1,iV x.2.1,uV 0,iV 8]) rfl (Qy (A_ _ _)) (by simp[Value.oneCell']) a8 ab ?_;intro a9 p9 l9 w8 Z V9 a3;have M:=uh (((T6.out.perm po).trans V9).perm (l2:=(w5.heap.size,.cells #[yV 2,iV x.1,iV x.2.1,uV 0,iV 8] 39)::(l9++lf)) po);have a2:=uh Z;have G:=E.out _ _ M.out.tail;refine y.out _ _ G fun _=>?_;clear y K V9 Z a3;simp only[Gb,G7,G6];refine G5 14 (fun K y=>?_)
      go_simp
      refine y.out _ _ G fun _=>?_;clear y K G;simp only[Gb,G7,G6];refine P_ kr ?_ _;refine z_ ?_
      go_wp2
      go_roundw
      case rel=>exact⟨i+1,a9,p9,l9,by omega,by go_num,rfl,by rw[HN.out,Gy];exact a2.out,M.out.tail⟩
      case measure=>simp[intOf];omega
    · have k8:((x.2.2:Int) == 8)=false:=by rw[j_];omega
      have U:S1 x=(1,x.1,0,0,x.2.2):=(by unfold S1;rw[y_ h8,h0 h8]);rw[U]at HN;clear U h8 h0
      go_wp2_with fail
      have r:=E.out _ _ HV.out.drew;have a1:=uh HV.out.drew;clear HV q2;refine F_ ?_;refine rG (S:=fun W'=>W'.rangeAt b (off+i*3) [iV x.1,iV x.2.1,iV x.2.2]) 15 ?_;generalize wr.drew=w5 at*;have T6:=uh (a1.out.alloc (.cells #[yV 1,iV x.1,iV 0,uV 0,iV x.2.2] 39));have N:=E.out _ ((w5.heap.size,.cells #[yV 1,iV x.1,iV 0,uV 0,iV x.2.2] 39)::lr) T6.out;refine G2 0 40 r ?_;refine G2 1 41 r ?_;refine G2 2 42 r ?_;refine G2 3 43 r ?_;refine G2 4 44 r ?_;refine Jt 5 45 r (fun w J=>(by have h:=J 0 _ rfl;rwa [Zs]at h:w.cell? (aD b (off+i*3))=some (iV x.1))) ?_;refine G2 6 46 r ?_;refine G2 7 47 r ?_;refine G2 8 48 r ?_;refine G2 9 49 r ?_;refine Jt 10 50 r (fun w J=>J 2 _ rfl) ?_;refine G2 11 51 r ?_;refine G5 12 (fun K y=>?_)
      go_simp
      refine y.out _ _ N fun _=>?_;clear y K r N;simp only[Gb,G7,G6];refine G5 13 (fun K y=>?_);refine Xc rfl _ _ rfl GB rfl a0.out (R:=(w5.heap.size,.cells #[yV 1,iV x.1,iV 0,uV 0,iV x.2.2] 39)::lf) (T6.out.perm po).has rfl (news:=[yV 1,iV x.1,iV 0,uV 0,iV x.2.2]) rfl (Qy (A_ _ _)) (by simp[Value.oneCell']) a8 ab ?_;intro a9 p9 l9 w8 Z V9 a3;have M:=uh (((T6.out.perm po).trans V9).perm (l2:=(w5.heap.size,.cells #[yV 1,iV x.1,iV 0,uV 0,iV x.2.2] 39)::(l9++lf)) po);have a2:=uh Z;have G:=E.out _ _ M.out.tail;refine y.out _ _ G fun _=>?_;clear y K V9 Z a3;simp only[Gb,G7,G6];refine G5 14 (fun K y=>?_)
      go_simp
      refine y.out _ _ G fun _=>?_;clear y K G;simp only[Gb,G7,G6];refine P_ kr ?_ _;refine z_ ?_
      go_wp2
      go_roundw
      case rel=>exact⟨i+1,a9,p9,l9,by omega,by go_num,rfl,by rw[HN.out,Gy];exact a2.out,M.out.tail⟩
      case measure=>simp[intOf];omega
  · obtain rfl:i=F.length:=O
    have ak:¬((F.length:Nat):Int)<(F.length:Int):=O;rw[D_]at a0;clear V a4
    go_wp2
    go_ret;exact⟨a7,p7,rfl,lr,a0.out,HV.out.sub (x_ ..)⟩
theorem AS {cs:List Ce}{i:Nat}(h:cs.length <= i)(h1:i <= cs.length+1):GV cs i=GV cs cs.length:=by
 obtain rfl|rfl:i=cs.length∨i=cs.length+1:=O
 ·rfl
 · rw[GV,Qb (g_ _)]
   simp
theorem AR (cs:List Ce):GV cs 1=[]:=by
 rw[GV,GV,L_]
 cases cs[0]? with
 | none=>rfl
 | some c=>exact y_ (fun h=>by have:=h.2;simp[JE]at this)
theorem PM (w:World)(cs:List Ce)(ca:Option Addr)(cc:Nat)(hS:Src w ca cs.length cc 5 (ces cs))(hl:cs.length <= 65536):
  Calls prog 70 #[.slice ca cs.length cc] w fun e w'=>∃ao cap l,e=.returned (.slice ao (GV cs cs.length).length cap) /\ Gh 39 5 ao (GV cs cs.length).length cap (Nm (GV cs cs.length)) l /\ Turn [] w l w':=by
 have HS:=uh (fun w' (hk:Below w.heap.size w w')=>hS.below hk);have a1:=uh (r_ (C_ w));have H1:=uh (AR cs);clear hS
 go_enter func70,ntmps70
 go_wp2_with fail
 go_loopw [3,4] (fun v3 v4 wr=>∃(i:Nat) (M:Option Addr) (U:Nat) (N:List Blk),1 <= i /\ i <= cs.length+1 /\ v4=iV i /\ v3=.slice M (GV cs i).length U /\ Gh 39 5 M (GV cs i).length U (Nm (GV cs i)) N /\ Turn [] w N wr) (fun _ v4 _=>cs.length+1-(intOf v4).toNat)
 case atStart=>exact⟨1,none,0,[],g_ _,by omega,rfl,by rw[H1.out];rfl,by rw[H1.out];exact Zb _ _,a1.out⟩
 case round=>
  clear a1;obtain⟨i,M,U,N,ah,hi,rfl,rfl,Z,V⟩:=hrel;have E:=uh Z;have HV:=uh V
  by_cases ab:i<cs.length
  · have ae:(i:Int)<(cs.length:Int):=O
    obtain⟨j,rfl⟩:∃j,i=j+1:=⟨i-1,by omega⟩;obtain⟨c,hc⟩:∃c,cs[j+1]?= some c:=⟨cs[j+1],a_ ab⟩;obtain⟨d,hd⟩:∃d,cs[j]?= some d:=⟨cs[j]'O,a_ _⟩;have G:=HS.out wr V.below;obtain⟨b,off,rfl,-⟩:=G.form (by rw[GW];omega);have a0:=G.ce hc;have a5:=G.ce hd;have q0:=a0 0 _ rfl;rw[Zs]at q0;have q1:=a0 1 _ rfl;have d1:=a5 1 _ rfl;have af:((j+1:Nat):Int)-1=(j:Int):=O;have r:=uh (TB hc);rw[show JE cs (j+1)=d.2.tag from by simp[JE,hd]]at r;have ag:=M0 cs (j+1);have a8:(GV cs (j+1)).length+1 <= maxLen:=(by unfold maxLen;omega);have aa:((GV cs (j+1)).length+1)*40 <= 140737488355328:=O;clear V Z G a0 a5 hc hd;generalize GV cs (j+1)=Gp at*
    by_cases y:c.2.tag=3
    · have k1:(((c.2.tag:Nat):Int) == 3)=true:=by rw[Qx];omega
      by_cases J:d.2.tag=3
      · have k2:(((d.2.tag:Nat):Int) == 3)=true:=by rw[Qx];omega
        rw[show NQ c d.2.tag=[(7,c.1,0,0,0)]from v_ ⟨y,J⟩]at r;clear y J
        go_wp2_with (first
         | (at_builtin;have T6:=uh (HV.out.alloc (.cells #[yV 7,iV c.1,iV 0,uV 0,iV 0] 39));refine K_ rfl _ _ rfl GB rfl E.out (R:=[(wr.heap.size,.cells #[yV 7,iV c.1,iV 0,uV 0,iV 0] 39)]) (T6.out.perm po).has rfl (news:=[yV 7,iV c.1,iV 0,uV 0,iV 0]) rfl (Qy (A_ _ _)) (by simp[Value.oneCell']) a8 aa ?_;intro a9 p9 l9 w8 a4 V9 ac;have a6:=uh ((T6.out.perm po).trans V9);have a7:=uh a4;clear V9 a4 ac)
         | fail)
        go_roundw
        case rel=>
         have a2:(GV cs (j+1+1)).length=Gp.length+1:=(by rw[r.out];simp);exact⟨j+1+1,a9,p9,l9,by omega,by omega,by go_num,by rw[a2],by rw[a2,r.out,Gy];exact a7.out,a6.out.sub (x_ ..)⟩
        case measure=>simp[intOf];omega
      · have k2:(((d.2.tag:Nat):Int) == 3)=false:=by rw[j_];omega
        rw[show NQ c d.2.tag=[]from y_ (fun h=>J h.2),p_]at r;clear y J
        go_wp2
        go_roundw
        case rel=>exact⟨j+1+1,M,U,N,by omega,by omega,by go_num,by rw[r.out],by rw[r.out];exact E.out,HV.out⟩
        case measure=>simp[intOf];omega
    · have k1:(((c.2.tag:Nat):Int) == 3)=false:=by rw[j_];omega
      rw[show NQ c d.2.tag=[]from y_ (fun h=>y h.1),p_]at r;clear y
      go_wp2
      go_roundw
      case rel=>exact⟨j+1+1,M,U,N,by omega,by omega,by go_num,by rw[r.out],by rw[r.out];exact E.out,HV.out⟩
      case measure=>simp[intOf];omega
  · have aj:¬(i:Int)<(cs.length:Int):=O
    have HE:=uh (AS (cs:=cs) (i:=i) O hi);clear V Z
    go_wp2
    go_ret;exact⟨M,U,by rw[←HE.out];rfl,N,by rw[←HE.out];exact E.out,HV.out⟩
theorem Nt {e:TypeId}{ao:Option Addr}{n cap:Nat}{xs:List Nat}{l R:List Blk}{w:World}(h:Gh e 1 ao n cap (Gf xs) l)(y:Has w (l++R))(r:0<xs.length):
  ∃b o,ao=some (aD b o) /\ ∀i v,xs[i]?= some v -> w.cell? (aD b (o+i))=some (uV (v:Nat)):=by
 obtain⟨b,o,rfl,E⟩:=(h.src y).form (by rw[G8];exact r);exact⟨b,o,rfl,fun i v G=>E i _ (JL G)⟩
theorem Vn {f:Nat×Nat -> Nat}{l:List (Nat×Nat)}{i:Nat}{x:Nat×Nat}(h:l[i]?= some x):(l.map f)[i]?= some (f x):=by rw[G_,h];rfl
theorem jD (w:World){W:List Nat}(wa:Option Addr)(aB:Nat)(hW:Src w wa W.length aB 1 (u64s W))(hf:W.length <= 65536)(hu:∀v∈W,v<18446744073709551616)(L:List Ty)(aY:∀t∈L,TyIn t)(hL:L.length <= 1000)(ta:Option Addr)(tc:Nat)(aX:Src w ta L.length tc 3 (tys L))
  (SS:List Bool)(sa:Option Addr)(sc:Nat)(hS:Src w sa SS.length sc 1 (KD SS))(c6:SS.length <= 65536)(cs:List Ce)(en:Nat)(hC:Chain L W 0 cs en)(hE:Ky L W en){B:List Nat}(hI:WdIn L W B)
  (ph pk:Option Addr)(hh hw:List (Nat×Nat))(cp:hh.length <= 65536)(cr:hw.length <= 65536)
  (bu:Jz 71 89 ph w (hh.map (·.1)))(bv:Jz 72 36 ph w (hh.map (·.2)))
  (bx:Jz 74 115 pk w (hw.map (·.1)))(bz:Jz 75 36 pk w (hw.map (·.2)))
  (ps:List Nat)(pa:Option Addr)(pc:Nat)(hP:Src w pa ps.length pc 1 (Gf ps))(cq:ps.length <= 65536)(r:Int)(_hm1: -1 <= r)(_hm2:r <= 65536)(G:List Br)(bt:G=Ke (Ld SS) L W cs en hh (ps.map fun v=>(v,v)) hw r):
  Calls prog 18 #[.slice wa W.length aB,.slice ta L.length tc,.slice sa SS.length sc,.pointer ph,.pointer pk,.slice pa ps.length pc,iV r] w fun e w'=>∃ao cap l,e=.returned (.slice ao G.length cap) /\ Gh 39 5 ao G.length cap (Nm G) l /\ Turn [] w l w':=by
 obtain⟨F,hF⟩:∃F,Jy (Ld SS) L W cs en=F:=⟨_,rfl⟩;have aW:=MT hI hC hE (Ld SS);rw[hF]at aW
 have b9:∀x∈F,x.2.2≠8 -> x.2.1=0:=fun x J h8=>by
  rw[←hF]at J;unfold Jy at J;rcases s_.1 J with J|J
  ·exact(UK J).1
  · obtain⟨y,-,rfl⟩:=U_.1 J
    exact absurd rfl h8
 have aM:cs.length <= 65536:=by have:=hC.len;have:=hE.le;omega
 have aS:Hid (∀c∈cs,c.1 <= 65536):=uh (fun c hc=>by have:=(hC.mem c hc).2.1;have:=hE.le;omega);have HC:=uh (Wq w wa aB hW hf hu L aY hL ta tc aX cs en hC hE);have HK:=uh (fun w' (hk:Below w.heap.size w w')=>ES w' wa aB L ta tc SS sa sc F aW b9 (EQ w' wa aB (hW.below hk) hf hu L aY hL ta tc (aX.below hk) SS sa sc (hS.below hk) c6 cs en hC hE F hF.symm));have aj:=uh (WE (f:=Ld SS) (L:=L) (W:=W) (cs:=cs) (en:=en));have ab:=uh bt;unfold Ke at ab;rw[hF]at aj ab;obtain⟨E,aV⟩:∃E,F.map S1=E:=⟨_,rfl⟩;have bs:E.length=F.length:=by rw[←aV,n_]
 rw[aV]at HK aj ab;rw[←bs]at HK aW;obtain⟨pp,aq⟩:∃pp:List (Nat×Nat),ps.map (fun v=>(v,v))=pp:=⟨_,rfl⟩;have b1:pp.length=ps.length:=by rw[←aq,n_]
 rw[aq]at ab;have aH:=bu;have aJ:=bv;have aK:=bx;have aL:=bz;unfold Jz at aH aJ aK aL;rw[n_]at aH aJ aK aL;have bd:=uh aH;have be:=uh aJ;have bf:=uh aK;have bg:=uh aL;have bG:Hid (∀x∈pp,x.1=x.2):=uh (fun x J=>by rw[←aq]at J;obtain⟨v,-,rfl⟩:=U_.1 J;rfl)
 have bQ:=uh (fun(i:Nat) (x:Nat×Nat) (J:pp[i]?= some x)=>(by
  rw[←aq,G_]at J
  cases h:ps[i]? with
  | none=>rw[h]at J;cases J
  | some v=>rw[h]at J;cases J;rfl:ps[i]?= some x.2))
 have bR:=uh (fun w' (hk:Below w.heap.size w w')=>hP.below hk);have ct:W.length/2 <= 32768:=O;have c8:((W.length:Int)).tdiv 2=((W.length/2:Nat):Int):=GC _ 2;have c7:(W.length:Int)/2=((W.length/2:Nat):Int):=O;generalize W.length/2=z at*;have aE:=uh (And.intro aq b1);clear bs aV hF hC hE hI hW hu aY aX hS bu bv bx bz aH aJ aK aL hP bt b9 aq b1
 go_enter func18,ntmps18
 go_wp2_with fail
 refine HC.out.mono ?_;rintro e w1 ⟨la,aN,lc,rfl,bF,T1⟩;have aG:=uh bF;have bn:=uh T1;have bc:=uh (HK.out w1 T1.below);clear bF T1 HC HK
 go_wp2_with fail
 refine bc.out.mono ?_;rintro e w2 ⟨ao,cap,b3,rfl,b2,T2⟩;have bp:=uh (bn.out.grow T2);have au:=uh b2;clear b2 T2 bn bc
 go_wp2_with fail
 go_loopw [18] (fun b4 wr=>∃(i:Nat),i <= E.length /\ b4=iV i /\ (∀b∈E.take i,b.1≠1) /\ Turn [] w (b3++lc) wr) (fun b4 _=>E.length-(intOf b4).toNat)
 case atStart=>exact⟨0,u_ _,by go_num,(fun b hb=>by simp at hb),bp.out⟩
 case round=>
  clear bp;obtain⟨i,hi,rfl,a4,V⟩:=hrel;have HV:=uh V
  by_cases an:i<E.length
  · have aC:(i:Int)<(E.length:Int):=O
    obtain⟨x,J⟩:∃x,E[i]?= some x:=⟨E[i],a_ an⟩;have af:=au.out.src V.has;obtain⟨b,off,rfl,-⟩:=af.form (by rw[Rc];omega);have az:wr.rangeAt b (off+i*5) (Mh x):=Src.fm (f:=Mh) (fun _=>rfl) af J;have q0:=az 0 _ rfl;rw[Zs]at q0;have bP:=uh a4;have bT:=uh (KT (f:=fun b:Br=>b) J);have aP:=uh (q_ J);clear V af az J a4
    by_cases h1:x.1=1
    · have k1:(((x.1:Nat):Int) == 1)=true:=by rw[Qx];omega
      have av:¬Lk (Ld SS) (ats cs) en z=[]:=aj.out.1 (U_.2 ⟨PU x,List.mem_map_of_mem aP.out,h1⟩);rw[y_ av]at ab;clear h1 av
      go_wp2
      go_ret;exact⟨_,cap,b3,by rw[ab.out];rfl,by rw[ab.out];exact au.out,HV.out.sub (x_ ..)⟩
    · have k1:(((x.1:Nat):Int) == 1)=false:=by rw[j_];omega
      go_wp2
      go_roundw
      case rel=>exact⟨i+1,by omega,by go_num,(fun b hb=>by
       have h2:=bT.out;simp only[List.map_id']at h2;rw[h2]at hb;rcases s_.1 hb with hb|hb
       ·exact bP.out b hb
       · rw[Qa]at hb
         rw[hb];exact h1),HV.out⟩
      case measure=>simp[intOf];omega
  · obtain rfl:i=E.length:=O
    have b0:¬((E.length:Nat):Int)<(E.length:Int):=O
    have av:Lk (Ld SS) (ats cs) en z=[]:=Classical.byContradiction fun h=>by
     obtain⟨y,hy,h1⟩:=U_.1 (aj.out.2 h);obtain⟨x,J,rfl⟩:=U_.1 hy;exact a4 x (by rw[D_];exact J) h1
    rw[v_ av]at ab;clear av a4 V aj;have ba:=uh (PM wr cs la aN (aG.out.src (R:=b3) (HV.out.has.perm po)) aM);have cj:=M0 cs cs.length;generalize GV cs cs.length=Gp at*
    go_wp2_with fail
    refine ba.out.mono ?_;rintro e w4 ⟨ag,pg,lg,rfl,az,T4⟩;have aF:=uh (HV.out.grow T4);have bm:=uh (az.src aF.out.has);have aT:E.length+Gp.length <= maxLen:=by unfold maxLen;omega
    have aZ:(E.length+Gp.length)*40 <= 140737488355328:=O;clear T4 az HV ba
    go_wp2_with (first
     | (at_builtin;refine Qv rfl _ _ rfl GB rfl rfl au.out (R:=lg++lc) (aF.out.perm po).has bm.out (NG _) aT aZ ?_;intro a9 p9 l9 w5 a2 V9;have a5:=uh ((aF.out.perm po).trans V9);have a6:=uh a2;clear V9 a2)
     | fail)
    have b8:=uh (Gy E Gp);have aU:(E++Gp).length=E.length+Gp.length:=e_ ..;rw[←b8.out,←aU]at a6;have a1:Hid (G=(E++Gp)++(GK 3 cs hh++(GK 4 cs pp++(J5 cs hw++Kj r z)))):=uh (by rw[ab.out,Qq]);rw[←aU];generalize E++Gp=P1 at*;have cd:P1.length <= 2200000000+cs.length:=O;clear ab b8 aF bm aT aZ aU au;refine(bd.out _ a5.out.below).mono ?_;rintro e w6 ⟨c1,cb,Z,rfl,bD,T6⟩;have aQ:=uh (a5.out.grow T6);have bW:=uh bD;clear T6 bD a5 bd
    go_wp2_with fail
    refine(be.out _ aQ.out.below).mono ?_;rintro e w7 ⟨bY,c9,U,rfl,bA,T7⟩;have bq:=uh ((aQ.out.grow T7).perm (l2:=l9++(U++(Z++(lg++lc)))) po);have bU:=uh bA;clear T7 bA aQ be
    have bH:=uh (fun(W':World) (M:List Blk) (V:Turn [] w (M++(U++(Z++(lg++lc)))) W') (h0:0<hh.length)=>(by
     obtain⟨b,o,he,hc⟩:=Nt bW.out (V.has.perm (l':=Z++(M++(U++(lg++lc)))) po) (by rw[n_];exact h0);exact⟨b,o,he,fun i x J=>hc i _ (Vn J)⟩:∃b o,c1=some (aD b o) /\ ∀(i:Nat) (x:Nat×Nat),hh[i]?= some x -> W'.cell? (aD b (o+i))=some (uV (x.1:Nat))))
    have bK:=uh (fun(W':World) (M:List Blk) (V:Turn [] w (M++(U++(Z++(lg++lc)))) W') (h0:0<hh.length)=>(by
     obtain⟨b,o,he,hc⟩:=Nt bU.out (V.has.perm (l':=U++(M++(Z++(lg++lc)))) po) (by rw[n_];exact h0);exact⟨b,o,he,fun i x J=>hc i _ (Vn J)⟩:∃b o,bY=some (aD b o) /\ ∀(i:Nat) (x:Nat×Nat),hh[i]?= some x -> W'.cell? (aD b (o+i))=some (uV (x.2:Nat))))
    go_wp2_with fail
    go_loopw [17,21] (fun aA b5 wr=>∃(i:Nat) (a7:Option Addr) (p7:Nat) (M:List Blk),i <= hh.length /\ b5=iV i /\ aA=.slice a7 (P1++GK 3 cs (hh.take i)).length p7 /\ Gh 39 5 a7 (P1++GK 3 cs (hh.take i)).length p7 (Nm (P1++GK 3 cs (hh.take i))) M /\ Turn [] w (M++(U++(Z++(lg++lc)))) wr) (fun _ b5 _=>hh.length-(intOf b5).toNat)
    case atStart=>exact⟨0,a9,p9,l9,u_ _,by go_num,by rw[show GK 3 cs (hh.take 0)=[]from rfl,p_],by rw[show GK 3 cs (hh.take 0)=[]from rfl,p_];exact a6.out,bq.out⟩
    case round=>
     clear bq a6;obtain⟨i,a7,p7,M,hi,rfl,rfl,aa,V⟩:=hrel;have a0:=uh aa;have HV:=uh V
     by_cases an:i<hh.length
     · have aC:(i:Int)<(hh.length:Int):=O
       obtain⟨x,J⟩:∃x,hh[i]?= some x:=⟨hh[i],a_ an⟩;have af:=aG.out.src (V.has.perm (l':=lc++(M++(U++(Z++lg)))) po);have Hb:=uh (fun w' (hk:Below wr.heap.size wr w')=>jS w' cs la aN (af.below hk) aM aS.out x.2);obtain⟨qb,qo,qe,ah⟩:=bK.out wr M V O;have q2:=ah i x J;have HN:=uh (by rw[NA (k:=3) (cs:=cs) J,←Qq]:P1++GK 3 cs (hh.take (i+1))=(P1++GK 3 cs (hh.take i))++if JJ cs x.2=true then []else [(3,0,0,x.1,0)]);have bC:=NB 3 cs hh i;have ak:(P1++GK 3 cs (hh.take i)).length+1 <= maxLen:=(by rw[e_];unfold maxLen;omega);have am:((P1++GK 3 cs (hh.take i)).length+1)*40 <= 140737488355328:=(by rw[e_];omega);obtain⟨nb,no,ne,ay⟩:=bH.out wr M V O;have n2:=ay i x J;subst ne;subst qe;clear V aa ah J ay;generalize(P1++GK 3 cs (hh.take i))=Q at*
       cases hv:JJ cs x.2 with
       | true=>
        rw[hv]at Hb;rw[hv,v_ rfl,p_]at HN
        go_wp2_with fail
        refine(Hb.out _ (T_ _ _)).mono ?_;rintro e w5 ⟨rfl,N⟩;have a3:=uh (HV.out.call N);have n5:=(N.cell (p:=(aD nb (no+i))) (c_ wr _ n2)).trans n2;have q5:=(N.cell (p:=(aD qb (qo+i))) (c_ wr _ q2)).trans q2;clear N HV Hb
        go_wp2
        go_roundw
        case rel=>exact⟨i+1,a7,p7,M,by omega,by go_num,by rw[HN.out],by rw[HN.out];exact a0.out,a3.out⟩
        case measure=>simp[intOf];omega
       | false=>
        rw[hv]at Hb;rw[hv,y_ (by decide)]at HN
        go_wp2_with fail
        refine(Hb.out _ (T_ _ _)).mono ?_;rintro e w5 ⟨rfl,N⟩;have a3:=uh (HV.out.call N);have n5:=(N.cell (p:=(aD nb (no+i))) (c_ wr _ n2)).trans n2;have q5:=(N.cell (p:=(aD qb (qo+i))) (c_ wr _ q2)).trans q2;clear N HV Hb
        go_wp2_with (first
         | (at_builtin;have T6:=uh (a3.out.alloc (.cells #[yV 3,iV 0,iV 0,uV x.1,iV 0] 39));refine K_ rfl _ _ rfl GB rfl a0.out (R:=(w5.heap.size,.cells #[yV 3,iV 0,iV 0,uV x.1,iV 0] 39)::((U++(Z++(lg++lc))))) (T6.out.perm po).has rfl (news:=[yV 3,iV 0,iV 0,uV x.1,iV 0]) rfl (Qy (A_ _ _)) (by simp[Value.oneCell']) ak am ?_;intro a9 p9 l9 w8 a2 V9 a4;have a5:=uh (((T6.out.perm po).trans V9).perm (l2:=(w5.heap.size,.cells #[yV 3,iV 0,iV 0,uV x.1,iV 0] 39)::(l9++((U++(Z++(lg++lc)))))) po);have a6:=uh a2;clear V9 a2 a4)
         | fail)
        go_roundw
        case rel=>
         have a8:(P1++GK 3 cs (hh.take (i+1))).length=Q.length+1:=(by rw[HN.out];simp);exact⟨i+1,a9,p9,l9,by omega,by go_num,by rw[a8],by rw[a8,HN.out,Gy];exact a6.out,a5.out.tail⟩
        case measure=>simp[intOf];omega
     · obtain rfl:i=hh.length:=O
       have b0:¬((hh.length:Nat):Int)<(hh.length:Int):=O;rw[D_]at a0 ⊢;clear V aa;have ck:=MF 3 cs hh;have bh:=uh (Qq P1 (GK 3 cs hh) (GK 4 cs pp++(J5 cs hw++Kj r z)));have cf:(P1++GK 3 cs hh).length <= 2200000000+cs.length+65536:=(by rw[e_];omega);rw[←bh.out]at a1;generalize P1++GK 3 cs hh=P2 at*;clear bh
       have bL:=uh (fun(W':World) (M:List Blk) (V:Turn [] w (M++(U++(Z++(lg++lc)))) W') (h0:0<pp.length)=>(by
        obtain⟨b,o,he,hc⟩:=(bR.out W' V.below).form (by rw[G8];have:=aE.out.2;omega);exact⟨b,o,he,fun i x J=>hc i _ (JL (bQ.out i x J))⟩:∃b o,pa=some (aD b o) /\ ∀(i:Nat) (x:Nat×Nat),pp[i]?= some x -> W'.cell? (aD b (o+i))=some (uV (x.2:Nat))))
       go_wp2_with fail
       go_loopw [17,22] (fun aA b6 wr=>∃(i:Nat) (a7:Option Addr) (p7:Nat) (M:List Blk),i <= pp.length /\ b6=iV i /\ aA=.slice a7 (P2++GK 4 cs (pp.take i)).length p7 /\ Gh 39 5 a7 (P2++GK 4 cs (pp.take i)).length p7 (Nm (P2++GK 4 cs (pp.take i))) M /\ Turn [] w (M++(U++(Z++(lg++lc)))) wr) (fun _ b6 _=>pp.length-(intOf b6).toNat)
       case atStart=>exact⟨0,a7,p7,M,u_ _,by go_num,by rw[show GK 4 cs (pp.take 0)=[]from rfl,p_],by rw[show GK 4 cs (pp.take 0)=[]from rfl,p_];exact a0.out,HV.out⟩
       case round=>
        clear HV a0;obtain⟨i,a7,p7,M,hi,rfl,rfl,aa,V⟩:=hrel;have a0:=uh aa;have HV:=uh V
        by_cases an:i<pp.length
        · have aC:(i:Int)<(ps.length:Int):=by have:=aE.out.2;omega
          obtain⟨x,J⟩:∃x,pp[i]?= some x:=⟨pp[i],a_ an⟩;have af:=aG.out.src (V.has.perm (l':=lc++(M++(U++(Z++lg)))) po);have Hb:=uh (fun w' (hk:Below wr.heap.size wr w')=>jS w' cs la aN (af.below hk) aM aS.out x.2);obtain⟨qb,qo,qe,ah⟩:=bL.out wr M V O;have q2:=ah i x J;have aP:=uh (q_ J);have HN:=uh (by rw[NA (k:=4) (cs:=cs) J,←Qq]:P2++GK 4 cs (pp.take (i+1))=(P2++GK 4 cs (pp.take i))++if JJ cs x.2=true then []else [(4,0,0,x.1,0)]);have bC:=NB 4 cs pp i;have ak:(P2++GK 4 cs (pp.take i)).length+1 <= maxLen:=(by rw[e_];unfold maxLen;omega);have am:((P2++GK 4 cs (pp.take i)).length+1)*40 <= 140737488355328:=(by rw[e_];omega);subst qe;clear V aa ah J;generalize(P2++GK 4 cs (pp.take i))=Q at*
          cases hv:JJ cs x.2 with
          | true=>
           rw[hv]at Hb;rw[hv,v_ rfl,p_]at HN
           go_wp2_with fail
           refine(Hb.out _ (T_ _ _)).mono ?_;rintro e w5 ⟨rfl,N⟩;have a3:=uh (HV.out.call N);have q5:=(N.cell (p:=(aD qb (qo+i))) (c_ wr _ q2)).trans q2;clear N HV Hb
           go_wp2
           go_roundw
           case rel=>exact⟨i+1,a7,p7,M,by omega,by go_num,by rw[HN.out],by rw[HN.out];exact a0.out,a3.out⟩
           case measure=>simp[intOf];omega
          | false=>
           rw[hv]at Hb;rw[hv,y_ (by decide)]at HN;rw[show x.1=x.2 from bG.out x aP.out]at HN
           go_wp2_with fail
           refine(Hb.out _ (T_ _ _)).mono ?_;rintro e w5 ⟨rfl,N⟩;have a3:=uh (HV.out.call N);have q5:=(N.cell (p:=(aD qb (qo+i))) (c_ wr _ q2)).trans q2;clear N HV Hb
           go_wp2_with (first
            | (at_builtin;have T6:=uh (a3.out.alloc (.cells #[yV 4,iV 0,iV 0,uV x.2,iV 0] 39));refine K_ rfl _ _ rfl GB rfl a0.out (R:=(w5.heap.size,.cells #[yV 4,iV 0,iV 0,uV x.2,iV 0] 39)::((U++(Z++(lg++lc))))) (T6.out.perm po).has rfl (news:=[yV 4,iV 0,iV 0,uV x.2,iV 0]) rfl (Qy (A_ _ _)) (by simp[Value.oneCell']) ak am ?_;intro a9 p9 l9 w8 a2 V9 a4;have a5:=uh (((T6.out.perm po).trans V9).perm (l2:=(w5.heap.size,.cells #[yV 4,iV 0,iV 0,uV x.2,iV 0] 39)::(l9++((U++(Z++(lg++lc)))))) po);have a6:=uh a2;clear V9 a2 a4)
            | fail)
           go_roundw
           case rel=>
            have a8:(P2++GK 4 cs (pp.take (i+1))).length=Q.length+1:=(by rw[HN.out];simp);exact⟨i+1,a9,p9,l9,by omega,by go_num,by rw[a8],by rw[a8,HN.out,Gy];exact a6.out,a5.out.tail⟩
           case measure=>simp[intOf];omega
        · obtain rfl:i=pp.length:=O
          have b0:¬((pp.length:Nat):Int)<(ps.length:Int):=(by have:=aE.out.2;omega);rw[D_]at a0 ⊢;clear V aa;have cm:=MF 4 cs pp;have bj:=uh (Qq P2 (GK 4 cs pp) (J5 cs hw++Kj r z));have cg:(P2++GK 4 cs pp).length <= 2200000000+cs.length+65536+65536:=(by rw[e_];have:=aE.out.2;omega);rw[←bj.out]at a1;generalize P2++GK 4 cs pp=P3 at*;clear bj
          go_wp2_with fail
          refine(bf.out _ HV.out.below).mono ?_;rintro e w8 ⟨c2,cc,ae,rfl,bE,T8⟩;have aR:=uh (HV.out.grow T8);have bX:=uh bE;clear T8 bE bf HV
          go_wp2_with fail
          refine(bg.out _ aR.out.below).mono ?_;rintro e w9 ⟨bZ,ca,ac,rfl,bB,T9⟩;have br:=uh ((aR.out.grow T9).perm (l2:=M++(ac++(ae++(U++(Z++(lg++lc)))))) po);have bV:=uh bB;clear T9 bB aR bg
          have bJ:=uh (fun(W':World) (M:List Blk) (V:Turn [] w (M++(ac++(ae++(U++(Z++(lg++lc)))))) W') (h0:0<hw.length)=>(by
           obtain⟨b,o,he,hc⟩:=Nt bX.out (V.has.perm (l':=ae++(M++(ac++(U++(Z++(lg++lc)))))) po) (by rw[n_];exact h0);exact⟨b,o,he,fun i x J=>hc i _ (Vn J)⟩:∃b o,c2=some (aD b o) /\ ∀(i:Nat) (x:Nat×Nat),hw[i]?= some x -> W'.cell? (aD b (o+i))=some (uV (x.1:Nat))))
          have bM:=uh (fun(W':World) (M:List Blk) (V:Turn [] w (M++(ac++(ae++(U++(Z++(lg++lc)))))) W') (h0:0<hw.length)=>(by
           obtain⟨b,o,he,hc⟩:=Nt bV.out (V.has.perm (l':=ac++(M++(ae++(U++(Z++(lg++lc)))))) po) (by rw[n_];exact h0);exact⟨b,o,he,fun i x J=>hc i _ (Vn J)⟩:∃b o,bZ=some (aD b o) /\ ∀(i:Nat) (x:Nat×Nat),hw[i]?= some x -> W'.cell? (aD b (o+i))=some (uV (x.2:Nat))))
          go_wp2_with fail
          go_loopw [17,25] (fun aA b7 wr=>∃(i:Nat) (a7:Option Addr) (p7:Nat) (M:List Blk),i <= hw.length /\ b7=iV i /\ aA=.slice a7 (P3++J5 cs (hw.take i)).length p7 /\ Gh 39 5 a7 (P3++J5 cs (hw.take i)).length p7 (Nm (P3++J5 cs (hw.take i))) M /\ Turn [] w (M++(ac++(ae++(U++(Z++(lg++lc)))))) wr) (fun _ b7 _=>hw.length-(intOf b7).toNat)
          case atStart=>exact⟨0,a7,p7,M,u_ _,by go_num,by rw[show J5 cs (hw.take 0)=[]from rfl,p_],by rw[show J5 cs (hw.take 0)=[]from rfl,p_];exact a0.out,br.out⟩
          case round=>
           clear br a0;obtain⟨i,a7,p7,M,hi,rfl,rfl,aa,V⟩:=hrel;have a0:=uh aa;have HV:=uh V
           by_cases an:i<hw.length
           · have aC:(i:Int)<(hw.length:Int):=O
             obtain⟨x,J⟩:∃x,hw[i]?= some x:=⟨hw[i],a_ an⟩;have af:=aG.out.src (V.has.perm (l':=lc++(M++(ac++(ae++(U++(Z++lg)))))) po);have Hb:=uh (fun w' (hk:Below wr.heap.size wr w')=>jS w' cs la aN (af.below hk) aM aS.out x.2);obtain⟨qb,qo,qe,ah⟩:=bM.out wr M V O;have q2:=ah i x J;have HN:=uh (by rw[Tp (cs:=cs) J,←Qq]:P3++J5 cs (hw.take (i+1))=(P3++J5 cs (hw.take i))++if x.2=0∨JJ cs x.2=true then []else [(5,0,0,x.1,0)]);have bC:=Tq cs hw i;have ak:(P3++J5 cs (hw.take i)).length+1 <= maxLen:=(by rw[e_];unfold maxLen;omega);have am:((P3++J5 cs (hw.take i)).length+1)*40 <= 140737488355328:=(by rw[e_];omega);obtain⟨nb,no,ne,ay⟩:=bJ.out wr M V O;have n2:=ay i x J;subst ne;subst qe;clear V aa ah J ay;generalize(P3++J5 cs (hw.take i))=Q at*
             by_cases h0:x.2=0
             · have k0:((x.2:Int) != 0)=false:=by rw[h0];rfl
               rw[v_ (.inl h0),p_]at HN;have a3:=uh HV.out;clear h0
               go_wp2
               go_roundw
               case rel=>exact⟨i+1,a7,p7,M,by omega,by go_num,by rw[HN.out],by rw[HN.out];exact a0.out,a3.out⟩
               case measure=>simp[intOf];omega
             · have k0:((x.2:Int) != 0)=true:=by rw[Qe];omega
               cases hv:JJ cs x.2 with
               | true=>
                rw[hv]at Hb;rw[hv,v_ (.inr rfl),p_]at HN;clear h0
                go_wp2_with fail
                refine(Hb.out _ (T_ _ _)).mono ?_;rintro e w5 ⟨rfl,N⟩;have a3:=uh (HV.out.call N);have n5:=(N.cell (p:=(aD nb (no+i))) (c_ wr _ n2)).trans n2;have q5:=(N.cell (p:=(aD qb (qo+i))) (c_ wr _ q2)).trans q2;clear N HV Hb
                go_wp2
                go_roundw
                case rel=>exact⟨i+1,a7,p7,M,by omega,by go_num,by rw[HN.out],by rw[HN.out];exact a0.out,a3.out⟩
                case measure=>simp[intOf];omega
               | false=>
                rw[hv]at Hb;rw[hv,y_ (fun h=>h.elim h0 (by decide))]at HN;clear h0
                go_wp2_with fail
                refine(Hb.out _ (T_ _ _)).mono ?_;rintro e w5 ⟨rfl,N⟩;have a3:=uh (HV.out.call N);have n5:=(N.cell (p:=(aD nb (no+i))) (c_ wr _ n2)).trans n2;have q5:=(N.cell (p:=(aD qb (qo+i))) (c_ wr _ q2)).trans q2;clear N HV Hb
                go_wp2_with (first
                 | (at_builtin;have T6:=uh (a3.out.alloc (.cells #[yV 5,iV 0,iV 0,uV x.1,iV 0] 39));refine K_ rfl _ _ rfl GB rfl a0.out (R:=(w5.heap.size,.cells #[yV 5,iV 0,iV 0,uV x.1,iV 0] 39)::((ac++(ae++(U++(Z++(lg++lc))))))) (T6.out.perm po).has rfl (news:=[yV 5,iV 0,iV 0,uV x.1,iV 0]) rfl (Qy (A_ _ _)) (by simp[Value.oneCell']) ak am ?_;intro a9 p9 l9 w8 a2 V9 a4;have a5:=uh (((T6.out.perm po).trans V9).perm (l2:=(w5.heap.size,.cells #[yV 5,iV 0,iV 0,uV x.1,iV 0] 39)::(l9++((ac++(ae++(U++(Z++(lg++lc)))))))) po);have a6:=uh a2;clear V9 a2 a4)
                 | fail)
                go_roundw
                case rel=>
                 have a8:(P3++J5 cs (hw.take (i+1))).length=Q.length+1:=(by rw[HN.out];simp);exact⟨i+1,a9,p9,l9,by omega,by go_num,by rw[a8],by rw[a8,HN.out,Gy];exact a6.out,a5.out.tail⟩
                case measure=>simp[intOf];omega
           · obtain rfl:i=hw.length:=O
             have b0:¬((hw.length:Nat):Int)<(hw.length:Int):=O;rw[D_]at a0 ⊢;clear V aa;have cn:=RW cs hw;have bk:=uh (Qq P3 (J5 cs hw) (Kj r z));have ch:(P3++J5 cs hw).length <= 2200000000+cs.length+65536+65536+65536:=(by rw[e_];omega);rw[←bk.out]at a1;generalize P3++J5 cs hw=P4 at*;clear bk;have ak:P4.length+1 <= maxLen:=(by unfold maxLen;omega);have am:(P4.length+1)*40 <= 140737488355328:=O
             by_cases ax:0 <= r
             · have k1:(0:Int) <= r:=ax
               by_cases ap:r=(z:Int)
               · have k2:(r != (z:Int))=false:=by rw[Xm];exact ap
                 have HB:Hid (Kj r z=[]):=uh (y_ (fun h=>h.2 ap));rw[HB.out,p_]at a1;clear ap
                 go_wp2
                 go_ret;exact⟨a7,p7,by rw[a1.out];rfl,M,by rw[a1.out];exact a0.out,HV.out.sub (x_ ..)⟩
               · have k2:(r != (z:Int))=true:=by rw[Qe];exact ap
                 have HB:Hid (Kj r z=[(6,r.toNat,0,0,0)]):=uh (v_ ⟨ax,ap⟩);have bN:Hid (r=(r.toNat:Int)):=uh (Yx ax).symm;rw[HB.out]at a1;clear ap
                 go_wp2_with (first
                  | (at_builtin;have T6:=uh (HV.out.alloc (.cells #[yV 6,iV r,iV 0,uV 0,iV 0] 39));refine K_ rfl _ _ rfl GB rfl a0.out (R:=(wr.heap.size,.cells #[yV 6,iV r,iV 0,uV 0,iV 0] 39)::(ac++(ae++(U++(Z++(lg++lc)))))) (T6.out.perm po).has rfl (news:=[yV 6,iV r,iV 0,uV 0,iV 0]) rfl (Qy (A_ _ _)) (by simp[Value.oneCell']) ak am ?_;intro a9 p9 l9 w8 a2 V9 a4;have a5:=uh ((T6.out.perm po).trans V9);have a6:=uh a2;clear V9 a2 a4)
                  | fail)
                 go_ret;have a8:(P4++[(6,r.toNat,0,0,0)]).length=P4.length+1:=(by simp);exact⟨a9,p9,by rw[a1.out,a8];rfl,l9,by rw[a1.out,a8,Gy];have h:=a6.out;rw[show iV r=iV ((r.toNat:Nat):Int)from by rw[←bN.out]]at h;exact h,a5.out.sub (x_ ..)⟩
             · have k1:¬(0:Int) <= r:=ax
               have HB:Hid (Kj r z=[]):=uh (y_ (fun h=>ax h.1));rw[HB.out,p_]at a1
               go_wp2
               go_ret;exact⟨a7,p7,by rw[a1.out];rfl,M,by rw[a1.out];exact a0.out,HV.out.sub (x_ ..)⟩
theorem gM {w1 u:World}{sb tb rb hd wb pb mb U kb g gc z Z dc lcap:Nat}{lao V da:Option Addr}{L:List Ty}{W W' B Wr rs ks y:List Nat}{S:List Slot}{m:List (Int×Value)}{cs N:List Ce}{E:Nat}{x:Blk}{a2 a1 lb lL J M lp:List Blk}{r:Int}{G:List Br}
  (hb:PlBase w1 tb L lao lcap)(hG:Pl L W B cs)(a0:W'.length=W.length)(hz:W.length/2=z)(hI:WdIn L W' B)(hC:Chain L W' 0 N E)(hE:Ky L W' E)
  (ag:Gh 36 1 (some (aD g 0)) W.length gc (u64s W') a2)(a5:Gh 4 1 V z Z (KD (VK cs z cs.length)) a1)(a6:VJ U (Mc rs) J)(a7:Uj kb (Mb ks) M)(af:Gh 36 1 da y.length dc (Gf y) lp)
  (an:rs.length <= 60)(ae:∀v∈rs,v≠0)(am:ks.length <= 60)(aa:∀v∈ks,v≠0)(ap:y.length <= 4096)(ab: -1 <= r)(ac:r <= 65536)
  (h:JA w1 u sb tb rb hd wb pb mb lao lcap L W' B Wr rs S m (a2++(a1++(lb++(x::(lL++(J++(M++lp))))))))(a9:G=Ke (Gv B) L W' N E (zl rs) (y.map fun v=>(v,v)) (zl ks) r):
  Calls prog 18 #[.slice (some (aD g 0)) W.length gc,.slice lao L.length lcap,.slice V z Z,pt U,pt kb,.slice da y.length dc,iV r] u fun e w'=>∃ao cap l,e=.returned (.slice ao G.length cap) /\ Gh 39 5 ao G.length cap (Nm G) l /\ Turn [] u l w':=by
 have hH:=h.has;have hf:=hI.few;have hT:Has u (J++(M++lp)):=((hH.right.right.right).sub (Qm _ _)).right;have a3:=BE u U rs O ae J a6 hT.left;have a4:=BD u kb ks O aa M a7 hT.right.left;have ah:Src u da y.length dc 1 (Gf y):=af.src (R:=J++M) (hT.perm po);have ak:Src u (some (aD g 0)) W'.length gc 1 (u64s W'):=by rw[a0];exact ag.src hH
 have aj:Src u V (VK cs z cs.length).length Z 1 (KD (VK cs z cs.length)):=by rw[SA];exact a5.src hH.right
 have a8:G=Ke (Ld (VK cs z cs.length)) L W' N E (zl rs) (y.map fun v=>(v,v)) (zl ks) r:=a9.trans (Ub (fun i hi=>by
  rw[a0]at hi;rw[BP hG.bits i hi,hz]) hE.le _ _ _ _)
 have hd:=jD u (W:=W') (some (aD g 0)) gc ak hf hI.u64 L hI.ty hI.lt lao lcap (hb.src.below h.below) (VK cs z cs.length) V Z aj (by rw[SA];omega) N E hC hE hI (some (aD U 0)) (some (aD kb 0)) (zl rs) (zl ks) (by rw[RE];omega) (by rw[RE];omega) a3.1 a3.2 a4.1 a4.2 y da dc ah O r ab ac G a8;rw[a0,SA]at hd;exact hd
def DK (b:Nat)(L:List Nat)(l:List Blk):Prop:=L.length <= 4096 /\ ∃(ao:Option Addr) (cap:Nat) (lr:List Blk),l=(b,.cells #[.slice ao L.length cap] 114)::lr /\ Gh 36 1 ao L.length cap (Gf L) lr
theorem DK.hd {b:Nat}{L:List Nat}{l R:List Blk}{w:World}(E:DK b L l)(y:Has w (l++R)):∃ao cap,w.cell? (aD b 0)=some (.slice ao L.length cap) /\ Src w ao L.length cap 1 (Gf L):=by
 obtain⟨G,ao,cap,J,rfl,r⟩:=E;exact⟨ao,cap,y.cell (b:=b) (c:=#[.slice ao L.length cap]) (e:=114) (f:=(0,0)) (by simp) 0,r.src (R:=(b,.cells #[.slice ao L.length cap] 114)::R) (y.perm po)⟩
theorem DK.at2 {b:Nat}{L:List Nat}{l:List Blk}(G:DK b L l)(E:0<L.length):∃(g o cap:Nat),∀(w:World) (R:List Blk),Has w (l++R) -> w.cell? (aD b 0)=some (.slice (some (aD g o)) L.length cap) /\ ∀i v,L[i]?= some v -> w.cell? (aD g (o+i))=some (uV (v:Nat)):=by
 obtain⟨U,ao,cap,lr,rfl,r⟩:=G;obtain⟨g,V,rfl,-,-,-⟩:=r.some_of E;refine⟨g,0,cap,fun w R y=>⟨y.cell (b:=b) (c:=#[.slice (some (aD g 0)) L.length cap]) (e:=114) (f:=(0,0)) (by simp) 0,fun i v N=>?_⟩⟩;obtain⟨Z,o',M,J⟩:=(r.src (R:=(b,.cells #[.slice (some (aD g 0)) L.length cap] 114)::R) (y.perm po)).form (by rw[G8];omega)
 cases M
 exact J i _ (JL N)
theorem Cn (w:World)(b:Nat)(L:List Nat)(l R:List Blk)(M:DK b L l)(hH:Has w (l++R))(a:Nat):
  Calls prog 109 #[pt b,uV a] w fun e w'=>e=.returned (iV ((L.count a:Nat))) /\ w'=w:=by
 have Z:=uh M;have J:=uh hH;have a0:=uh M.1;clear M hH
 go_enter func109,ntmps109
 go_wp2_with fail
 go_loopw [5,6] (fun v5 V wr=>∃(k n:Nat),k <= L.length /\ n <= k /\ n=(L.take k).count a /\ V=iV k /\ v5=iV n /\ w=wr) (fun _ V _=>L.length-(intOf V).toNat)
 case atStart=>exact⟨0,0,u_ _,g_ _,rfl,by go_num,by go_num,rfl⟩
 case round=>
  obtain⟨k,n,hk,a4,y,rfl,rfl,rfl⟩:=hrel;have a3:=a0.out
  by_cases a1:k<L.length
  · have a2:(k:Int)<(L.length:Int):=O
    obtain⟨g,o,cap,N⟩:=Z.out.at2 O;obtain⟨x,U⟩:∃x,L[k]?= some x:=⟨L[k],a_ a1⟩;have q0:=(N w R J.out).1;have q1:=(N w R J.out).2 k x U
    have E:(L.take (k+1)).count a=n+if x=a then 1 else 0:=by
     rw[Qr,U,List.count_append,y]
     by_cases h:x=a<;>simp[h]
    have r:=uh E;clear E y U N
    by_cases G:x=a
    · have e1:((x:Int) == (a:Int))=true:=by rw[Qx];omega
      go_wp2
      go_roundw
      case rel=>exact⟨k+1,n+1,by omega,by omega,by rw[r.out,v_ G],by go_num,by go_num,by trivial⟩
      case measure=>simp[intOf];omega
    · have e1:((x:Int) == (a:Int))=false:=by rw[j_];omega
      go_wp2
      go_roundw
      case rel=>exact⟨k+1,n,by omega,by omega,by rw[r.out,y_ G];rfl,by go_num,rfl,by trivial⟩
      case measure=>simp[intOf];omega
  · obtain rfl:k=L.length:=O
    have a5:¬((L.length:Nat):Int)<(L.length:Int):=O;obtain⟨ao,cap,q0,-⟩:=Z.out.hd J.out;have r:=uh (by rw[y,D_]:n=L.count a);clear y
    go_wp2
    go_ret;exact⟨by rw[r.out];rfl,rfl⟩
theorem ZM (w:World)(b:Nat)(L:List Nat)(l R:List Blk)(hI:DK b L l)(hH:Has w (l++R)):
  Calls prog 50 #[pt b] w fun e w'=>∃ao cap r,e=.returned (.slice ao (J0 L L.length).length cap) /\ Gh 36 1 ao (J0 L L.length).length cap (Gf (J0 L L.length)) r /\ Turn (l++R) w (r++(l++R)) w':=by
 have HI:=uh hI;have HT:Hid (Turn (l++R) w ([]++(l++R)) w):=uh (r_ hH);have ae:=uh hI.1;clear hI hH
 go_enter func50,ntmps50
 go_wp2_with fail
 go_loopw [3,4] (fun v3 v4 wr=>∃(k:Nat) (a3:Option Addr) (p3:Nat) (r:List Blk),k <= L.length /\ v4=iV k /\ v3=.slice a3 (J0 L k).length p3 /\ Gh 36 1 a3 (J0 L k).length p3 (Gf (J0 L k)) r /\ Turn (l++R) w (r++(l++R)) wr) (fun _ v4 _=>L.length-(intOf v4).toNat)
 case atStart=>exact⟨0,none,0,[],u_ _,by go_num,rfl,Zb _ _,HT.out⟩
 case round=>
  clear HT;obtain⟨k,a3,p3,r,hk,rfl,rfl,N,V⟩:=hrel;have a0:=uh N;have HV:=uh V;have ak:=ae.out
  by_cases ag:k<L.length
  · have aj:(k:Int)<(L.length:Int):=O
    obtain⟨g,o,cap,hc⟩:=HI.out.at2 O;obtain⟨x,hx⟩:∃x,L[k]?= some x:=⟨L[k],a_ ag⟩;have J:L.getD k 0=x:=(by rw[M_,hx];rfl);have a1:=uh (fun(W':World) (ac:List Blk) (V:Turn (l++R) w (ac++(l++R)) W')=>hc W' (ac++R) (V.has.perm po));obtain⟨q0,hq⟩:=a1.out wr r V;have q1:=hq k x hx;have Rx:=TR L k;have a6:(J0 L k).length+1 <= maxLen:=(by unfold maxLen;omega);have a8:((J0 L k).length+1)*8 <= 140737488355328:=O
    by_cases Z:k≠0 /\ L.getD (k-1) 0=L.getD k 0
    · obtain⟨M,rfl⟩:∃M,k=M+1:=⟨k-1,by omega⟩
      rw[Nat.add_sub_cancel,J]at Z
      have hy:L[M]?= some x:=by
       have h:=Z.2;rw[M_,a_ O]at h;rw[a_ O];exact Qu some h
      have q2:=hq M x hy;have G:=uh (UQ (xs:=L) (k:=M+1) O (by rw[Nat.add_sub_cancel,J];exact Z.2));have e0:(((M+1:Nat):Int) == 0)=false:=(by rw[j_];omega);have e1:((x:Int) != (x:Int))=false:=(by simp);have e2:((M+1:Nat):Int)-1=(M:Int):=O;have af:(M:Int)<(L.length:Int):=O;clear N V hx hy hc hq J Z;generalize J0 L (M+1)=D at*;generalize a7:M+1=K at*;replace a7:=uh a7
      go_wp2_with fail
      go_quiet (fail)
      have E:=uh (HV.out.drewN nq);clear q0 q1 q2 HV;generalize wr.drewN nq=wq at*
      go_wp2
      go_roundw
      case rel=>exact⟨K+1,a3,p3,r,by omega,by go_num,by rw[G.out],by rw[G.out];exact a0.out,E.out⟩
      case measure=>simp[intOf];omega
    · have G:=uh (by rw[J0,y_ Z,J]:J0 L (k+1)=J0 L k++[x])
      have HN:=uh (by unfold Gf;rw[Za];rfl:Gf (J0 L k++[x])=Gf (J0 L k)++[uV (x:Nat)])
      by_cases aa:k=0
      · have e0:((k:Int) == 0)=true:=by rw[Qx];omega
        clear aa;have HX:=uh hx;clear N V hx hc hq J Z Rx;generalize J0 L k=D at*
        go_wp2_with fail
        go_quiet (fail)
        have E:=uh (HV.out.drewN nq);clear q0 q1 HV;generalize wr.drewN nq=wq at*;obtain⟨q0,hq⟩:=a1.out wq r E.out;have q1:=hq k x HX.out;clear hq
        go_wp2_with (first
         | (at_builtin;have T6:=uh (E.out.alloc (.cells #[uV (x:Nat)] 36));refine K_ rfl _ _ rfl GF rfl a0.out (R:=(wq.heap.size,.cells #[uV (x:Nat)] 36)::(l++R)) (T6.out.perm po).has rfl (news:=[uV (x:Nat)]) rfl (Qy (A_ _ _)) (by simp[Value.oneCell']) a6 a8 ?_;intro a9 p9 l9 w8 U V9 a5;have a2:=uh (((T6.out.perm po).trans V9).perm (l2:=(wq.heap.size,.cells #[uV (x:Nat)] 36)::(l9++(l++R))) po);have a4:=uh U;clear V9 U a5)
         | fail)
        go_roundw
        case rel=>exact⟨k+1,a9,p9,l9,by omega,by go_num,by rw[G.out,e_]<;>rfl,by rw[G.out,e_,HN.out];exact a4.out,a2.out.tail⟩
        case measure=>simp[intOf];omega
      · obtain⟨j,hj⟩:∃j,k-1=j:=⟨_,rfl⟩
        obtain⟨y,hy⟩:∃y,L[j]?= some y:=⟨L[j]'O,a_ O⟩;have q2:=hq j y hy;have e0:((k:Int) == 0)=false:=(by rw[j_];omega);have ab:L.getD j 0=y:=(by rw[M_,hy];rfl);have ah:y≠x:=fun h=>Z ⟨aa,by rw[hj,ab,J,h]⟩;have e1:((y:Int) != (x:Int))=true:=(by rw[Qe];omega);have e2:(k:Int)-1=(j:Int):=O;have af:(j:Int)<(L.length:Int):=O;have HX:=uh hx;clear N V hx hy hc hq J ab Z Rx hj ah;generalize J0 L k=D at*
        go_wp2_with fail
        go_quiet (fail)
        have E:=uh (HV.out.drewN nq);clear q0 q1 q2 HV;generalize wr.drewN nq=wq at*;obtain⟨q0,hq⟩:=a1.out wq r E.out;have q1:=hq k x HX.out;clear hq
        go_wp2_with (first
         | (at_builtin;have T6:=uh (E.out.alloc (.cells #[uV (x:Nat)] 36));refine K_ rfl _ _ rfl GF rfl a0.out (R:=(wq.heap.size,.cells #[uV (x:Nat)] 36)::(l++R)) (T6.out.perm po).has rfl (news:=[uV (x:Nat)]) rfl (Qy (A_ _ _)) (by simp[Value.oneCell']) a6 a8 ?_;intro a9 p9 l9 w8 U V9 a5;have a2:=uh (((T6.out.perm po).trans V9).perm (l2:=(wq.heap.size,.cells #[uV (x:Nat)] 36)::(l9++(l++R))) po);have a4:=uh U;clear V9 U a5)
         | fail)
        go_roundw
        case rel=>exact⟨k+1,a9,p9,l9,by omega,by go_num,by rw[G.out,e_]<;>rfl,by rw[G.out,e_,HN.out];exact a4.out,a2.out.tail⟩
        case measure=>simp[intOf];omega
  · obtain rfl:k=L.length:=O
    have am:¬((L.length:Nat):Int)<(L.length:Int):=O;obtain⟨ao,cap,q0,-⟩:=HI.out.hd (R:=r++R) (V.has.perm po);clear N V
    go_wp2
    go_ret;exact⟨a3,p3,rfl,r,a0.out,HV.out⟩
theorem LE (l:List Nat):∀u∈Gf l,u.oneCell'=true:=by
 intro u r;obtain⟨s,-,rfl⟩:=U_.1 r
 rfl
theorem Src.cut64n {w:World}{cap:Nat}{L:List Nat}(h:Src w none L.length cap 1 (Gf L)){k:Nat}(y:k <= L.length):Src w none k cap 1 (Gf (L.take k)) /\ Src w none (L.length-k) (cap-k) 1 (Gf (L.drop k)):=by
 have h1:=h.nil rfl;exact⟨⟨by rw[G8,Qh,Xs];omega,fun _=>by omega,fun ad r=>(by cases r)⟩,⟨by rw[G8,Yr,Xs],fun _=>by omega,fun ad r=>(by cases r)⟩⟩
theorem Src.cut64 {w:World}{g o cap:Nat}{L:List Nat}(h:Src w (some (aD g o)) L.length cap 1 (Gf L)){k:Nat}(E:k <= L.length):Src w (some (aD g o)) k cap 1 (Gf (L.take k)) /\ Src w (some (aD g (o+k))) (L.length-k) (cap-k) 1 (Gf (L.drop k)):=by
 refine⟨⟨by rw[G8,Qh,Xs];omega,fun h=>(by cases h),fun ad y j u r=>?_⟩,⟨by rw[G8,Yr,Xs],fun h=>(by cases h),fun ad y j u r=>?_⟩⟩
 · refine h.at_ ad y j u ?_
   unfold Gf at*;rw[List.map_take,List.getElem?_take]at r
   split at r
   ·exact r
   ·cases r
 · cases y
   unfold Gf at*;rw[List.map_drop,List.getElem?_drop]at r;have h2:=h.at_ _ rfl (k+j) u r;rw[show(Addr.add (aD g (o+k)) j)=Addr.add (aD g o) (k+j)from by unfold Addr.add;split<;>split<;>simp_all[Nat.add_assoc]];exact h2
theorem g9 (w:World)(b:Nat)(L:List Nat)(hL:L.length<256)(l R:List Blk)(hI:DK b L l)(hH:Has w (l++R))(a:Nat)(ha:a≠0):
  Calls prog 49 #[pt b,uV a] w fun e w'=>e=.returned (iV 0) /\ ∃k l',k <= L.length /\ (∀(j v:Nat),j<k -> L[j]?= some v -> v<a) /\ (∀v,L[k]?= some v -> a <= v) /\ DK b (L.take k++a::L.drop k) l' /\ Turn (l++R) w (l'++R) w':=by
 have aR:((a:Int) == 0)=false:=by rw[j_];omega
 have HI:=uh hI;have HT:=uh (r_ hH);have HC:=uh (Cn w b L l R hI hH a);have av:=uh (ZM w b L l R hI hH);have aq:L.count a <= L.length:=List.count_le_length;have Rx:=TR L L.length;clear hI hH
 go_enter func49,ntmps49
 go_upto_region 4 with(first
  | (go_at_call 109;refine HC.out.mono ?_;rintro e w1 ⟨rfl,rfl⟩)
  | fail)
 generalize L.count a=n at*;generalize(J0 L L.length).length=dl at*
 go_cut [24]from 8 (fun aK wc=>aK=.bool false /\ ∃y,Turn (l++R) w1 (y++(l++R)) wc)
 case first=>
  have aL:¬(256:Int) <= (n:Int):=O;have aG:decide ((4096:Int) <= (dl:Int))=false:=by rw[Zk];omega
  by_cases hn:n=0
  · have e0:((n:Int) == 0)=true:=by rw[Qx];omega
    clear hn aq;have aE:=uh aG
    go_wp2_with (first
     | (go_at_call 50;refine av.out.mono ?_;rintro e w2 ⟨da,dc,ld,rfl,-,T2⟩;have aC:=uh T2;clear T2)
     | fail)
    go_meet
    case rel=>exact⟨by first|rfl|rw[aE.out],ld,aC.out⟩
  · have e0:((n:Int) == 0)=false:=by rw[j_];omega
    clear hn aq
    go_wp2_with fail
    go_meet
    case rel=>exact⟨rfl,[],HT.out⟩
 case rest=>
  obtain⟨rfl,y,T⟩:=hcut;have J:=uh T;clear T HC av aq Rx
  go_wp2_with fail
  go_loopw [6] (fun v6 wr=>∃(k:Nat),k <= L.length /\ (∀(j v:Nat),j<k -> L[j]?= some v -> v<a) /\ v6=iV k /\ wc=wr) (fun v6 _=>L.length-(intOf v6).toNat)
  case atStart=>exact⟨0,u_ _,fun j v h=>by omega,by go_num,rfl⟩
  case round=>
   obtain⟨k,hk,ay,rfl,rfl⟩:=hrel;have ak:=uh ay;have aP:=uh (J.out.perm (l2:=l++(y++R)) po).has;clear ay
   by_cases az:k<L.length
   · have aN:(k:Int)<(L.length:Int):=O
     obtain⟨aB,ao,cap,G,rfl,r⟩:=HI.out;obtain⟨g,aF,rfl,-,-,-⟩:=r.some_of O;have am:=r.2.1;have q0:=J.out.has.cell (b:=b) (c:=#[.slice (some (aD g 0)) L.length cap]) (e:=114) (f:=(0,0)) (by simp) 0;replace q0:wc.cell? (aD b 0)=some (.slice (some (aD g 0)) L.length cap):=q0;have au:=r.src (R:=(b,.cells #[.slice (some (aD g 0)) L.length cap] 114)::(y++R)) (J.out.has.perm po);obtain⟨x,hx⟩:∃x,L[k]?= some x:=⟨L[k],a_ az⟩;obtain⟨b',o',he,hc⟩:=au.form (by rw[G8];omega)
     cases he
     have q1:=hc k _ (JL hx);clear hc;rw[Q_]at q1;have HX:=uh hx;have aj:=uh au;clear au hx
     by_cases aH:x<a
     · have aJ:(x:Int)<(a:Int):=O
       clear r
       go_wp2
       go_roundw
       case rel=>exact⟨k+1,by omega,fun j v hj hv=>(by
        rcases Nat.lt_succ_iff_lt_or_eq.1 hj with h|rfl
        ·exact ak.out j v h hv
        ·rw[HX.out]at hv;cases hv;exact aH),by go_num,by trivial⟩
       case measure=>simp[intOf];omega
     · have aJ:¬(x:Int)<(a:Int):=O
       have a4:=uh r;have a3:=uh (aj.out.cut64 hk);have ax:(k:Int) <= (cap:Int):=O;have ae:0+k <= maxLen:=(by unfold maxLen;omega);have af:k+1 <= maxLen:=(by unfold maxLen;omega);have ag:k+1+(L.length-k) <= maxLen:=(by unfold maxLen;omega);have an:(k:Int) <= (L.length:Int):=O;clear r
       go_wp2_with (first
        | (at_builtin;refine Qv rfl _ _ rfl GF rfl rfl (Zb _ _) (R:=y++(((b,.cells #[.slice (some (aD g 0)) L.length cap] 114)::G)++R)) J.out.has a3.out.1 (LE _) ae O ?_;intro a9 p9 l9 w4 N V9;rw[Q_,L_]at N;simp only[Q_];have a0:=uh (J.out.trans V9);have ab:=uh N;clear N V9 q1)
        | (at_builtin;have T6:=uh (a0.out.alloc (.cells #[uV (a:Nat)] 36));refine K_ rfl _ _ rfl GF rfl ab.out (R:=(w4.heap.size,.cells #[uV (a:Nat)] 36)::(y++(((b,.cells #[.slice (some (aD g 0)) L.length cap] 114)::G)++R))) (T6.out.perm po).has rfl (news:=[uV (a:Nat)]) rfl (Qy (A_ _ _)) (by simp[Value.oneCell']) af O ?_;intro a8 p8 l8 w5 a2 V8 ah;have E:=uh (((T6.out.perm po).trans V8).perm (l2:=(w4.heap.size,.cells #[uV (a:Nat)] 36)::(l8++(y++(((b,.cells #[.slice (some (aD g 0)) L.length cap] 114)::G)++R)))) po).tail;have aa:=uh a2;have q5:=E.out.has.cell (b:=b) (c:=#[.slice (some (aD g 0)) L.length cap]) (e:=114) (f:=(0,0)) (by simp) 0;replace q5:w5.cell? (aD b 0)=some (.slice (some (aD g 0)) L.length cap):=q5;have U:=((a4.out.src (R:=(b,.cells #[.slice (some (aD g 0)) L.length cap] 114)::(l8++(y++R))) (E.out.has.perm po)).cut64 hk).2;rw[Q_]at U;have ac:=uh U;clear V8 a2 ah U a0 q0)
        | (at_builtin;refine Qv rfl _ _ rfl GF rfl rfl aa.out (R:=(y++(((b,.cells #[.slice (some (aD g 0)) L.length cap] 114)::G)++R))) E.out.has ac.out (LE _) ag O ?_;intro V p7 Z w6 a1 V7;have M:=uh ((E.out.trans V7).perm (l2:=(b,.cells #[.slice (some (aD g 0)) L.length cap] 114)::(Z++(G++(y++R)))) po);have a6:=uh a1;have q7:=M.out.cell1 0;have f7:=M.out.free1 0;have a5:=uh (M.out.setCell 0 (.slice V (k+1+(L.length-k)) p7));clear V7 a1 q5)
        | fail)
       go_ret;have hN:(L.take k++a::L.drop k).length=k+1+(L.length-k):=by rw[e_,B_,Qh,Yr];omega
       refine⟨rfl,k,hk,ak.out,fun v hv=>(by rw[HX.out]at hv;cases hv;omega),(b,.cells #[.slice V (k+1+(L.length-k)) p7] 114)::Z,⟨by omega,V,p7,Z,by rw[hN],?_⟩,?_⟩
       · rw[hN]
         have h:=a6.out;unfold Gf at*;rw[Za,Zn]
         simpa using h
       ·exact(a5.out.perm (l2:=(y++G)++(((b,.cells #[.slice V (k+1+(L.length-k)) p7] 114)::Z)++R)) po).drop
   · have aQ:=uh (by omega:k=L.length)
     have aS:¬(k:Int)<(L.length:Int):=O;have HX:=uh (Qb O:L[k]?= none);obtain⟨aB,ao,cap,G,rfl,r⟩:=HI.out;have am:=r.2.1;clear az;rcases r.2.2.2 with⟨rfl,-,-⟩|⟨g,aF,rfl,-,-,-⟩
     · have q0:=J.out.has.cell (b:=b) (c:=#[.slice none L.length cap]) (e:=114) (f:=(0,0)) (by simp) 0
       replace q0:wc.cell? (aD b 0)=some (.slice none L.length cap):=q0;have aj:=uh (r.src (R:=(b,.cells #[.slice none L.length cap] 114)::(y++R)) (J.out.has.perm po));have a4:=uh r;have a3:=uh (aj.out.cut64n hk);have ax:(k:Int) <= (cap:Int):=O;have ae:0+k <= maxLen:=(by unfold maxLen;omega);have af:k+1 <= maxLen:=(by unfold maxLen;omega);have ag:k+1+(L.length-k) <= maxLen:=(by unfold maxLen;omega);have an:(k:Int) <= (L.length:Int):=O;clear r
       go_wp2_with (first
        | (at_builtin;refine Qv rfl _ _ rfl GF rfl rfl (Zb _ _) (R:=y++(((b,.cells #[.slice none L.length cap] 114)::G)++R)) J.out.has a3.out.1 (LE _) ae O ?_;intro a9 p9 l9 w4 N V9;rw[Q_,L_]at N;simp only[Q_];have a0:=uh (J.out.trans V9);have ab:=uh N;clear N V9)
        | (at_builtin;have T6:=uh (a0.out.alloc (.cells #[uV (a:Nat)] 36));refine K_ rfl _ _ rfl GF rfl ab.out (R:=(w4.heap.size,.cells #[uV (a:Nat)] 36)::(y++(((b,.cells #[.slice none L.length cap] 114)::G)++R))) (T6.out.perm po).has rfl (news:=[uV (a:Nat)]) rfl (Qy (A_ _ _)) (by simp[Value.oneCell']) af O ?_;intro a8 p8 l8 w5 a2 V8 ah;have E:=uh (((T6.out.perm po).trans V8).perm (l2:=(w4.heap.size,.cells #[uV (a:Nat)] 36)::(l8++(y++(((b,.cells #[.slice none L.length cap] 114)::G)++R)))) po).tail;have aa:=uh a2;have q5:=E.out.has.cell (b:=b) (c:=#[.slice none L.length cap]) (e:=114) (f:=(0,0)) (by simp) 0;replace q5:w5.cell? (aD b 0)=some (.slice none L.length cap):=q5;have U:=((a4.out.src (R:=(b,.cells #[.slice none L.length cap] 114)::(l8++(y++R))) (E.out.has.perm po)).cut64n hk).2;have ac:=uh U;clear V8 a2 ah U a0 q0)
        | (at_builtin;refine Qv rfl _ _ rfl GF rfl rfl aa.out (R:=(y++(((b,.cells #[.slice none L.length cap] 114)::G)++R))) E.out.has ac.out (LE _) ag O ?_;intro V p7 Z w6 a1 V7;have M:=uh ((E.out.trans V7).perm (l2:=(b,.cells #[.slice none L.length cap] 114)::(Z++(G++(y++R)))) po);have a6:=uh a1;have q7:=M.out.cell1 0;have f7:=M.out.free1 0;have a5:=uh (M.out.setCell 0 (.slice V (k+1+(L.length-k)) p7));clear V7 a1 q5)
        | fail)
       go_ret;have hN:(L.take k++a::L.drop k).length=k+1+(L.length-k):=by rw[e_,B_,Qh,Yr];omega
       refine⟨rfl,k,hk,ak.out,fun v hv=>(by rw[HX.out]at hv;cases hv),(b,.cells #[.slice V (k+1+(L.length-k)) p7] 114)::Z,⟨by omega,V,p7,Z,by rw[hN],?_⟩,?_⟩
       · rw[hN]
         have h:=a6.out;unfold Gf at*;rw[Za,Zn]
         simpa using h
       ·exact(a5.out.perm (l2:=(y++G)++(((b,.cells #[.slice V (k+1+(L.length-k)) p7] 114)::Z)++R)) po).drop
     · have q0:=J.out.has.cell (b:=b) (c:=#[.slice (some (aD g 0)) L.length cap]) (e:=114) (f:=(0,0)) (by simp) 0
       replace q0:wc.cell? (aD b 0)=some (.slice (some (aD g 0)) L.length cap):=q0;have aj:=uh (r.src (R:=(b,.cells #[.slice (some (aD g 0)) L.length cap] 114)::(y++R)) (J.out.has.perm po))
       by_cases ap:cap=k
       · obtain rfl:k=cap:=ap.symm
         have aA:=uh am;clear ap am;have a4:=uh r;have a3:=uh (aj.out.cut64 hk);have ae:0+k <= maxLen:=(by unfold maxLen;omega);have af:k+1 <= maxLen:=(by unfold maxLen;omega);have ag:k+1+(L.length-k) <= maxLen:=(by unfold maxLen;omega);have an:(k:Int) <= (L.length:Int):=O;clear r
         go_wp2_with (first
          | (at_builtin;refine Qv rfl _ _ rfl GF rfl rfl (Zb _ _) (R:=y++(((b,.cells #[.slice (some (aD g 0)) L.length k] 114)::G)++R)) J.out.has a3.out.1 (LE _) ae O ?_;intro a9 p9 l9 w4 N V9;rw[Q_,L_]at N;simp only[Q_];have a0:=uh (J.out.trans V9);have ab:=uh N;clear N V9)
          | (at_builtin;have T6:=uh (a0.out.alloc (.cells #[uV (a:Nat)] 36));refine K_ rfl _ _ rfl GF rfl ab.out (R:=(w4.heap.size,.cells #[uV (a:Nat)] 36)::(y++(((b,.cells #[.slice (some (aD g 0)) L.length k] 114)::G)++R))) (T6.out.perm po).has rfl (news:=[uV (a:Nat)]) rfl (Qy (A_ _ _)) (by simp[Value.oneCell']) af O ?_;intro a8 p8 l8 w5 a2 V8 ah;have E:=uh (((T6.out.perm po).trans V8).perm (l2:=(w4.heap.size,.cells #[uV (a:Nat)] 36)::(l8++(y++(((b,.cells #[.slice (some (aD g 0)) L.length k] 114)::G)++R)))) po).tail;have aa:=uh a2;have q5:=E.out.has.cell (b:=b) (c:=#[.slice (some (aD g 0)) L.length k]) (e:=114) (f:=(0,0)) (by simp) 0;replace q5:w5.cell? (aD b 0)=some (.slice (some (aD g 0)) L.length k):=q5;have U:Src w5 (some (aD g 0)) (L.length-k) 0 1 (Gf (L.drop k)):=⟨by rw[G8,Yr,Xs],fun h=>(by cases h),fun ad ha j u hu=>(by rw[List.drop_eq_nil_of_le aA.out]at hu;cases hu)⟩;have ac:=uh U;clear V8 a2 ah U a0 q0)
          | (at_builtin;refine Qv rfl _ _ rfl GF rfl rfl aa.out (R:=(y++(((b,.cells #[.slice (some (aD g 0)) L.length k] 114)::G)++R))) E.out.has ac.out (LE _) ag O ?_;intro V p7 Z w6 a1 V7;have M:=uh ((E.out.trans V7).perm (l2:=(b,.cells #[.slice (some (aD g 0)) L.length k] 114)::(Z++(G++(y++R)))) po);have a6:=uh a1;have q7:=M.out.cell1 0;have f7:=M.out.free1 0;have a5:=uh (M.out.setCell 0 (.slice V (k+1+(L.length-k)) p7));clear V7 a1 q5)
          | fail)
         go_ret;have hN:(L.take k++a::L.drop k).length=k+1+(L.length-k):=by rw[e_,B_,Qh,Yr];omega
         refine⟨rfl,k,hk,ak.out,fun v hv=>(by rw[HX.out]at hv;cases hv),(b,.cells #[.slice V (k+1+(L.length-k)) p7] 114)::Z,⟨by omega,V,p7,Z,by rw[hN],?_⟩,?_⟩
         · rw[hN]
           have h:=a6.out;unfold Gf at*;rw[Za,Zn]
           simpa using h
         ·exact(a5.out.perm (l2:=(y++G)++(((b,.cells #[.slice V (k+1+(L.length-k)) p7] 114)::Z)++R)) po).drop
       · have aM:¬k=cap:=fun h=>ap h.symm
         have a4:=uh r;have a3:=uh (aj.out.cut64 hk);have ax:(k:Int) <= (cap:Int):=O;have ae:0+k <= maxLen:=(by unfold maxLen;omega);have af:k+1 <= maxLen:=(by unfold maxLen;omega);have ag:k+1+(L.length-k) <= maxLen:=(by unfold maxLen;omega);have an:(k:Int) <= (L.length:Int):=O;clear r
         go_wp2_with (first
          | (at_builtin;refine Qv rfl _ _ rfl GF rfl rfl (Zb _ _) (R:=y++(((b,.cells #[.slice (some (aD g 0)) L.length cap] 114)::G)++R)) J.out.has a3.out.1 (LE _) ae O ?_;intro a9 p9 l9 w4 N V9;rw[Q_,L_]at N;simp only[Q_];have a0:=uh (J.out.trans V9);have ab:=uh N;clear N V9)
          | (at_builtin;have T6:=uh (a0.out.alloc (.cells #[uV (a:Nat)] 36));refine K_ rfl _ _ rfl GF rfl ab.out (R:=(w4.heap.size,.cells #[uV (a:Nat)] 36)::(y++(((b,.cells #[.slice (some (aD g 0)) L.length cap] 114)::G)++R))) (T6.out.perm po).has rfl (news:=[uV (a:Nat)]) rfl (Qy (A_ _ _)) (by simp[Value.oneCell']) af O ?_;intro a8 p8 l8 w5 a2 V8 ah;have E:=uh (((T6.out.perm po).trans V8).perm (l2:=(w4.heap.size,.cells #[uV (a:Nat)] 36)::(l8++(y++(((b,.cells #[.slice (some (aD g 0)) L.length cap] 114)::G)++R)))) po).tail;have aa:=uh a2;have q5:=E.out.has.cell (b:=b) (c:=#[.slice (some (aD g 0)) L.length cap]) (e:=114) (f:=(0,0)) (by simp) 0;replace q5:w5.cell? (aD b 0)=some (.slice (some (aD g 0)) L.length cap):=q5;have U:=((a4.out.src (R:=(b,.cells #[.slice (some (aD g 0)) L.length cap] 114)::(l8++(y++R))) (E.out.has.perm po)).cut64 hk).2;rw[Q_]at U;have ac:=uh U;clear V8 a2 ah U a0 q0)
          | (at_builtin;refine Qv rfl _ _ rfl GF rfl rfl aa.out (R:=(y++(((b,.cells #[.slice (some (aD g 0)) L.length cap] 114)::G)++R))) E.out.has ac.out (LE _) ag O ?_;intro V p7 Z w6 a1 V7;have M:=uh ((E.out.trans V7).perm (l2:=(b,.cells #[.slice (some (aD g 0)) L.length cap] 114)::(Z++(G++(y++R)))) po);have a6:=uh a1;have q7:=M.out.cell1 0;have f7:=M.out.free1 0;have a5:=uh (M.out.setCell 0 (.slice V (k+1+(L.length-k)) p7));clear V7 a1 q5)
          | fail)
         go_ret;have hN:(L.take k++a::L.drop k).length=k+1+(L.length-k):=by rw[e_,B_,Qh,Yr];omega
         refine⟨rfl,k,hk,ak.out,fun v hv=>(by rw[HX.out]at hv;cases hv),(b,.cells #[.slice V (k+1+(L.length-k)) p7] 114)::Z,⟨by omega,V,p7,Z,by rw[hN],?_⟩,?_⟩
         · rw[hN]
           have h:=a6.out;unfold Gf at*;rw[Za,Zn]
           simpa using h
         ·exact(a5.out.perm (l2:=(y++G)++(((b,.cells #[.slice V (k+1+(L.length-k)) p7] 114)::Z)++R)) po).drop
theorem RT:∀{a b:List Nat},a.Pairwise (· < ·) -> b.Pairwise (· < ·) -> (∀v,v∈a↔v∈b) -> a=b
 | [],[],_,_,_=>rfl
 | [],y::b,_,_,h=>absurd ((h y).2 (d_ ..)) (by simp)
 | x::a,[],_,_,h=>absurd ((h x).1 (d_ ..)) (by simp)
 | x::a,y::b,r,E,h=>by
  have r:=List.pairwise_cons.1 r;have E:=List.pairwise_cons.1 E
  have J:x=y:=by
   have h1:=(h x).1 (d_ ..);have h2:=(h y).2 (d_ ..);rcases t_.1 h1 with h1|h1
   ·exact h1
   · rcases t_.1 h2 with h2|h2
     ·exact h2.symm
     · have:=r.1 y h2
       have:=E.1 x h1;omega
  subst J;rw[RT r.2 E.2 fun v=>?_]
  constructor
  · intro G
    rcases t_.1 ((h v).1 (V_ _ G))with h1|h1
    · have:=r.1 v G
      omega
    ·exact h1
  · intro G
    rcases t_.1 ((h v).2 (V_ _ G))with h1|h1
    · have:=E.1 v G
      omega
    ·exact h1
def rg (K:List Nat)(k:Nat):List Nat:=(List.range k).filter fun v=>decide (v∈K)
theorem Er (K:List Nat)(k:Nat):rg K (k+1)=rg K k++if k∈K then [k]else []:=by
 unfold rg;rw[Yk,Xv]
 congr 1
 by_cases h:k∈K
 · rw[v_ h,Xh (by simpa using h)]
   rfl
 · rw[y_ h,Xj (by simpa using h)]
   rfl
theorem Ch {K:List Nat}{k v:Nat}:v∈rg K k↔v<k /\ v∈K:=by
 unfold rg;rw[Ym,List.mem_range,decide_eq_true_iff]
theorem XY (K:List Nat)(k:Nat):(rg K k).length <= k:=by
 unfold rg;refine Qf (Zm ..) ?_;rw[Xe];exact g_ _
def ik (K:List Nat)(k i:Nat):List Nat:=rg K k++if k∈K.take i then [k]else []
theorem PH (K:List Nat)(k i:Nat):(ik K k i).length <= k+1:=by
 have:=XY K k;unfold ik;rw[e_]
 split
 ·simp;omega
 ·simp;omega
theorem Am (K:List Nat)(k:Nat):(rg K k).Pairwise (· < ·):=by
 unfold rg;exact(List.pairwise_lt_range).filter _
theorem ED (w:World)(xs G:List Nat)(a b:Option Addr)(U V:Nat)(Z:Src w a xs.length U 1 (Sm xs))(hB:Src w b G.length V 1 (Sm G))(hx:xs.length <= 65536)(he:xs=G):
  Calls prog 6 #[.slice a xs.length U,.slice b G.length V] w fun e w'=>e=.returned (.bool true) /\ Below w.heap.size w w':=by
 subst he;have HA:=uh (fun w' (r:Below w.heap.size w w')=>Z.below r);have HB:=uh (fun w' (r:Below w.heap.size w w')=>hB.below r);have J:=uh (T_ w.heap.size w);clear Z hB
 go_enter func6,ntmps6
 go_wp2_with fail
 go_loopw [5] (fun M wr=>∃i:Nat,i <= xs.length /\ M=iV i /\ Below w.heap.size w wr) (fun M _=>xs.length-(intOf M).toNat)
 case atStart=>exact⟨0,u_ _,by go_num,J.out⟩
 case round=>
  clear J;obtain⟨i,hi,rfl,r⟩:=hrel
  by_cases a0:i<xs.length
  · have a1:(i:Int)<(xs.length:Int):=O
    obtain⟨x,y⟩:∃x,xs[i]?= some x:=⟨xs[i],a_ a0⟩;obtain⟨b1,o1,rfl,h1⟩:=(HA.out wr r).form (by rw[KG];omega);obtain⟨b2,o2,rfl,h2⟩:=(HB.out wr r).form (by rw[KG];omega);have q1:=h1 i _ (N5 y);have q2:=h2 i _ (N5 y);have E:=uh r;clear h1 h2 y r
    go_wp2_with fail
    go_quiet (fail)
    have N:=uh (LJ E.out nq);clear q1 q2 E
    go_wp2
    go_roundw
    case rel=>exact⟨i+1,by omega,by go_num,N.out⟩
    case measure=>simp[intOf];omega
  · obtain rfl:i=xs.length:=O
    have a2:¬((xs.length:Nat):Int)<(xs.length:Int):=O;have E:=uh r;clear r
    go_wp2
    go_ret;exact⟨rfl,E.out⟩
theorem Ph (w:World)(l:List Z6)(ao:Option Addr)(cap:Nat)(hS:Src w ao l.length cap 5 (FL l))(hl:l.length <= 65536)(ah:∀b∈l,b.1<256):
  Calls prog 8 #[.slice ao l.length cap] w fun e w'=>∃a2 p2 l',e=.returned (.slice a2 (rg (l.map (·.1)) 256).length p2) /\ Gh 5 1 a2 (rg (l.map (·.1)) 256).length p2 (Sm (rg (l.map (·.1)) 256)) l' /\ Turn [] w l' w':=by
 have HS:=uh (fun w' (hk:Below w.heap.size w w')=>hS.below hk);have HT:=uh (r_ (C_ w));have H8:=uh (fun(i:Nat) (x:Z6) (h:l[i]?= some x)=>ah x (q_ h));have HM:=uh (fun(i:Nat) (x:Z6) (h:l[i]?= some x)=>KT (f:=fun b:Z6=>b.1) h);have a7:Hid ((l.map (·.1)).take l.length=l.map (·.1)):=uh (by rw[Xp (by rw[n_];exact g_ _)]);have a5:=uh (fun i=>(List.map_take (f:=fun b:Z6=>b.1) (l:=l) (i:=i)));obtain⟨K,hK⟩:∃K,l.map (·.1)=K:=⟨_,rfl⟩;rw[hK]at a7 ⊢;simp only[hK]at a5;have Hn:=uh (Er K);have aA:=uh (XY K);have ak:=uh (fun k v=>(Ch (K:=K) (k:=k) (v:=v)).1);clear hS hK ah
 go_enter func8,ntmps8
 go_wp2_with fail
 go_loopw [3,4] (fun v3 v4 wr=>∃(k:Nat) (a3:Option Addr) (p3:Nat) (lr:List Blk),k <= 256 /\ v4=iV k /\ v3=.slice a3 (rg K k).length p3 /\ Gh 5 1 a3 (rg K k).length p3 (Sm (rg K k)) lr /\ Turn [] w lr wr) (fun _ v4 _=>256-(intOf v4).toNat)
 case atStart=>exact⟨0,none,0,[],u_ _,by go_num,rfl,Zb _ _,HT.out⟩
 case round=>
  clear HT;obtain⟨k,a3,p3,lr,hk,rfl,rfl,aj,V⟩:=hrel;have aa:=uh aj;have HV:=uh V;clear aj V
  by_cases aF:k<256
  · have az:(k:Int)<256:=O
    have ae:Hid (ik K k 0=rg K k):=uh (by unfold ik;simp);have am:Hid (ik K k l.length=rg K (k+1)):=uh (by unfold ik;rw[a7.out,Hn.out]);have an:=uh (PH K k)
    go_wp2_with fail
    go_loopw [3,5] (fun v3 v5 wr=>∃(i:Nat) (a4:Option Addr) (p4:Nat) (U:List Blk),i <= l.length /\ v5=iV i /\ v3=.slice a4 (ik K k i).length p4 /\ Gh 5 1 a4 (ik K k i).length p4 (Sm (ik K k i)) U /\ Turn [] w U wr) (fun _ v5 _=>l.length-(intOf v5).toNat)
    case atStart=>exact⟨0,a3,p3,lr,u_ _,by go_num,by rw[ae.out],by rw[ae.out];exact aa.out,HV.out⟩
    case round=>
     clear HV aa;obtain⟨i,a4,p4,U,hi,rfl,rfl,G,V⟩:=hrel;have y:=uh G;have Z:=uh V
     by_cases au:i<l.length
     · have ay:(i:Int)<(l.length:Int):=O
       obtain⟨x,hx⟩:∃x,l[i]?= some x:=⟨l[i],a_ au⟩;have M:=HS.out wr V.below;obtain⟨b,off,rfl,-⟩:=M.form (by rw[Rd];omega);have a1:wr.rangeAt b (off+i*5) (Le x):=Src.fm (f:=Le) (fun _=>rfl) M hx;have q0:=a1 0 _ rfl;rw[Zs]at q0;have aH:=H8.out i x hx
       have J:K.take (i+1)=K.take i++[x.1]:=by
        have h:=HM.out i x hx;rw[a5.out,a5.out]at h;exact h
       have aC:IntKind.i64.wrap (x.1:Int)=(x.1:Int):=i64_in _ O;have aE:IntKind.u8.wrap (k:Int)=(k:Int):=(by rw[IntKind.wrap_u8];omega);have aB:=an.out i;have af:(ik K k i).length+1 <= maxLen:=(by unfold maxLen;omega);have ag:((ik K k i).length+1)*1 <= 140737488355328:=O
       by_cases N:x.1=k
       · have k1:(((x.1:Nat):Int) == (k:Int))=true:=by rw[Qx];omega
         by_cases E:k∈K.take i
         · have r:Hid (ik K k (i+1)=ik K k i):=uh (by unfold ik;rw[J,v_ E,v_ (s_.2 (.inl E))])
           have hD:ik K k i=rg K k++[k]:=(by unfold ik;rw[v_ E]);have aq:(ik K k i).length=(rg K k).length+1:=(by rw[hD];simp);obtain⟨ab,ap,rfl,h4⟩:=(G.src (R:=[]) (by rw[p_];exact V.has)).form (by rw[KG];omega);have q4:=h4 (rg K k).length _ (N5 (v:=k) (by rw[hD,Qg (g_ _),Jc];rfl));have k2:(((ik K k i).length:Int) == 0)=false:=(by rw[j_];omega);have k3:((ik K k i).length:Int)-1=((rg K k).length:Int):=O;have av:((rg K k).length:Int)<((ik K k i).length:Int):=O;clear G V M a1 hx J hD aq h4 E N;generalize ik K k i=D at*;generalize(rg K k).length=m at*
           go_wp2
           go_roundw
           case rel=>exact⟨i+1,_,p4,U,by omega,by go_num,by rw[r.out],by rw[r.out];exact y.out,Z.out⟩
           case measure=>simp[intOf];omega
         · have r:Hid (ik K k (i+1)=ik K k i++[k]):=uh (by unfold ik;rw[J,y_ E,v_ (s_.2 (.inr (by rw[N];simp))),p_])
           have hD:ik K k i=rg K k:=by unfold ik;rw[y_ E,p_]
           by_cases h0:(ik K k i).length=0
           · have k2:(((ik K k i).length:Int) == 0)=true:=by rw[Qx];omega
             clear G V M a1 hx J hD E N h0;generalize ik K k i=D at*
             go_wp2_with (first
              | (at_builtin;have T6:=uh (Z.out.alloc (.cells #[yV (k:Nat)] 5));refine K_ rfl _ _ rfl Dd rfl y.out (R:=[(wr.heap.size,.cells #[yV (k:Nat)] 5)]) (T6.out.perm po).has rfl (news:=[yV (k:Nat)]) rfl (Qy (A_ _ _)) (by simp[Value.oneCell']) af ag ?_;intro a9 p9 l9 w8 a0 V9 ac;have a6:=uh ((T6.out.perm po).trans V9);have a8:=uh a0;clear V9 a0 ac)
              | fail)
             go_roundw
             case rel=>exact⟨i+1,a9,p9,l9,by omega,by go_num,by rw[r.out,e_]<;>rfl,by rw[r.out,e_,Sm,Za];exact a8.out,a6.out.sub (x_ ..)⟩
             case measure=>simp[intOf];omega
           · obtain⟨ab,ap,rfl,h4⟩:=(G.src (R:=[]) (by rw[p_];exact V.has)).form (by rw[KG];omega)
             obtain⟨v,hv⟩:∃v,(ik K k i)[(ik K k i).length-1]?= some v:=⟨_,a_ O⟩;have ax:=ak.out k v (by rw[←hD];exact q_ hv);obtain⟨m,hm⟩:∃m,(ik K k i).length-1=m:=⟨_,rfl⟩;rw[hm]at hv;have q4:=h4 m _ (N5 hv);have k2:(((ik K k i).length:Int) == 0)=false:=(by rw[j_];omega);have k3:((ik K k i).length:Int)-1=(m:Int):=O;have av:(m:Int)<((ik K k i).length:Int):=O;have k4:((v:Int) != (k:Int))=true:=(by rw[Qe];omega);clear G V M a1 hx J hD E N h0 h4 hv ax hm;generalize ik K k i=D at*
             go_wp2_with (first
              | (at_builtin;have T6:=uh (Z.out.alloc (.cells #[yV (k:Nat)] 5));refine K_ rfl _ _ rfl Dd rfl y.out (R:=[(wr.heap.size,.cells #[yV (k:Nat)] 5)]) (T6.out.perm po).has rfl (news:=[yV (k:Nat)]) rfl (Qy (A_ _ _)) (by simp[Value.oneCell']) af ag ?_;intro a9 p9 l9 w8 a0 V9 ac;have a6:=uh ((T6.out.perm po).trans V9);have a8:=uh a0;clear V9 a0 ac)
              | fail)
             go_roundw
             case rel=>exact⟨i+1,a9,p9,l9,by omega,by go_num,by rw[r.out,e_]<;>rfl,by rw[r.out,e_,Sm,Za];exact a8.out,a6.out.sub (x_ ..)⟩
             case measure=>simp[intOf];omega
       · have k1:(((x.1:Nat):Int) == (k:Int))=false:=by rw[j_];omega
         have r:Hid (ik K k (i+1)=ik K k i):=uh (by unfold ik;rw[J];simp only[s_,Qa,show ¬k=x.1 from fun h=>N h.symm,or_false]);clear G V M a1 hx J N;generalize ik K k i=D at*
         go_wp2
         go_roundw
         case rel=>exact⟨i+1,a4,p4,U,by omega,by go_num,by rw[r.out],by rw[r.out];exact y.out,Z.out⟩
         case measure=>simp[intOf];omega
     · obtain rfl:i=l.length:=O
       have aG:¬((l.length:Nat):Int)<(l.length:Int):=O;rw[am.out]at y ⊢;clear G V
       go_wp2
       go_roundw
       case rel=>exact⟨k+1,a4,p4,U,by omega,by go_num,rfl,y.out,Z.out⟩
       case measure=>simp[intOf];omega
  · obtain rfl:k=256:=O
    go_wp2
    go_ret;exact⟨a3,p3,lr,rfl,aa.out,HV.out⟩
end
section
open Go Go.RowKit
def Uk (L ps:List Nat):Prop:=L.length=ps.length /\ L.Pairwise (· <= ·) /\ ∀x,x∈L↔x∈ps
theorem Uk.nil:Uk [] []:=⟨rfl,.nil,fun _=>Iff.rfl⟩
theorem Uk.put {L ps:List Nat}(h:Uk L ps){a k:Nat}(hk:k <= L.length)(U:∀(j v:Nat),j<k -> L[j]?= some v -> v<a)(E:∀v,L[k]?= some v -> a <= v):Uk (L.take k++a::L.drop k) (ps++[a]):=by
 obtain⟨h1,h2,h3⟩:=h
 have ht:∀v∈L.take k,v<a:=fun v J=>by
  obtain⟨j,r⟩:=Ys J;rw[List.getElem?_take]at r
  split at r
  ·exact U j v (by assumption) r
  ·cases r
 have hd:∀v∈L.drop k,a <= v:=fun v J=>by
  obtain⟨j,r⟩:=Ys J;rw[List.getElem?_drop]at r;have V:=(m_.1 r).1;have N:=E (L[k]'O) (a_ O)
  by_cases h0:j=0
  · subst h0
    rw[Zs]at r;exact E v r
  · have h5:=Yd.1 h2 k (k+j) O V O
    rw[(m_.1 r).2]at h5;omega
 have G:=List.take_append_drop k L;have Z:(L.take k++L.drop k).Pairwise (· <= ·):=by rw[G];exact h2
 refine⟨?_,?_,fun x=>?_⟩
 · rw[e_,B_,Qh,Yr,e_,Xx]
   omega
 · obtain⟨p1,p2,p3⟩:=List.pairwise_append.1 Z
   refine List.pairwise_append.2 ⟨p1,List.pairwise_cons.2 ⟨hd,p2⟩,fun x hx y M=>?_⟩;rcases t_.1 M with rfl|M
   ·exact Nat.le_of_lt (ht x hx)
   ·exact p3 x hx y M
 · rw[s_,t_,s_,Qa,←h3]
   have N:x∈L↔x∈L.take k∨x∈L.drop k:=(by rw[←s_,G]);rw[N]
   constructor
   · rintro(h|h|h)
     ·exact .inl (.inl h)
     ·exact .inr h
     ·exact .inl (.inr h)
   · rintro((h|h)|h)
     ·exact .inl h
     ·exact .inr (.inr h)
     ·exact .inr (.inl h)
theorem Uk.list {L J M:List Nat}{m:List (Int×Value)}(h:Uk L J)(N:PinsOk m J)(y:Kk m M):J0 L L.length=M:=by
 refine RT (VD L h.2.1 L.length (g_ _)).1 ?_ fun v=>?_
 · have h1:=y.1
   have h2:=y.2.1;rw[Yd]at h2 ⊢;intro i j E G r;rw[List.Nodup,Yd]at h1;have:=h1 i j E G r;have:=h2 i j E G r;omega
 ·rw[TQ L L.length (g_ _) v,D_,h.2.2,y.2.2.2,N.mem]
end
section
open Go Go.RowKit Go.IntWalk
def F5 (w w':World)(rs ks ps:List Nat)(e:Ending):Prop:=
 ∃(wb hb kb:Nat) (da:Option Addr) (dc:Nat) (Lp:List Nat) (lw l15 l16 lp:List Blk),e=.returned (.tuple #[pt wb,pt hb,pt kb,.slice da (J0 Lp Lp.length).length dc]) /\
  Js wb (NH ks) lw /\ VJ hb (Mc rs) l15 /\ Uj kb (Mb ks) l16 /\ Uk Lp ps /\ Gh 36 1 da (J0 Lp Lp.length).length dc (Gf (J0 Lp Lp.length)) lp /\ Turn [] w (lw++(l15++(l16++lp))) w'
theorem Vh {y:Func}{p q r s:Tmp}(h:y.results=#[.tmp p,.tmp q,.tmp r,.tmp s])(P:Program)(tmps:Array Value)(w:World):(results y tmps).run P w=.ok (.tuple #[tmps.getD p undef,tmps.getD q undef,tmps.getD r undef,tmps.getD s undef]) w:=by
 simp[results,h]
theorem UJ (l:List Nat):J9 (l.take l.length)=J9 l:=by rw[D_]
theorem BG (w:World)(xb:Nat)(cs:List Ce)(rs wl E:List Nat)(la ra pa wa:Option Addr)(lc rc pc wc:Nat)(q5:w.cell? (aD xb 5)=some (.slice la cs.length lc))(q7:w.cell? (aD xb 7)=some (.slice ra rs.length rc))(q8:w.cell? (aD xb 8)=some (.slice pa E.length pc))
  (hL:Src w la cs.length lc 5 (ces cs))(hR:Src w ra rs.length rc 1 (Gf rs))(hP:Src w pa E.length pc 1 (Gf E))(hW:Src w wa wl.length wc 1 (Gf wl))(aV:cs.length <= 32768)(aU:∀c∈cs,c.1 <= 65536)(ba:wl.length <= 60)(b3:∀v∈wl,v<18446744073709551616)
  (bk:rs.length <= 60)(b1:∀v∈rs,v≠0)(bf:E.length <= 60)(b0:∀v∈E,v≠0):
  Calls prog 12 #[pt xb,.slice wa wl.length wc] w fun e w'=>F5 w w' rs (J9 (wl.map (JN (KE cs)))) E e:=by
 have HQ:=uh (fun u (N:Below w.heap.size w u)=>(⟨(N.cell (p:=(aD xb 5)) (c_ _ _ q5)).trans q5,(N.cell (p:=(aD xb 7)) (c_ _ _ q7)).trans q7,(N.cell (p:=(aD xb 8)) (c_ _ _ q8)).trans q8⟩:u.cell? (aD xb 5)=some (.slice la cs.length lc) /\ u.cell? (aD xb 7)=some (.slice ra rs.length rc) /\ u.cell? (aD xb 8)=some (.slice pa E.length pc)));have HR:=uh (fun u (N:Below w.heap.size w u)=>hR.below N);have HP:=uh (fun u (N:Below w.heap.size w u)=>hP.below N);have ah:=uh (fun u (N:Below w.heap.size w u)=>Sy u cs la wa lc wc wl (hL.below N) (hW.below N) aV ba aU b3);have aR:=uh b1;have b8:=uh b0;clear q5 q7 q8 hL hR hP hW aV aU b3 b1 b0;obtain⟨y,aq⟩:∃y,wl.map (JN (KE cs))=y:=⟨_,rfl⟩;have a7:y.length=wl.length:=by rw[←aq];exact n_ ..
 rw[aq]at ah ⊢;clear aq;have T0:=Bz w 64 O (R:=[]) (C_ w);have aP:=uh T0;clear T0
 go_enter func12,ntmps12
 go_wp2_with fail
 refine aP.out.mono ?_;rintro e w1 ⟨wb,lw,rfl,aT,T1⟩;rw[p_]at T1;have aQ:Hid (Js wb (NH []) lw):=uh aT;have aJ:=uh T1;clear aP aT T1
 go_wp2_with fail
 refine(gx w1 (R:=[]) (C_ w1)).mono ?_;rintro e w2 ⟨hb,b4,rfl,Z,T2⟩;rw[p_]at T2;have aK:=uh (aJ.out.grow T2);have a9:=uh Z;clear Z T2 aJ
 go_wp2_with fail
 refine(gv w2 (R:=[]) (C_ w2)).mono ?_;rintro e w3 ⟨kb,a6,rfl,M,T3⟩;rw[p_]at T3;have af:=uh (((aK.out.grow T3).alloc (.cells #[.slice none 0 0] 114)).perm (l2:=(w3.heap.size,.cells #[.slice none 0 0] 114)::(lw++(b4++a6))) po);have a2:=uh M;clear M T3 aK;obtain⟨pb,av⟩:∃pb,w3.heap.size=pb:=⟨_,rfl⟩;rw[av]at af
 go_wp2_with fail
 try rw[av]
 clear av;generalize w3.alloc (.cells #[.slice none 0 0] 114)=w4 at*;have aG:Hid (DK pb [] [(pb,.cells #[.slice none 0 0] 114)]):=uh ⟨u_ _,none,0,[],rfl,Zb _ _⟩
 go_loopw [13] (fun az wr=>∃(i:Nat) (l:List Blk),i <= rs.length /\ az=iV i /\ VJ hb (Mc (rs.take i)) l /\ Turn [] w (l++((pb,.cells #[.slice none 0 0] 114)::(lw++a6))) wr) (fun az _=>rs.length-(intOf az).toNat)
 case atStart=>exact⟨0,b4,u_ _,by go_num,a9.out,af.out.perm po⟩
 case round=>
  clear a9 af;obtain⟨i,l,hi,rfl,Z,V⟩:=hrel;have bh:=(HQ.out wr V.below).2.1;have U:=uh V
  by_cases a5:i<rs.length
  · have au:(i:Int)<(rs.length:Int):=O
    obtain⟨x,J⟩:∃x,rs[i]?= some x:=⟨rs[i],a_ a5⟩;have G:=HR.out wr V.below;obtain⟨bo,oo,rfl,-⟩:=G.form (by rw[G8];omega);have q1:=G.cell64 J;have a0:=aR.out x (q_ J);have aC:=uh (j4 wr hb (rs.take i) (by rw[Qh];omega) (fun a ha=>aR.out a (List.mem_of_mem_take ha)) l ((pb,.cells #[.slice none 0 0] 114)::(lw++a6)) Z V.has x a0);have ak:=uh (by rw[Qr,J];rfl:rs.take (i+1)=rs.take i++[x]);clear G J a0 Z V
    go_wp2_with fail
    refine aC.out.mono ?_;rintro e w5 ⟨⟨r,rfl⟩,l',am,T'⟩;have HX:=uh (And.intro am (U.out.trans T'));clear am T' aC U
    go_wp2
    go_roundw
    case rel=>exact⟨i+1,l',by omega,by go_num,by rw[ak.out];exact HX.out.1,HX.out.2⟩
    case measure=>simp[intOf];omega
  · obtain rfl:i=rs.length:=O
    have aZ:¬((rs.length:Nat):Int)<(rs.length:Int):=O;have a9:=uh (by rw[D_]at Z;exact Z:VJ hb (Mc rs) l);have aj:=uh (ah.out wr V.below);have bg:=(HQ.out wr V.below).1;clear Z V ah HR
    go_wp2_with fail
    refine aj.out.mono ?_;rintro e w5 ⟨ka,kc,lk,rfl,ax,Tk⟩;have aL:=uh (U.out.grow Tk);have aS:=uh (by rw[←a7]at ax;exact ax:Gh 36 1 ka y.length kc (Gf y) lk);have be:y.length <= 60:=O;rw[←a7];clear a7;clear ax Tk U aj;have ae:=uh (fun u l' (V':Turn [] w (lk++l') u)=>aS.out.src (R:=l') V'.has);have aE:Hid (Turn [] w (lk++(lw++(a6++(l++[(pb,.cells #[.slice none 0 0] 114)])))) w5):=uh (aL.out.perm po);have b5:=uh (fun u (N:Below w.heap.size w u)=>(HQ.out u N).2.2);clear aL HQ
    go_wp2_with fail
    go_loopw [15] (fun Sk wr=>∃(i:Nat) (l1 l2:List Blk),i <= y.length /\ Sk=iV i /\ Js wb (NH (J9 (y.take i))) l1 /\ Uj kb (Mb (J9 (y.take i))) l2 /\ Turn [] w (lk++(l1++(l2++(l++[(pb,.cells #[.slice none 0 0] 114)])))) wr) (fun Sk _=>y.length-(intOf Sk).toNat)
    case atStart=>exact⟨0,lw,a6,u_ _,by go_num,aQ.out,a2.out,aE.out⟩
    case round=>
     clear aE aQ a2;obtain⟨i,l1,l2,hi,rfl,a1,M,V⟩:=hrel;have U:=uh V
     by_cases a5:i<y.length
     · have au:(i:Int)<(y.length:Int):=O
       obtain⟨x,J⟩:∃x,y[i]?= some x:=⟨y[i],a_ a5⟩;have G:=ae.out wr _ V;obtain⟨bo,oo,rfl,-⟩:=G.form (by rw[G8];omega);have q1:=G.cell64 J;have aX:=MJ y i
       by_cases a0:x=0
       · subst a0
         have Hz:=uh (R1 J);have HX:=uh (And.intro a1 M);clear G J a1 M V aX
         go_wp2_with (first
          | (go_at_call 47;refine(Af wr wb).mono ?_;rintro e w' ⟨rfl,hw⟩;rw[hw];clear hw w')
          | (go_at_call 48;refine(Z3 wr kb).mono ?_;rintro e w' ⟨rfl,hw⟩;rw[hw];clear hw w')
          | fail)
         go_roundw
         case rel=>exact⟨i+1,l1,l2,by omega,by go_num,by rw[Hz.out];exact HX.out.1,by rw[Hz.out];exact HX.out.2,U.out⟩
         case measure=>simp[intOf];omega
       · have Hm:=uh (R2 J a0)
         have aA:=uh (FW wr wb (J9 (y.take i)) O l1 (lk++(l2++(l++[(pb,.cells #[.slice none 0 0] 114)]))) a1 (V.perm po).has x a0);have aB:=uh (fun u a4 (V':Turn [] w (a4++(lk++(l2++(l++[(pb,.cells #[.slice none 0 0] 114)])))) u)=>j3 u kb (J9 (y.take i)) O (fun a ha=>(Nh a ha).1) l2 (lk++(a4++(l++[(pb,.cells #[.slice none 0 0] 114)]))) M (V'.perm po).has x a0);have aN:=uh (V.perm (l2:=l1++(lk++(l2++(l++[(pb,.cells #[.slice none 0 0] 114)])))) po);have aF:=uh (fun u l' (V':Turn [] w (lk++l') u)=>(ae.out u l' V').cell64 J);clear G J a0 a1 M V aX U
         go_wp2_with (first
          | (go_at_call 47;refine aA.out.mono ?_;rintro e w6 ⟨r,a4,rfl,ay,T6⟩;have aa:=uh (aN.out.trans T6);have ag:=uh ay;have q1:=aF.out w6 (a4++(l2++(l++[(pb,.cells #[.slice none 0 0] 114)]))) (aa.out.perm po);clear ay T6 aN aA aF)
          | (go_at_call 48;refine(aB.out _ _ aa.out).mono ?_;rintro e w7 ⟨⟨r2,rfl⟩,bc,an,T7⟩;have b7:=uh ((aa.out.perm (l2:=l2++(lk++(a4++(l++[(pb,.cells #[.slice none 0 0] 114)])))) po).trans T7);have a2:=uh an;clear an T7 aB aa)
          | fail)
         go_roundw
         case rel=>exact⟨i+1,a4,bc,by omega,by go_num,by rw[Hm.out];exact ag.out,by rw[Hm.out];exact a2.out,b7.out.perm po⟩
         case measure=>simp[intOf];omega
     · obtain rfl:i=y.length:=O
       have aZ:¬((y.length:Nat):Int)<(y.length:Int):=O;rw[UJ]at a1 M;have ag:=uh a1;have a2:=uh M;have aM:=uh ((U.out.perm (l2:=lk++(l1++(l2++(l++[(pb,.cells #[.slice none 0 0] 114)])))) po).drop);clear a1 M V U ae aS
       go_wp2_with fail
       go_loopw [16] (fun RN wr=>∃(i:Nat) (Lp:List Nat) (l3:List Blk),i <= E.length /\ RN=iV i /\ DK pb Lp l3 /\ Uk Lp (E.take i) /\ Turn [] w (l3++(l1++(l2++l))) wr) (fun RN _=>E.length-(intOf RN).toNat)
       case atStart=>exact⟨0,[],_,u_ _,by go_num,aG.out,Uk.nil,aM.out.perm po⟩
       case round=>
        clear aM aG;obtain⟨i,Lp,l3,hi,rfl,ac,a3,V⟩:=hrel;have bj:=(b5.out _ V.below);have U:=uh V;have a8:=a3.1;rw[Qh]at a8
        by_cases a5:i<E.length
        · have au:(i:Int)<(E.length:Int):=O
          obtain⟨x,J⟩:∃x,E[i]?= some x:=⟨E[i],a_ a5⟩;have G:=HP.out _ V.below;obtain⟨bo,oo,rfl,-⟩:=G.form (by rw[G8];omega);have q1:=G.cell64 J;have HA:=uh (g9 _ pb Lp O l3 (l1++(l2++l)) ac V.has x (b8.out x (q_ J)));have ab:=uh a3;have ak:=uh (by rw[Qr,J];rfl:E.take (i+1)=E.take i++[x]);clear G J V ac a3 a8
          go_wp2_with fail
          refine HA.out.mono ?_;rintro e w9 ⟨rfl,k,bd,N,aY,aW,ap,T9⟩;have HX:=uh (And.intro ap (And.intro (ab.out.put N aY aW) (U.out.trans T9)));clear aY aW N ap T9 HA U ab
          go_wp2
          go_roundw
          case rel=>exact⟨i+1,_,bd,by omega,by go_num,HX.out.1,by rw[ak.out];exact HX.out.2.1,HX.out.2.2⟩
          case measure=>simp[intOf];omega
        · obtain rfl:i=E.length:=O
          have aZ:¬((E.length:Nat):Int)<(E.length:Int):=O;rw[D_]at a3;have ab:=uh a3;have aH:=uh (ZM _ pb Lp l3 (l1++(l2++l)) ac V.has);clear V ac a3 a8
          go_wp2_with fail
          refine aH.out.mono ?_;rintro e w9 ⟨da,dc,lp,rfl,b2,T9⟩;have b6:=uh (((U.out.trans T9).perm (l2:=l3++(l1++(l++(l2++lp)))) po).drop);have b9:=uh b2;clear T9 b2 U aH
          go_wp2_with fail
          refine f_ (Vh rfl _ _ _) rfl ?_;exact⟨wb,hb,kb,da,dc,Lp,l1,l,l2,lp,rfl,ag.out,a9.out,a2.out,ab.out,b9.out,b6.out⟩
theorem PV (w:World)(n:Nat)(hn:n <= 1000):Calls prog 13 #[iV n] w fun e w'=>∃(b:Nat) (l:List Blk),e=.returned (.tuple #[pt b,iV 0]) /\ (∀u,Has u l -> XA u (some (aD b 0)) n) /\ Turn [] w l w':=by
 have Z:=(r_ (C_ w)).alloc (.cells #[.pointer none,.pointer none,iV n] 121);have HB:=uh (fun u=>gV u n O);obtain⟨b,hb⟩:∃b,w.heap.size=b:=⟨_,rfl⟩;rw[hb]at Z;have HT:=uh Z;clear Z
 go_enter func13,ntmps13
 go_wp2_with fail
 try rw[hb]
 clear hb;generalize w.alloc (.cells #[.pointer none,.pointer none,iV n] 121)=wa at*
 have N:=uh (fun(k:Nat) (h:k<2) (r y v:Value)=>(by
  obtain rfl|rfl:k=0∨k=1:=O
  ·exact⟨(iV 0:Value),v,y,rfl,r,rfl⟩
  ·exact⟨(iV 0:Value),r,v,rfl,y,rfl⟩:∃(_:Value) (J M:Value),(#[r,y,iV n]:Array Value).setIfInBounds k v=#[J,M,iV n] /\ ∃u,(#[r,y,iV n]:Array Value)[k]?= some u))
 go_loopw [5,6,7,11] (fun v5 v6 v7 G wr=>∃(k:Nat) (r y:Value) (l:List Blk),k <= 2 /\ G=iV k /\ Turn [] w ((b,.cells #[r,y,iV n] 121)::l) wr) (fun _ _ _ G _=>2-(intOf G).toNat)
 case atStart=>exact⟨0,_,_,_,u_ _,by go_num,HT.out⟩
 case round=>
  clear HT;obtain⟨k,r,y,l,hk,rfl,V⟩:=hrel;have U:=uh V;clear V
  by_cases a1:k<2
  · have a2:(k:Int)<2:=O
    go_wp2_with (first
     | (go_at_call 51;refine(HB.out _).mono ?_;rintro e w1 ⟨bb,lb,rfl,-,T1⟩;go_loud (have E:=uh ((U.out.grow T1).perm (l2:=(b,.cells #[r,y,iV n] 121)::(l++lb)) po);obtain⟨-,J,M,hy,u,hu⟩:=N.out k a1 r y (pt bb);have q5:=(E.out.cell1 k).trans hu;have f5:=E.out.free1 k;have a0:=uh (by have h:=E.out.setCell k (pt bb);rw[hy]at h;exact h:Turn [] w ((b,.cells #[J,M,iV n] 121)::(l++lb)) (w1.setCell (aD b k) (pt bb)));clear T1 hy hu U E))
     | fail)
    go_roundw
    case rel=>exact⟨k+1,J,M,l++lb,by omega,by go_num,a0.out⟩
    case measure=>simp[intOf];omega
  · have a3:¬(k:Int)<2:=O
    go_wp2
    refine f_ (E_ rfl _ _ _) rfl ?_;exact⟨b,rfl,_,fun u h=>.inr ⟨b,n,rfl,rfl,by omega,h.cell (b:=b) (c:=#[r,y,iV n]) (e:=121) (f:=(0,0)) (by simp) 2⟩,U.out⟩
end
section
open Go Go.RowKit Go.Shelf Go.IntWalk
theorem g1 (w:World)(ht:Ug w)(k:Nat)(hk:k<256)(at_ E:Int)(y:Nat)(r:Int)(h0: -9223372036854775808 <= at_)(h1:at_ <= 9223372036854775807)(h2: -9223372036854775808 <= E)(h3:E <= 9223372036854775807)(h4:y<18446744073709551616)(h5: -9223372036854775808 <= r)(h6:r <= 9223372036854775807):
  Calls prog 10 #[.agg #[yV k,iV at_,iV E,uV y,iV r]] w fun e w'=>e=.returned (.string ⟨(Ms k at_ E y r).toArray⟩) /\ Below w.heap.size w w':=by
 have a5:=uh (Lib.tabBelow_of_tabIs ht)
 have T1:Turn [] w ((w.heap.size+1,.cells #[.string ⟨#[63]⟩,.string ⟨#[99,101,108,108]⟩,.string ⟨#[114,101,102]⟩,.string ⟨#[104,97,110,100]⟩,.string ⟨#[112,105,110]⟩,.string ⟨#[119,101,97,107]⟩,.string ⟨#[98,108,97,99,107]⟩,.string ⟨#[103,97,112]⟩] 9)::(w.heap.size,.cells #[yV k,iV at_,iV E,uV y,iV r] 39)::[]) ((w.alloc (.cells #[yV k,iV at_,iV E,uV y,iV r] 39)).alloc (.cells #[.string ⟨#[63]⟩,.string ⟨#[99,101,108,108]⟩,.string ⟨#[114,101,102]⟩,.string ⟨#[104,97,110,100]⟩,.string ⟨#[112,105,110]⟩,.string ⟨#[119,101,97,107]⟩,.string ⟨#[98,108,97,99,107]⟩,.string ⟨#[103,97,112]⟩] 9)):=by
  have h:=((r_ (C_ w)).alloc (.cells #[yV k,iV at_,iV E,uV y,iV r] 39)).alloc (.cells #[.string ⟨#[63]⟩,.string ⟨#[99,101,108,108]⟩,.string ⟨#[114,101,102]⟩,.string ⟨#[104,97,110,100]⟩,.string ⟨#[112,105,110]⟩,.string ⟨#[119,101,97,107]⟩,.string ⟨#[98,108,97,99,107]⟩,.string ⟨#[103,97,112]⟩] 9);simp only[Y_]at h;exact h
 have J:=uh T1;clear ht T1
 go_enter func10,ntmps10
 go_upto_if 11 with fail
 generalize(w.alloc (.cells #[yV k,iV at_,iV E,uV y,iV r] 39)).alloc (.cells #[.string ⟨#[63]⟩,.string ⟨#[99,101,108,108]⟩,.string ⟨#[114,101,102]⟩,.string ⟨#[104,97,110,100]⟩,.string ⟨#[112,105,110]⟩,.string ⟨#[119,101,97,107]⟩,.string ⟨#[98,108,97,99,107]⟩,.string ⟨#[103,97,112]⟩] 9)=W1 at*;have Ht:=uh (a5.out W1 J.out.below);generalize w.heap.size=M at*
 go_cut [4]from 10 (fun v4 wc=>v4=.string ⟨(KC k).toArray⟩ /\ wc=W1)
 case first=>
  have aa:W1.cell? (aD M 0)=some (yV k):=J.out.has.cell (b:=M) (c:=#[yV k,iV at_,iV E,uV y,iV r]) (e:=39) (f:=(0,0)) (by simp) 0;have hc:=fun j=>J.out.has.cell (b:=M+1) (c:=#[.string ⟨#[63]⟩,.string ⟨#[99,101,108,108]⟩,.string ⟨#[114,101,102]⟩,.string ⟨#[104,97,110,100]⟩,.string ⟨#[112,105,110]⟩,.string ⟨#[119,101,97,107]⟩,.string ⟨#[98,108,97,99,107]⟩,.string ⟨#[103,97,112]⟩]) (e:=9) (f:=(0,0)) (by simp) j
  by_cases a9:k<8
  · have a7:(k:Int)<8:=O
    have ab:W1.cell? (aD (M+1) k)=some (.string ⟨(KC k).toArray⟩):=by
     rw[hc k];obtain rfl|rfl|rfl|rfl|rfl|rfl|rfl|rfl:k=0∨k=1∨k=2∨k=3∨k=4∨k=5∨k=6∨k=7:=O
     all_goals rfl
    clear hc
    go_wp2_with fail
    go_meet
    case rel=>exact⟨rfl,rfl⟩
  · have a7:¬(k:Int)<8:=O
    have a6:KC k=[63]:=by
     unfold KC Vr
     match k,a9 with
     | k+8,_=>simp
    have HK:=uh a6;clear hc a6
    go_wp2_with fail
    go_meet
    case rel=>exact⟨by rw[HK.out],rfl⟩
 case rest=>
  obtain⟨rfl,rfl⟩:=hcut
  go_wp2_with fail
  have HL:=uh (fun u (hk:Below wc.heap.size wc u)=>(⟨(hk.cell (p:=(aD M 1)) (c_ wc _ (J.out.has.cell (b:=M) (c:=#[yV k,iV at_,iV E,uV y,iV r]) (e:=39) (f:=(0,0)) (by simp) 1))).trans (J.out.has.cell (b:=M) (c:=#[yV k,iV at_,iV E,uV y,iV r]) (e:=39) (f:=(0,0)) (by simp) 1),(hk.cell (p:=(aD M 2)) (c_ wc _ (J.out.has.cell (b:=M) (c:=#[yV k,iV at_,iV E,uV y,iV r]) (e:=39) (f:=(0,0)) (by simp) 2))).trans (J.out.has.cell (b:=M) (c:=#[yV k,iV at_,iV E,uV y,iV r]) (e:=39) (f:=(0,0)) (by simp) 2),(hk.cell (p:=(aD M 3)) (c_ wc _ (J.out.has.cell (b:=M) (c:=#[yV k,iV at_,iV E,uV y,iV r]) (e:=39) (f:=(0,0)) (by simp) 3))).trans (J.out.has.cell (b:=M) (c:=#[yV k,iV at_,iV E,uV y,iV r]) (e:=39) (f:=(0,0)) (by simp) 3),(hk.cell (p:=(aD M 4)) (c_ wc _ (J.out.has.cell (b:=M) (c:=#[yV k,iV at_,iV E,uV y,iV r]) (e:=39) (f:=(0,0)) (by simp) 4))).trans (J.out.has.cell (b:=M) (c:=#[yV k,iV at_,iV E,uV y,iV r]) (e:=39) (f:=(0,0)) (by simp) 4)⟩:u.cell? (aD M 1)=some (iV at_) /\ u.cell? (aD M 2)=some (iV E) /\ u.cell? (aD M 3)=some (uV y) /\ u.cell? (aD M 4)=some (iV r)))
  have HB:=uh J.out.below;have a4:=uh (Lib.tabBelow_of_tabIs Ht.out);clear J Ht a5;have G:Below wc.heap.size wc wc.drew:=(r_ (C_ wc)).drew.below;refine F_ ?_;refine rG (S:=fun u=>Below wc.heap.size wc u) 22 ?_;generalize wc.drew=u0 at*;refine G2 0 17 G ?_;have N:¬9223372036854775807<(KC k).length+1:=by have:=RY k;omega
  refine G2 1 18 G ?_;clear N;obtain⟨s1,e1⟩:∃s,s=KC k++[32]:=⟨_,rfl⟩;have ac:s1.length <= 6:=by rw[e1,e_];simp only[Xx];have:=RY k;omega
  rw[show(⟨(KC k).toArray⟩:ByteArray)++⟨#[32]⟩=⟨s1.toArray⟩from by rw[e1];exact Nn (KC k) ([32])];have E1:=uh e1;clear e1;refine G2 2 19 G ?_;refine Jt 3 20 G (fun w a2=>(HL.out w a2).1) ?_;refine G2 7 24 G ?_;refine Jt 8 25 G (fun w a2=>(HL.out w a2).2.1) ?_;refine G2 12 29 G ?_;refine Jt 13 30 G (fun w a2=>(HL.out w a2).2.2.1) ?_;refine G2 17 34 G ?_;refine Jt 18 35 G (fun w a2=>(HL.out w a2).2.2.2) ?_;clear HL;refine G5 4 (fun K V=>?_)
  go_simp
  refine((Uu u0 (r_ (C_ _)) (a4.out _ G) at_ h0 h1).mono (fun e w9 ⟨k1,k2⟩=>(⟨k1,k2.below⟩:e=Ending.returned (Value.string ⟨(Lib.itoa at_).toArray⟩) /\ Below u0.heap.size u0 w9))).mono ?_;rintro e u1 ⟨rfl,U⟩;have Z:=G.trans (U.mono G.size);clear U G;refine V.out _ _ Z fun _=>?_;clear V K;simp only[Gb,G7,G6];have N:¬9223372036854775807<(s1).length+(Lib.itoa at_).length:=by have:=Lc at_ h0 h1;omega
  refine G2 5 22 Z ?_;clear N;obtain⟨s2,e2⟩:∃s,s=s1++Lib.itoa at_:=⟨_,rfl⟩;have ae:s2.length <= 30:=by rw[e2,e_];have:=Lc at_ h0 h1;omega
  rw[show(⟨(s1).toArray⟩:ByteArray)++⟨(Lib.itoa at_).toArray⟩=⟨s2.toArray⟩from by rw[e2];exact Nn (s1) (Lib.itoa at_)];have E2:=uh e2;clear e2;have N:¬9223372036854775807<(s2).length+1:=O;refine G2 6 23 Z ?_;clear N;obtain⟨s3,e3⟩:∃s,s=s2++[32]:=⟨_,rfl⟩;have af:s3.length <= 31:=by rw[e3,e_];simp only[Xx];omega
  rw[show(⟨(s2).toArray⟩:ByteArray)++⟨#[32]⟩=⟨s3.toArray⟩from by rw[e3];exact Nn (s2) ([32])];have E3:=uh e3;clear e3;refine G5 9 (fun K V=>?_)
  go_simp
  refine((Uu u1 (r_ (C_ _)) (a4.out _ Z) E h2 h3).mono (fun e w9 ⟨k1,k2⟩=>(⟨k1,k2.below⟩:e=Ending.returned (Value.string ⟨(Lib.itoa E).toArray⟩) /\ Below u1.heap.size u1 w9))).mono ?_;rintro e u2 ⟨rfl,U⟩;have a0:=Z.trans (U.mono Z.size);clear U Z;refine V.out _ _ a0 fun _=>?_;clear V K;simp only[Gb,G7,G6];have N:¬9223372036854775807<(s3).length+(Lib.itoa E).length:=by have:=Lc E h2 h3;omega
  refine G2 10 27 a0 ?_;clear N;obtain⟨s4,e4⟩:∃s,s=s3++Lib.itoa E:=⟨_,rfl⟩;have ag:s4.length <= 60:=by rw[e4,e_];have:=Lc E h2 h3;omega
  rw[show(⟨(s3).toArray⟩:ByteArray)++⟨(Lib.itoa E).toArray⟩=⟨s4.toArray⟩from by rw[e4];exact Nn (s3) (Lib.itoa E)];have E4:=uh e4;clear e4;have N:¬9223372036854775807<(s4).length+1:=O;refine G2 11 28 a0 ?_;clear N;obtain⟨s5,e5⟩:∃s,s=s4++[32]:=⟨_,rfl⟩;have ah:s5.length <= 61:=by rw[e5,e_];simp only[Xx];omega
  rw[show(⟨(s4).toArray⟩:ByteArray)++⟨#[32]⟩=⟨s5.toArray⟩from by rw[e5];exact Nn (s4) ([32])];have E5:=uh e5;clear e5;refine G5 14 (fun K V=>?_)
  go_simp
  refine(FJ y h4 u2 (a4.out _ a0)).mono ?_;rintro e u3 ⟨rfl,U⟩;have a1:=a0.trans (U.mono a0.size);clear U a0;refine V.out _ _ a1 fun _=>?_;clear V K;simp only[Gb,G7,G6];have N:¬9223372036854775807<(s5).length+(Lib.decDigits y).length:=by have:=KW y h4;omega
  refine G2 15 32 a1 ?_;clear N;obtain⟨s6,e6⟩:∃s,s=s5++Lib.decDigits y:=⟨_,rfl⟩;have aj:s6.length <= 90:=by rw[e6,e_];have:=KW y h4;omega
  rw[show(⟨(s5).toArray⟩:ByteArray)++⟨(Lib.decDigits y).toArray⟩=⟨s6.toArray⟩from by rw[e6];exact Nn (s5) (Lib.decDigits y)];have E6:=uh e6;clear e6;have N:¬9223372036854775807<(s6).length+1:=O;refine G2 16 33 a1 ?_;clear N;obtain⟨s7,e7⟩:∃s,s=s6++[32]:=⟨_,rfl⟩;have ak:s7.length <= 91:=by rw[e7,e_];simp only[Xx];omega
  rw[show(⟨(s6).toArray⟩:ByteArray)++⟨#[32]⟩=⟨s7.toArray⟩from by rw[e7];exact Nn (s6) ([32])];have E7:=uh e7;clear e7;refine G5 19 (fun K V=>?_)
  go_simp
  refine((Uu u3 (r_ (C_ _)) (a4.out _ a1) r h5 h6).mono (fun e w9 ⟨k1,k2⟩=>(⟨k1,k2.below⟩:e=Ending.returned (Value.string ⟨(Lib.itoa r).toArray⟩) /\ Below u3.heap.size u3 w9))).mono ?_;rintro e u4 ⟨rfl,U⟩;have a3:=a1.trans (U.mono a1.size);clear U a1;refine V.out _ _ a3 fun _=>?_;clear V K;simp only[Gb,G7,G6];have N:¬9223372036854775807<(s7).length+(Lib.itoa r).length:=by have:=Lc r h5 h6;omega
  refine G2 20 37 a3 ?_;clear N;obtain⟨s8,e8⟩:∃s,s=s7++Lib.itoa r:=⟨_,rfl⟩;have am:s8.length <= 120:=by rw[e8,e_];have:=Lc r h5 h6;omega
  rw[show(⟨(s7).toArray⟩:ByteArray)++⟨(Lib.itoa r).toArray⟩=⟨s8.toArray⟩from by rw[e8];exact Nn (s7) (Lib.itoa r)];have E8:=uh e8;clear e8;refine G2 21 2 a3 ?_;refine P_ kr ?_ _;refine z_ ?_;have a8:=uh a3;clear a3
  go_wp2_with fail
  go_ret;exact⟨by rw[E8.out,E7.out,E6.out,E5.out,E4.out,E3.out,E2.out,E1.out];unfold Ms;simp[Lib.join],HB.out.trans (a8.out.mono HB.out.size)⟩
end
section
open Go Go.RowKit Go.IntWalk
theorem Em {a b:List Br}(h:a.length=b.length):a=b↔∀i,i<a.length -> a[i]?= b[i]? :=by
 constructor
 ·rintro rfl i _;rfl
 · intro y
   apply Xq
   intro i
   by_cases r:i<a.length
   ·exact y i r
   ·rw[Qb O,Qb O]
theorem Pg (w:World)(r lb:List Br)(ao:Option Addr)(a1:Nat)(bo:Option Addr)(a2:Nat)(hA:Src w ao r.length a1 5 (Nm r))(hB:Src w bo lb.length a2 5 (Nm lb))(hl:r.length <= 4294967296)(_hl2:lb.length <= 4294967296):
  Calls prog 19 #[.slice ao r.length a1,.slice bo lb.length a2] w fun e w'=>e=.returned (.bool (decide (r=lb))) /\ Below w.heap.size w w':=by
 have HA:=uh (fun(h:0<r.length)=>hA.form (by rw[Rc];omega));have a6:=uh (fun w' (hk:Below w.heap.size w w')=>hA.below hk);have HB:=uh (fun(h:0<lb.length)=>hB.form (by rw[Rc];omega));have a7:=uh (fun w' (hk:Below w.heap.size w w')=>hB.below hk);have hT:=uh (r_ (C_ w));have M:=Ns;clear hA hB
 by_cases G:r.length=lb.length
 · have a5:=uh (Em G)
   have HL:=uh G;have k1:((r.length:Int) != (lb.length:Int))=false:=(by rw[Xm];omega);have k2:(r.length != lb.length)=false:=(by rw[Xm];exact G);clear G
   go_enter func19,ntmps19
   go_wp2_with fail
   go_loopw [5] (fun v5 wr=>∃i:Nat,i <= r.length /\ v5=iV i /\ (∀j,j<i -> r[j]?= lb[j]?) /\ Turn [] w [] wr) (fun v5 _=>r.length-(intOf v5).toNat)
   case atStart=>exact⟨0,u_ _,by go_num,(fun j hj=>absurd hj (Jn _)),hT.out⟩
   case round=>
    clear hT;obtain⟨i,hi,rfl,Z,T⟩:=hrel;have a8:=HL.out
    by_cases a9:i<r.length
    · have aa:(i:Int)<(r.length:Int):=O
      have ab:(i:Int)<(lb.length:Int):=O;obtain⟨x,hx⟩:∃x,r[i]?= some x:=⟨r[i],a_ a9⟩;obtain⟨y,hy⟩:∃y,lb[i]?= some y:=⟨lb[i]'O,a_ _⟩;obtain⟨b,off,rfl,-⟩:=HA.out O;obtain⟨b',U,rfl,-⟩:=HB.out O;have V:=uh (fun u (hk:Below wr.heap.size wr u)=>(⟨Src.fm (f:=Mh) (fun _=>rfl) (a6.out u (T.below.trans (hk.mono T.size))) hx,Src.fm (f:=Mh) (fun _=>rfl) (a7.out u (T.below.trans (hk.mono T.size))) hy⟩:u.rangeAt b (off+i*5) [yV x.1,iV x.2.1,iV x.2.2.1,uV x.2.2.2.1,iV x.2.2.2.2] /\ u.rangeAt b' (U+i*5) [yV y.1,iV y.2.1,iV y.2.2.1,uV y.2.2.2.1,iV y.2.2.2.2]));have HT:=uh T;have HE:=uh Z;have HV:=uh hx;have HU:=uh hy;clear T Z a8 hx hy
      by_cases a4:x=y
      · subst a4
        go_upto_region 6 with fail
        have E:Below wr.heap.size wr wr.drew:=(r_ (C_ wr)).drew.below;refine F_ ?_;refine rG (S:=fun u=>Below wr.heap.size wr u) 9 ?_;have N:=E;generalize wr.drew=u0 at*;refine G2 0 17 E ?_;refine G2 1 18 E ?_;refine G2 2 19 E ?_;refine XM 3 20 E (fun w J=>Xa 39 _ rfl b (off+i*5) rfl [yV x.1,iV x.2.1,iV x.2.2.1,uV x.2.2.2.1,iV x.2.2.2.2] _ (V.out w J).1 underlying39 rfl M) ?_;refine G2 4 21 E ?_;refine G2 5 22 E ?_;refine G2 6 23 E ?_;refine XM 7 24 E (fun w J=>Xa 39 _ rfl b' (U+i*5) rfl [yV x.1,iV x.2.1,iV x.2.2.1,uV x.2.2.2.1,iV x.2.2.2.2] _ (V.out w J).2 underlying39 rfl M) ?_;refine G2 8 25 E ?_;refine P_ kr ?_ _;refine z_ ?_;clear E;have a0:=uh N;clear N
        go_wp2_with fail
        go_roundw
        case rel=>exact⟨i+1,by omega,by go_num,(fun j hj=>by
         by_cases h:j<i
         ·exact HE.out j h
         ·rw[show j=i by omega,HV.out,HU.out]),Ze (C_ w) (HT.out.below.trans (a0.out.mono HT.out.size))⟩
        case measure=>simp[intOf];omega
      · have a3:¬r=lb:=fun h=>by
          have h1:=HV.out;rw[h,HU.out]at h1
          cases h1
          exact a4 rfl
        go_upto_region 6 with fail
        have E:Below wr.heap.size wr wr.drew:=(r_ (C_ wr)).drew.below;refine F_ ?_;refine rG (S:=fun u=>Below wr.heap.size wr u) 9 ?_;have N:=E;generalize wr.drew=u0 at*;refine G2 0 17 E ?_;refine G2 1 18 E ?_;refine G2 2 19 E ?_;refine XM 3 20 E (fun w J=>Xa 39 _ rfl b (off+i*5) rfl [yV x.1,iV x.2.1,iV x.2.2.1,uV x.2.2.2.1,iV x.2.2.2.2] _ (V.out w J).1 underlying39 rfl M) ?_;refine G2 4 21 E ?_;refine G2 5 22 E ?_;refine G2 6 23 E ?_;refine XM 7 24 E (fun w J=>Xa 39 _ rfl b' (U+i*5) rfl [yV y.1,iV y.2.1,iV y.2.2.1,uV y.2.2.2.1,iV y.2.2.2.2] _ (V.out w J).2 underlying39 rfl M) ?_
        refine N8 (v:=.bool true) 8 25 rfl rfl (by rfl) kr kr kr (fun _ _ _ _ h=>h) E (by
         intro w J;clear J
         go_simp
         exact fun h0 h1 h2 h3 h4=>a4 (Prod.ext O (Prod.ext O (Prod.ext O (Prod.ext O O))))) ?_
        simp only[G7,G6];refine P_ kr ?_ _;refine z_ ?_;clear E;have a0:=uh N;clear N
        go_wp2_with fail
        go_ret;exact⟨by rw[b_ a3];rfl,HT.out.below.trans (a0.out.mono HT.out.size)⟩
    · obtain rfl:i=r.length:=O
      have ac:¬((r.length:Nat):Int)<(r.length:Int):=O;have he:=uh (show r=lb from a5.out.2 Z);have HT:=uh T;clear T Z
      go_wp2_with fail
      go_ret;exact⟨by rw[k_ he.out];rfl,HT.out.below⟩
 · have k1:((r.length:Int) != (lb.length:Int))=true:=by rw[Qe];omega
   have k2:(r.length != lb.length)=true:=(by rw[Qe];exact G);have a3:¬r=lb:=fun h=>G (by rw[h]);clear G
   go_enter func19,ntmps19
   go_wp2_with fail
   go_ret;exact⟨by rw[b_ a3];rfl,hT.out.below⟩
end
section
open Go Go.RowKit Go.ChangeShapes Go.WideShapes Go.ChangeAt Go.Deep
theorem YU:prog.cellsOf 26= 6:=by kernel_rfl
theorem B6:prog.cellsOf 36= 1:=by kernel_rfl
theorem B8:prog.cellsOf 22= 1:=by kernel_rfl
theorem B7:prog.cellsOf 23= 1:=by kernel_rfl
theorem S0:prog.cellsOf 24= 1:=by kernel_rfl
section
variable {H:Type} {enc:TypeId×Value -> H} {w:World}
theorem open_words {u:Value}{N:Nat}{x:DataW H×List MemPlace}(h:DataW.trod enc prog w 0 (fun _=>true) true N 24 [u]=some x):
  ∃(xs:List Nat) (ao:Option Addr) (cap:Nat),u=.slice ao xs.length cap /\ Src w ao xs.length cap 1 (Gf xs) /\ xs.length <= maxLen /\ ∀v∈xs,v<18446744073709551616:=by
 rcases open_ints underlying24 underlying36 B6 h with⟨G,-⟩|⟨a5,J,V,E,G,-,a6,a7,a4,hy,a0,a2⟩
 · obtain rfl:=Ja.1 G
   exact⟨[],none,0,rfl,⟨rfl,(fun _=>⟨rfl,rfl⟩),(fun ad h=>by cases h)⟩,u_ _,(fun _ h=>by cases h)⟩
 · obtain rfl:=Ja.1 G
   simp only[if_true]at a4
   have hb:∀z∈E,0 <= z /\ z<18446744073709551616:=fun z y=>by
    have:=bounds_u64 (a2 z y);omega
   have r:((E.take J).map Int.toNat).length=J:=(by rw[n_,Qh];omega);refine⟨(E.take J).map Int.toNat,some a5,V,by rw[r],⟨by simp[Gf],(fun h=>by cases h),fun ad Z j u U=>?_⟩,by rw[r];omega,fun v G=>?_⟩
   · cases Z
     have a1:j<J:=by
      have:=(m_.1 U).1
      rwa [G8,r]at this
     have M:j<E.length:=O;rw[a0 j M];obtain⟨z,y⟩:∃z,E[j]?= some z:=⟨E[j],a_ M⟩;have a3:((E.take J).map Int.toNat)[j]?= some z.toNat:=(by rw[G_,Xr a1,y];rfl);rw[JL a3]at U
     cases U
     have h0:=(hb z (q_ y)).1;rw[M_,y]
     show some (Value.int .u64 z)=some (Value.int .u64 (z.toNat:Int))
     rw[Yx h0]
   · obtain⟨z,y,rfl⟩:=U_.1 G
     have:=hb z (List.mem_of_mem_take y);omega
theorem YJ {u:Value}{r:Nat}{x:DataW H×List MemPlace}(h:DataW.trod enc prog w 0 (fun _=>true) true r 22 [u]=some x):∃ao len cap,u=.slice ao len cap:=by
 rcases DataW.trod_slice underlying22 h with⟨y,-⟩|⟨a,len,cap,E,rest,n,-,y,-⟩
 ·exact⟨_,_,_,Ja.1 y⟩
 ·exact⟨_,_,_,Ja.1 y⟩
theorem YK {u:Value}{r:Nat}{x:DataW H×List MemPlace}(h:DataW.trod enc prog w 0 (fun _=>true) true r 23 [u]=some x):∃ao len cap,u=.slice ao len cap:=by
 rcases DataW.trod_slice underlying23 h with⟨y,-⟩|⟨a,len,cap,E,rest,n,-,y,-⟩
 ·exact⟨_,_,_,Ja.1 y⟩
 ·exact⟨_,_,_,Ja.1 y⟩
theorem Pu {cs:List Value}{o:Nat}(h:o<cs.length):∃u,(cs.drop o).take 1=[u] /\ cs[o]?= some u:=by
 refine⟨cs[o],?_,a_ h⟩
 rw[List.drop_eq_getElem_cons h]
 rfl
theorem open_case {r:Reach}{b0:Nat}{v:Value}{d:DataW H}{p:List MemPlace}(U:Value.okWide prog w r b0 26 v)
  (h:DataW.Trod enc prog w 0 (fun _=>true) true 26 v d p)(hw:∀n∈d.weights prog 26,n <= reachBytes):
  ∃(n:Int) (L:List Ty) (lao J ka ha pa:Option Addr) (lcap E kc hc pc:Nat) (Z:List Stp) (V N pl:List Nat),v=.agg #[.int .i64 n,.slice lao L.length lcap,.slice J Z.length E,.slice ka V.length kc,.slice ha N.length hc,.slice pa pl.length pc] /\
   (∀t∈L,TyIn t) /\ Src w lao L.length lcap 3 (tys L) /\ L.length <= maxLen /\ Src w J Z.length E 6 (DH Z) /\ Z.length <= maxLen /\ (∀s∈Z,s.w<18446744073709551616 /\ Src w s.ao s.ats.length s.cap 1 (M9 s.ats) /\ s.ats.length <= 17592186044416) /\
   (Src w ka V.length kc 1 (Gf V) /\ V.length <= maxLen /\ ∀v∈V,v<18446744073709551616) /\ (Src w ha N.length hc 1 (Gf N) /\ N.length <= maxLen /\ ∀v∈N,v<18446744073709551616) /\ (Src w pa pl.length pc 1 (Gf pl) /\ pl.length <= maxLen /\ ∀v∈pl,v<18446744073709551616):=by
 unfold Value.okWide at U;rw[underlying26]at U;obtain⟨cs,rfl,-,-⟩:=U;obtain⟨aq,a6⟩:=h;have ah:(Value.agg cs).cells=cs:=by simp[Value.cells]
 rw[ah]at a6;obtain⟨M,n',-,hd,a7,ap,hf⟩:=DataW.trod_struct underlying26 a6;rw[YU]at a7;simp only[Prod.mk.injEq]at hd;obtain⟨rfl,-⟩:=hd;have au:M.length=6:=ap
 have G:∀j,j<6 -> ∃u y,(cs.toList.drop j).take 1=[u] /\ cs.toList[j]?= some u /\ M[j]?= some y:=fun j hj=>by
  obtain⟨u,h1,h2⟩:=Pu (cs:=cs.toList) (o:=j) O;exact⟨u,M[j]'O,h1,h2,a_ _⟩
 obtain⟨u0,y0,a0,a8,c0⟩:=G 0 (by decide);obtain⟨u1,y1,a1,a9,c1⟩:=G 1 (by decide);obtain⟨u2,y2,a2,aa,c2⟩:=G 2 (by decide);obtain⟨u3,y3,a3,ab,c3⟩:=G 3 (by decide);obtain⟨u4,y4,a4,ac,c4⟩:=G 4 (by decide);obtain⟨u5,y5,a5,ae,c5⟩:=G 5 (by decide);have t0:DataW.trod enc prog w 0 (fun _=>true) true n' 3 ((cs.toList.drop 0).take (prog.cellsOf 3))=M[0]? :=hf 0 _ rfl;have t1:DataW.trod enc prog w 0 (fun _=>true) true n' 22 ((cs.toList.drop 1).take (prog.cellsOf 22))=M[1]? :=hf 1 _ rfl;have t2:DataW.trod enc prog w 0 (fun _=>true) true n' 23 ((cs.toList.drop 2).take (prog.cellsOf 23))=M[2]? :=hf 2 _ rfl;have t3:DataW.trod enc prog w 0 (fun _=>true) true n' 24 ((cs.toList.drop 3).take (prog.cellsOf 24))=M[3]? :=hf 3 _ rfl;have t4:DataW.trod enc prog w 0 (fun _=>true) true n' 24 ((cs.toList.drop 4).take (prog.cellsOf 24))=M[4]? :=hf 4 _ rfl;have t5:DataW.trod enc prog w 0 (fun _=>true) true n' 24 ((cs.toList.drop 5).take (prog.cellsOf 24))=M[5]? :=hf 5 _ rfl;rw[U5,a0,c0]at t0;rw[B8,a1,c1]at t1;rw[B7,a2,c2]at t2;rw[S0,a3,c3]at t3;rw[S0,a4,c4]at t4;rw[S0,a5,c5]at t5;obtain⟨n,hn,-,-⟩:=DataW.trod_int underlying3 t0;obtain rfl:=Ja.1 hn;obtain⟨lao,ln,lcap,rfl⟩:=YJ t1;obtain⟨J,sn,E,rfl⟩:=YK t2
 have k1:(Value.cells (.slice lao ln lcap)).toList=[.slice lao ln lcap]:=by simp[Value.cells]
 have k2:(Value.cells (.slice J sn E)).toList=[.slice J sn E]:=by simp[Value.cells]
 rw[←k1]at t1;rw[←k2]at t2;obtain⟨L,ag,hS,rfl,ak,am⟩:=Y3 (d:=y1.1) (p:=y1.2) t1
 obtain⟨Z,af,rfl,an,aj⟩:=Wy (d:=y2.1) (p:=y2.2) t2 (fun k hk=>hw k (by
  simp only[DataW.weights,underlying26];exact DataW.weights_mem_each (j:=2) (t:=23) (d:=y2.1) rfl (by rw[G_,c2];rfl) _ hk))
 obtain⟨V,ka,kc,rfl,hk⟩:=open_words t3;obtain⟨N,ha,hc,rfl,hh⟩:=open_words t4;obtain⟨pl,pa,pc,rfl,hp⟩:=open_words t5;refine⟨n,L,lao,J,ka,ha,pa,lcap,E,kc,hc,pc,Z,V,N,pl,?_,ag,hS,Qf ak am,af,an,aj,hk,hh,hp⟩
 congr 1
 refine Array.ext' (Xq fun j=>?_)
 match j with
 | 0=>exact a8
 | 1=>exact a9
 | 2=>exact aa
 | 3=>exact ab
 | 4=>exact ac
 | 5=>exact ae
 | j+6=>
  rw[Qb O]
  rfl
end
end
section
open Go Go.RowKit Go.ChangeShapes Go.WideShapes Go.ChangeAt Go.Deep
abbrev j6:=Int×Nat
def Vd (x:j6):List Value:=[.int .i64 x.1,.int .u64 x.2]
def ju (l:List j6):List Value:=l.flatMap Vd
theorem X2:prog.cellsOf 64= 2:=by kernel_rfl
theorem VE:prog.cellsOf 39= 5:=by kernel_rfl
theorem Src.of {α:Type}{f:α -> List Value}{sz:Nat}(r:∀a,(f a).length=sz)(M:0<sz){w:World}{a:Addr}{cap:Nat}{L:List α}(h:∀k x,L[k]?= some x -> ∀j v,(f x)[j]?= some v -> w.cell? (a.add (k*sz+j))=some v):Src w (some a) L.length cap sz (L.flatMap f):=by
 refine⟨LL r L,fun h=>(by cases h),fun ad E j u y=>?_⟩
 cases E
 have J:j<L.length*sz:=by rw[←LL r L];exact(m_.1 y).1
 have G:j=j/sz*sz+j%sz:=(Nat.div_add_mod' j sz).symm;have N:j%sz<sz:=Nat.mod_lt _ M;have hd:j/sz<L.length:=by rw[Nat.div_lt_iff_lt_mul M];exact J
 rw[G,TC r _ _ _ N,a_ hd]at y;rw[G];exact h _ _ (a_ hd) _ _ y
section
variable {H:Type} {enc:TypeId×Value -> H} {w:World}
theorem open_spoils {u:Value}{J:Nat}{d:DataW H}{p:List MemPlace}(hu:∃ao len cap,u=.slice ao len cap)
  (h:DataW.trod enc prog w 0 (fun _=>true) true J 27 u.cells.toList=some (d,p)):
  ∃(L:List j6) (ao:Option Addr) (cap:Nat),u=.slice ao L.length cap /\ (∀x∈L,-9223372036854775808 <= x.1 /\ x.1 <= 9223372036854775807 /\ x.2<18446744073709551616) /\ Src w ao L.length cap 2 (ju L) /\ L.length <= maxLen:=by
 obtain⟨ao,len,cap,rfl⟩:=hu;rcases KA underlying27 underlying64 kr X2 h with⟨r,N⟩|⟨a,a1,a0,m,D,Pl,r,hb,hl,hm,G,N,E⟩
 · simp[Value.cells]at r
   obtain⟨rfl,rfl,rfl⟩:=r;exact⟨[],none,0,rfl,(fun _ h=>by cases h),⟨rfl,(fun _=>⟨rfl,rfl⟩),(fun ad h=>by cases h)⟩,u_ _⟩
 · simp[Value.cells]at r
   obtain⟨rfl,rfl,rfl⟩:=r;simp only[if_true]at G;subst G
   have M:∀k,k<len -> ∃t:j6,(-9223372036854775808 <= t.1 /\ t.1 <= 9223372036854775807 /\ t.2<18446744073709551616) /\ w.cell? (a.add (k*2))=some (.int .i64 t.1) /\ w.cell? (a.add (k*2+1))=some (.int .u64 t.2):=by
    intro k hk;obtain⟨ys,n,-,-,-,hf⟩:=E k O;obtain⟨v0,y0,c0,-,t0⟩:=hf 0 _ rfl;obtain⟨v1,y1,c1,-,t1⟩:=hf 1 _ rfl;obtain⟨U,V,-,b0⟩:=DataW.trod_int underlying3 t0;obtain⟨x1,Z,-,b1⟩:=DataW.trod_int underlying36 t1;simp at V Z;subst V;subst Z;have h0:=bounds_i64 b0;have h1:=bounds_u64 b1;obtain⟨z1,rfl⟩:=Ya h1.1;exact⟨(U,z1),⟨by show _ <= U;omega,by show U <= _;omega,by show z1<_;omega⟩,c0,c1⟩
   obtain⟨L,hL,hP⟩:=SF len M;refine⟨L,some a,m,by rw[hL],fun t ht=>?_,Src.of (sz:=2) (fun _=>rfl) (by decide) fun k x N j v y=>?_,by rw[hL];omega⟩
   · obtain⟨k,hk⟩:=Ys ht
     exact(hP k t hk).1
   · obtain⟨-,q0,q1⟩:=hP k x N
     match j,y with
     | 0,y=>cases y;exact q0
     | 1,y=>cases y;exact q1
theorem open_breaches {u:Value}{M:Nat}{d:DataW H}{p:List MemPlace}(hu:∃ao len cap,u=.slice ao len cap)
  (h:DataW.trod enc prog w 0 (fun _=>true) true M 28 u.cells.toList=some (d,p)):
  ∃(L:List Z6) (ao:Option Addr) (cap:Nat),u=.slice ao L.length cap /\ (∀x∈L,x.1<256 /\ (-9223372036854775808 <= x.2.1 /\ x.2.1 <= 9223372036854775807) /\ (-9223372036854775808 <= x.2.2.1 /\ x.2.2.1 <= 9223372036854775807) /\ x.2.2.2.1<18446744073709551616 /\ (-9223372036854775808 <= x.2.2.2.2 /\ x.2.2.2.2 <= 9223372036854775807)) /\ Src w ao L.length cap 5 (FL L) /\ L.length <= maxLen:=by
 obtain⟨ao,len,cap,rfl⟩:=hu;rcases KA underlying28 underlying39 kr VE h with⟨y,U⟩|⟨a,a1,a0,m,D,Pl,y,hb,hl,hm,J,U,G⟩
 · simp[Value.cells]at y
   obtain⟨rfl,rfl,rfl⟩:=y;exact⟨[],none,0,rfl,(fun _ h=>by cases h),⟨rfl,(fun _=>⟨rfl,rfl⟩),(fun ad h=>by cases h)⟩,u_ _⟩
 · simp[Value.cells]at y
   obtain⟨rfl,rfl,rfl⟩:=y;simp only[if_true]at J;subst J
   have N:∀k,k<len -> ∃x:Z6,(x.1<256 /\ (-9223372036854775808 <= x.2.1 /\ x.2.1 <= 9223372036854775807) /\ (-9223372036854775808 <= x.2.2.1 /\ x.2.2.1 <= 9223372036854775807) /\ x.2.2.2.1<18446744073709551616 /\ (-9223372036854775808 <= x.2.2.2.2 /\ x.2.2.2.2 <= 9223372036854775807)) /\
     w.cell? (a.add (k*5))=some (.int .u8 x.1) /\ w.cell? (a.add (k*5+1))=some (.int .i64 x.2.1) /\ w.cell? (a.add (k*5+2))=some (.int .i64 x.2.2.1) /\ w.cell? (a.add (k*5+3))=some (.int .u64 x.2.2.2.1) /\ w.cell? (a.add (k*5+4))=some (.int .i64 x.2.2.2.2):=by
    intro k hk;obtain⟨ys,n,-,-,-,E⟩:=G k O;obtain⟨v0,y0,c0,-,t0⟩:=E 0 _ rfl;obtain⟨v1,y1,c1,-,t1⟩:=E 1 _ rfl;obtain⟨v2,y2,c2,-,t2⟩:=E 2 _ rfl;obtain⟨v3,y3,c3,-,t3⟩:=E 3 _ rfl;obtain⟨v4,y4,c4,-,t4⟩:=E 4 _ rfl;obtain⟨x0,V,-,b0⟩:=DataW.trod_int underlying5 t0;obtain⟨x1,Z,-,b1⟩:=DataW.trod_int underlying3 t1;obtain⟨x2,e2,-,b2⟩:=DataW.trod_int underlying3 t2;obtain⟨x3,e3,-,b3⟩:=DataW.trod_int underlying36 t3;obtain⟨x4,e4,-,b4⟩:=DataW.trod_int underlying37 t4;simp at V Z e2 e3 e4;subst V;subst Z;subst e2;subst e3;subst e4;have h0:=bounds_u8 b0;have h1:=bounds_i64 b1;have h2:=bounds_i64 b2;have h3:=bounds_u64 b3;have h4:=bounds_i64 b4;obtain⟨z0,rfl⟩:=Ya h0.1;obtain⟨z3,rfl⟩:=Ya h3.1;refine⟨(z0,x1,x2,z3,x4),⟨?_,⟨?_,?_⟩,⟨?_,?_⟩,?_,?_,?_⟩,c0,c1,c2,c3,c4⟩<;>simp only<;>omega
   obtain⟨L,hL,hP⟩:=SF len N;refine⟨L,some a,m,by rw[hL],fun t ht=>?_,Src.of (sz:=5) (fun _=>rfl) (by decide) fun k x U j v r=>?_,by rw[hL];omega⟩
   · obtain⟨k,hk⟩:=Ys ht
     exact(hP k t hk).1
   · obtain⟨-,q0,q1,q2,q3,q4⟩:=hP k x U
     match j,r with
     | 0,r=>cases r;exact q0
     | 1,r=>cases r;exact q1
     | 2,r=>cases r;exact q2
     | 3,r=>cases r;exact q3
     | 4,r=>cases r;exact q4
end
section
variable {H:Type} {enc:TypeId×Value -> H} {P:Program} {w:World} {base:Nat} {spare:Nat -> Bool} {held:Bool}
theorem trodAll_five9 {t0 t1 t2 t3 t4:TypeId}{args:Array Value}{ds:List (DataW H)}{ps:List MemPlace}(h:DataW.TrodAll enc P w base spare held [t0,t1,t2,t3,t4] args.toList ds ps):
  ∃v0 v1 v2 v3 v4 r y E G J M N U V Z,args=#[v0,v1,v2,v3,v4] /\ ds=[r,y,E,G,J] /\ ps=M++(N++(U++(V++Z))) /\ DataW.Trod enc P w base spare held t0 v0 r M /\ DataW.Trod enc P w base spare held t1 v1 y N /\ DataW.Trod enc P w base spare held t2 v2 E U /\ DataW.Trod enc P w base spare held t3 v3 G V /\ DataW.Trod enc P w base spare held t4 v4 J Z:=by
 obtain⟨v0,r0,r,e0,M,q0,a9,rfl,rfl,AM,a4⟩:=trodAll_cons h;obtain⟨v1,r1,y,e1,N,q1,rfl,rfl,rfl,a0,a5⟩:=trodAll_cons a4;obtain⟨v2,r2,E,e2,U,q2,rfl,rfl,rfl,a1,a6⟩:=trodAll_cons a5;obtain⟨v3,r3,G,e3,V,q3,rfl,rfl,rfl,a2,a7⟩:=trodAll_cons a6;obtain⟨v4,r4,J,e4,Z,q4,rfl,rfl,rfl,a3,a8⟩:=trodAll_cons a7;obtain⟨rfl,rfl,rfl⟩:=trodAll_nil a8;exact⟨v0,v1,v2,v3,v4,r,y,E,G,J,M,N,U,V,Z,by cases args;simp_all,rfl,by simp,AM,a0,a1,a2,a3⟩
end
end
section
open Go Go.RowKit Go.IntWalk
theorem kg {x:Z6}(h:x.1<256 /\ (-9223372036854775808 <= x.2.1 /\ x.2.1 <= 9223372036854775807) /\ (-9223372036854775808 <= x.2.2.1 /\ x.2.2.1 <= 9223372036854775807) /\ x.2.2.2.1<18446744073709551616 /\ (-9223372036854775808 <= x.2.2.2.2 /\ x.2.2.2.2 <= 9223372036854775807))(w:World)(E:Ug w):
  ∃s:ByteArray,Calls prog 9 #[.agg (Le x).toArray] w (fun e w'=>e=.returned (.string s) /\ Below w.heap.size w w') /\ ∀r,Ug r -> Calls prog 10 #[.agg (Le x).toArray] r (fun e w'=>e=.returned (.string s) /\ Below r.heap.size r w'):=
 ⟨_,A6 w E x.1 h.1 x.2.1 x.2.2.1 x.2.2.2.1 x.2.2.2.2 h.2.1.1 h.2.1.2 h.2.2.1.1 h.2.2.1.2 h.2.2.2.1 h.2.2.2.2.1 h.2.2.2.2.2,fun r y=>g1 r y x.1 h.1 x.2.1 x.2.2.1 x.2.2.2.1 x.2.2.2.2 h.2.1.1 h.2.1.2 h.2.2.1.1 h.2.2.1.2 h.2.2.2.1 h.2.2.2.2.1 h.2.2.2.2.2⟩
theorem Eq {g n cap p x:Nat}{W':List Nat}{r:Array Value}(h:Gh 36 1 (some (aD g 0)) n cap (u64s W') [(g,.cells r 36 (0,0))])(E:W'.length=n)(G:p<n):Gh 36 1 (some (aD g 0)) n cap (u64s (W'.set p x)) [(g,.cells (r.setIfInBounds p (uV x)) 36 (0,0))]:=by
 refine h.over (o:=p) (vs:=[uV x]) (by unfold u64s;rw[n_,Qn,E,Xs]) (by show p+1 <= n*1;omega) (fun j y=>?_) (fun j y=>?_)
 · obtain rfl:j=0:=by simpa using y
   unfold u64s;rw[Zs,G_,Xu O]
   rfl
 · unfold u64s
   rw[G_,G_,Je (by rcases y with h|h;omega;(simp at h;omega))]
theorem auditTells_walk (w:World)(hF:Fields w)(ht:Ug w)(n:Int)(L:List Ty)(lao:Option Addr)(lcap:Nat)(a6 ka ha pa:Option Addr)(sl a0 kc hc pc:Nat)(kl hl pl:List Nat)(hv:Bool)
  (cd:∀w',Below w.heap.size w w' -> Calls prog 21 #[iV n,.slice lao L.length lcap,.slice a6 sl a0] w' fun e w2=>e=.returned (.bool hv) /\ w2=w')
  (ck:hv=false -> ∀w',Below w.heap.size w w' -> Calls prog 34 #[iV n,.slice lao L.length lcap,.slice a6 sl a0] w' fun e w2=>RD w' w2 L lao lcap e)
  (M:Src w ka kl.length kc 1 (Gf kl))(hH:Src w ha hl.length hc 1 (Gf hl))(hN:Src w pa pl.length pc 1 (Gf pl))(cQ:∀v∈kl,v<18446744073709551616)(cN:∀v∈hl,v<18446744073709551616)(aE:∀v∈pl,v<18446744073709551616)
  (qa:Option Addr)(qc:Nat)(ql:List Nat)(hQ:Src w qa ql.length qc 1 (Gf ql))(cX:∀v∈ql,v<18446744073709551616)(gr:Int)(oa:Option Addr)(oc:Nat)(ol:List j6)(hO:Src w oa ol.length oc 2 (ju ol))(cT:∀x∈ol,x.2<18446744073709551616)
  (za:Option Addr)(zc:Nat)(zs:List Z6)(hZ:Src w za zs.length zc 5 (FL zs))(bX:∀x∈zs,x.1<256 /\ (-9223372036854775808 <= x.2.1 /\ x.2.1 <= 9223372036854775807) /\ (-9223372036854775808 <= x.2.2.1 /\ x.2.2.1 <= 9223372036854775807) /\ x.2.2.2.1<18446744073709551616 /\ (-9223372036854775808 <= x.2.2.2.2 /\ x.2.2.2.2 <= 9223372036854775807)):
  Calls prog 3 #[.agg #[iV n,.slice lao L.length lcap,.slice a6 sl a0,.slice ka kl.length kc,.slice ha hl.length hc,.slice pa pl.length pc],.slice qa ql.length qc,iV gr,.slice oa ol.length oc,.slice za zs.length zc] w fun e w'=>e=.returned (.bool true) /\ Below w.heap.size w w':=by
 have cc:=uh (fun w' (J:Below w.heap.size w w')=>F1 w' (range_below hF J) (Lib.tabBelow_of_tabIs ht w' J));have cr:=uh (fun w' (J:Below w.heap.size w w')=>Lib.tabBelow_of_tabIs ht w' J);have T0:=(r_ (C_ w)).alloc (.cells #[iV n,.slice lao L.length lcap,.slice a6 sl a0,.slice ka kl.length kc,.slice ha hl.length hc,.slice pa pl.length pc] 26);have bc:=uh T0.below;have bW:(prog.info? 26).map (·.size)=some 6:=by kernel_rfl
 have bV:=Ns;have aK:(w.alloc (.cells #[iV n,.slice lao L.length lcap,.slice a6 sl a0,.slice ka kl.length kc,.slice ha hl.length hc,.slice pa pl.length pc] 26)).rangeAt w.heap.size 0 [iV n,.slice lao L.length lcap,.slice a6 sl a0,.slice ka kl.length kc,.slice ha hl.length hc,.slice pa pl.length pc]:=T0.has.range (b:=w.heap.size) (c:=#[iV n,.slice lao L.length lcap,.slice a6 sl a0,.slice ka kl.length kc,.slice ha hl.length hc,.slice pa pl.length pc]) (e:=26) (f:=(0,0)) (by simp);have bp:=uh (fun u (J:Below (w.alloc (.cells #[iV n,.slice lao L.length lcap,.slice a6 sl a0,.slice ka kl.length kc,.slice ha hl.length hc,.slice pa pl.length pc] 26)).heap.size (w.alloc (.cells #[iV n,.slice lao L.length lcap,.slice a6 sl a0,.slice ka kl.length kc,.slice ha hl.length hc,.slice pa pl.length pc] 26)) u)=>range_below aK J);have bm:=uh (EJ (w.alloc (.cells #[iV n,.slice lao L.length lcap,.slice a6 sl a0,.slice ka kl.length kc,.slice ha hl.length hc,.slice pa pl.length pc] 26)) n lao a6 ka ha pa L.length lcap sl a0 kl.length kc hl.length hc pl.length pc hv (fun w' J=>cd w' (T0.below.trans (J.mono T0.below.size))))
 have ch:=uh (fun(h1:hv=false) (h2:kl.length <= 60) (h3:hl.length <= 60) (h4:pl.length <= 60) u (J:Below w.heap.size w u)=>Pz u n L lao lcap a6 ka ha pa sl a0 kc hc pc kl hl pl (fun w' dB=>ck h1 w' (J.trans (dB.mono J.size))) (M.below J) (hH.below J) (hN.below J) h2 h3 h4 cQ cN aE);have cu:=uh (fun(h:QF hv kl.length hl.length pl.length=false)=>PJ h);have HQ:=uh (fun u (J:Below w.heap.size w u)=>hQ.below J);have HO:=uh (fun u (J:Below w.heap.size w u)=>hO.below J);have HZ:=uh (fun u (J:Below w.heap.size w u)=>hZ.below J);have bE:=uh cX;have dn:=uh cT;have dp:=uh bX;have bA:=uh (fun x (hx:x∈zs)=>(bX x hx).1);clear hF ht cd ck M hH hN cQ cN aE T0 hQ cX hO cT hZ bX;have a7:=uh (fun u (J:Below w.heap.size w u)=>(cc.out u J).mono (fun(e:Ending) (w':World) h=>(⟨h.1,J.trans (h.2.mono J.size)⟩:e=Ending.returned (.bool true) /\ Below w.heap.size w w')))
 go_enter func3,ntmps3
 go_wp2_with (first
  | (show lW 26;refine J_ rfl 26 _ rfl w.heap.size 0 rfl _ _ aK underlying26 rfl bW ?_;clear aK)
  | fail)
 refine bm.out.mono ?_;rintro e w2 ⟨rfl,av⟩;have b3:=bp.out w2 av;have ae:=uh (bc.out.trans (av.mono bc.out.size));have br:=uh (fun u (J:Below w2.heap.size w2 u)=>bp.out u (av.trans (J.mono av.size)));obtain⟨bg,aZ⟩:∃bg,bg=QF hv kl.length hl.length pl.length:=⟨_,rfl⟩;rw[←aZ];clear av bm bp bc b3
 cases bg
 case true=>
  clear aZ
  go_wp2_with fail
  refine(a7.out w2 ae.out).mono ?_;rintro e w9 ⟨rfl,J⟩;have HB:=uh J;clear J
  go_wp2_with fail
  go_ret;exact⟨rfl,HB.out⟩
 obtain⟨d9,cP,cM,cU⟩:=cu.out aZ.symm;have HM:=uh (ch.out d9 cP cM cU);clear aZ cu ch d9 cP cM cU
 by_cases dP:ql.length <= 60
 case neg=>
  have k1:(60:Int)<(ql.length:Int):=O
  go_wp2_with fail
  refine(a7.out w2 ae.out).mono ?_;rintro e w9 ⟨rfl,J⟩;have HB:=uh J;clear J
  go_wp2_with fail
  go_ret;exact⟨rfl,HB.out⟩
 have k1:¬(60:Int)<(ql.length:Int):=O
 by_cases e4:ol.length <= 20
 case neg=>
  have k2:(20:Int)<(ol.length:Int):=O
  go_wp2_with fail
  refine(a7.out w2 ae.out).mono ?_;rintro e w9 ⟨rfl,J⟩;have HB:=uh J;clear J
  go_wp2_with fail
  go_ret;exact⟨rfl,HB.out⟩
 have k2:¬(20:Int)<(ol.length:Int):=O
 by_cases e7:zs.length <= 100
 case neg=>
  have k3:(100:Int)<(zs.length:Int):=O
  go_wp2_with fail
  refine(a7.out w2 ae.out).mono ?_;rintro e w9 ⟨rfl,J⟩;have HB:=uh J;clear J
  go_wp2_with fail
  go_ret;exact⟨rfl,HB.out⟩
 have k3:¬(100:Int)<(zs.length:Int):=O
 have bP:∀u∈FL zs,u.oneCell'=true:=by
  intro u hu;obtain⟨x,-,hx⟩:=List.mem_flatMap.1 hu;simp only[Le,t_,Zu,or_false]at hx;rcases hx with rfl|rfl|rfl|rfl|rfl<;>rfl
 have dx:0+zs.length <= maxLen:=by unfold maxLen;omega
 have dy:(0+zs.length)*40 <= 140737488355328:=O;have ct:=uh (r_ (C_ w2));have bD:=uh bP;clear bP
 go_wp2_with (first
  | (at_builtin;go_loud (refine Qv rfl _ _ rfl GB rfl rfl (Zb _ _) (R:=[]) (C_ w2) (HZ.out w2 ae.out) bD.out dx dy ?_;intro a9 p9 l9 w3 bQ V9;rw[Q_,L_]at bQ;simp only[Q_];simp only[p_]at V9;have bx:=uh V9;have bu:=uh (bQ.src (R:=[]) (by rw[p_];exact V9.has));have am:=uh (ae.out.trans (V9.below.mono ae.out.size));clear bQ V9))
  | fail)
 refine(A7 w3 zs a9 p9 bu.out O).mono ?_;rintro e w4 ⟨ys,a2,p2,l4,cW,cR,rfl,d6,T4⟩;have aL:=uh (am.out.trans (T4.below.mono am.out.size))
 have H4:=uh (And.intro d6 (RT cW (Am (zs.map (·.1)) 256) fun v=>by
  rw[cR,Ch];exact⟨fun h=>⟨by obtain⟨x,hx,rfl⟩:=U_.1 h;exact bA.out x hx,h⟩,fun h=>h.2⟩))
 have aJ:=uh T4.below;clear cW cR d6 T4 bu
 go_wp2_with fail
 refine(Ph w4 zs za zc (HZ.out w4 aL.out) O bA.out).mono ?_;rintro e w5 ⟨a5,p5,l5,rfl,d0,T5⟩;have be:=uh (aL.out.trans (T5.below.mono aL.out.size));have cf:=uh (ED w5 ys _ a2 a5 p2 p5 (H4.out.1.below T5.below) (d0.src (R:=[]) (by rw[p_];exact T5.has)) (by rw[H4.out.2];have:=XY (zs.map (·.1)) 256;omega) H4.out.2);have aH:=uh (ct.out.below.trans ((bx.out.below.trans ((aJ.out.trans (T5.below.mono aJ.out.size)).mono bx.out.below.size))));clear d0 T5 H4 aJ bx
 go_wp2_with fail
 refine cf.out.mono ?_;rintro e w6 ⟨rfl,aQ⟩;have bf:=uh (be.out.trans (aQ.mono be.out.size));have bs:=uh (fun u (J:Below w6.heap.size w6 u)=>br.out u (aH.out.trans ((aQ.trans (J.mono aQ.size)).mono aH.out.size)));clear aQ cf aH br be aL am ct bA
 go_wp2_with fail
 go_loopw [11] (fun bY wr=>∃i:Nat,i <= zs.length /\ bY=iV i /\ Below w6.heap.size w6 wr) (fun bY _=>zs.length-(intOf bY).toNat)
 case atStart=>exact⟨0,u_ _,by go_num,(r_ (C_ w6)).below⟩
 case round=>
  obtain⟨i,hi,rfl,ay⟩:=hrel;have Z:=bf.out.trans (ay.mono bf.out.size)
  by_cases bM:i<zs.length
  · have dj:(i:Int)<(zs.length:Int):=O
    obtain⟨x,hx⟩:∃x,zs[i]?= some x:=⟨zs[i],a_ bM⟩;have aF:=HZ.out wr Z;obtain⟨lb,lo,db,-⟩:=aF.form (by rw[Rd];omega)
    have HX:=uh (fun u (hk:Below wr.heap.size wr u)=>(by
     have h:=HZ.out u (Z.trans (hk.mono Z.size));rw[db]at h;exact Src.fm (f:=Le) (fun _=>rfl) (S:=zs) h hx:u.rangeAt lb (lo+i*5) (Le x)))
    obtain⟨sx,d4,d5⟩:=kg (dp.out x (q_ hx)) wr.drew (cr.out _ (Z.trans ((r_ (C_ wr)).drew.below.mono Z.size)));have af:=uh d4;have ag:=uh d5;have an:=uh (And.intro ay Z);clear d4 d5 aF ay Z hx;subst db;obtain⟨x1,x2,x3,x4,x5⟩:=x
    go_upto_region 8 with fail
    have r:Below wr.heap.size wr wr.drew:=(r_ (C_ wr)).drew.below;refine F_ ?_;refine rG (S:=fun u=>Below wr.heap.size wr u) 11 ?_;generalize wr.drew=u0 at*;refine G2 0 59 r ?_;refine G2 1 60 r ?_;refine G2 2 61 r ?_;refine XM 3 62 r (fun w' E=>Xa 39 _ rfl lb (lo+i*5) rfl (Le (x1,x2,x3,x4,x5)) _ (HX.out w' E) underlying39 rfl bV) ?_;refine G2 5 64 r ?_;refine G2 6 65 r ?_;refine G2 7 66 r ?_;refine XM 8 67 r (fun w' E=>Xa 39 _ rfl lb (lo+i*5) rfl (Le (x1,x2,x3,x4,x5)) _ (HX.out w' E) underlying39 rfl bV) ?_;refine G5 4 (fun K M=>?_)
    go_simp
    refine af.out.mono ?_;rintro e u1 ⟨rfl,au⟩;have y:=r.trans (au.mono r.size);clear r au af;refine M.out _ _ y fun _=>?_;clear M K;simp only[Gb,G7,G6];refine G5 9 (fun K M=>?_)
    go_simp
    refine(ag.out u1 (cr.out _ (an.out.2.trans (y.mono an.out.2.size)))).mono ?_;rintro e u2 ⟨rfl,bJ⟩;have a3:=y.trans (bJ.mono y.size);clear y bJ ag;refine M.out _ _ a3 fun _=>?_;clear M K;simp only[Gb,G7,G6];refine G2 10 69 a3 ?_;refine P_ kr ?_ _;refine z_ ?_;have df:=uh (an.out.1.trans (a3.mono an.out.1.size));clear a3 an HX
    go_wp2_with fail
    go_roundw
    case rel=>exact⟨i+1,by omega,by go_num,df.out⟩
    case measure=>simp[intOf];omega
  · obtain rfl:i=zs.length:=O
    have dJ:¬((zs.length:Nat):Int)<(zs.length:Int):=O;have b3:=bs.out wr ay;have a1:=uh Z;have bn:=uh (HM.out wr Z);clear HM ay Z bs bf HZ bD ae
    go_wp2_with (first
     | (show lW 26;refine J_ rfl 26 _ rfl w.heap.size 0 rfl _ _ b3 underlying26 rfl bW ?_;clear b3)
     | fail)
    refine bn.out.mono ?_;rintro e c6 (⟨rfl,ax⟩|⟨xb,sb,tb,rb,hd,pb,mb,w1,W,B,cs,rs,ps,m,rfl,au,hb,hG,d3,bU,dK,aE,bN,dC⟩)
    · have am:=uh (a1.out.trans (ax.mono a1.out.size))
      clear ax bn
      go_wp2_with fail
      refine(a7.out c6 am.out).mono ?_;rintro e w9 ⟨rfl,J⟩;have HB:=uh J;clear J
      go_wp2_with fail
      go_ret;exact⟨rfl,HB.out⟩
    obtain⟨c2,vw,la,ra,U,lc,rc,V,lh,lL,lR,lP,ls,lr,om,aX,aW,aU,aC,b2,d2,d1,T⟩:=dC;have bd:=uh (a1.out.trans (au.mono a1.out.size));have bh:=uh (fun u (J:Below w1.heap.size w1 u)=>bd.out.trans (J.mono bd.out.size));obtain⟨cK,bL⟩:=WZ hG;have bv:=uh (BG c6 xb cs rs ql ps la ra U qa lc rc V qc (T.cell1 5) (T.cell1 7) (T.cell1 8) (b2.src (R:=(xb,.cells #[pt sb,pt rb,c2,pt hd,pt pb,.slice la cs.length lc,vw,.slice ra rs.length rc,.slice U ps.length V] 60)::(lh++((mb,om)::(pb,.cells #[.map (some mb)] 204)::(lR++(lP++(ls++lr)))))) (T.has.perm po)) (d2.src (R:=(xb,.cells #[pt sb,pt rb,c2,pt hd,pt pb,.slice la cs.length lc,vw,.slice ra rs.length rc,.slice U ps.length V] 60)::(lh++((mb,om)::(pb,.cells #[.map (some mb)] 204)::(lL++(lP++(ls++lr)))))) (T.has.perm po)) (d1.src (R:=(xb,.cells #[pt sb,pt rb,c2,pt hd,pt pb,.slice la cs.length lc,vw,.slice ra rs.length rc,.slice U ps.length V] 60)::(lh++((mb,om)::(pb,.cells #[.map (some mb)] 204)::(lL++(lR++(ls++lr)))))) (T.has.perm po)) (HQ.out c6 (bh.out _ T.below)) cK bL dP bE.out d3 (fun v hv=>(bU v hv).1) dK (fun v hv=>(aE v hv).1));obtain⟨ys,hy,-⟩:=bN.list O aC.keys
    obtain⟨ks,b1⟩:∃ks,ks=J9 (ql.map (JN (KE cs))):=⟨_,rfl⟩;rw[←b1]at bv
    have dE:ks.length <= 60:=by
     have h:=MJ (ql.map (JN (KE cs))) (ql.map (JN (KE cs))).length;rw[UJ,←b1,n_]at h;omega
    have bB:=uh (fun v (hv:v∈ks)=>(by
     rw[b1]at hv;obtain⟨h1,h2⟩:=Nh v hv;obtain⟨x,hx,rfl⟩:=U_.1 h2;exact⟨h1,RK (fun g hg=>by obtain⟨c,hc,rfl⟩:=U_.1 hg;exact bL c (Kn hc).1) (bE.out x hx)⟩:v≠0 /\ v<18446744073709551616))
    have bk:=uh (And.intro aX (And.intro aW (And.intro aU (And.intro aC (And.intro b2 T)))));have HG:=uh hG;have Hb:=uh hb;have bG:=uh bU;have bC:=uh bN;have Hy:=uh hy;have e6:=hG.good.small;have dZ:=hG.good.least;obtain⟨z,hz⟩:∃z,W.length/2=z:=⟨_,rfl⟩;have dR:=hG.good.even;clear b1 aX aW aU aC b2 d2 d1 T hG hb bU bN aE au bn hy bL bd bE HQ a1
    go_wp2_with fail
    refine bv.out.mono ?_;rintro e b6 ⟨wb,e0,kb,da,dc,Lp,lw,aa,ab,lp,he,cJ,cC,cD,cV,bR,TT⟩;rw[cV.list bC.out Hy.out]at he bR;subst he;have aP:=uh (And.intro cC (And.intro cD bR))
    have HA:=uh (by
     obtain⟨aX,aW,aU,aC,b2,T⟩:=bk.out;have T1:=(T.grow TT).perm (l2:=(lR++lP)++(ls++(lr++(lh++(lw++((mb,om)::(pb,.cells #[.map (some mb)] 204)::((xb,.cells #[pt sb,pt rb,c2,pt hd,pt pb,.slice la cs.length lc,vw,.slice ra rs.length rc,.slice U ps.length V] 60)::(lL++(aa++(ab++lp)))))))))) po;exact⟨ls,lr,lh,lw,om,aX,aW,aU,cJ,aC,T1.drop⟩:JA w1 b6 sb tb rb hd wb pb mb lao lcap L W B W rs (NH ks) m ((xb,.cells #[pt sb,pt rb,c2,pt hd,pt pb,.slice la cs.length lc,vw,.slice ra rs.length rc,.slice U ps.length V] 60)::(lL++(aa++(ab++lp)))))
    have cv:=uh bk.out.2.2.2.2.1;have dQ:ys.length <= 4096:=Hy.out.2.2.1;clear cJ cC cD cV bR TT bk bv
    go_upto_region 16 with fail
    go_cut [98]from 93 to 97 (fun dW wc=>∃bq:Bool,dW=.bool bq /\ (bq=true↔(0 <= gr /\ gr <= 1000)) /\ b6=wc)
    case first=>
     by_cases h0:0 <= gr
     · by_cases h1:gr <= 1000
       · go_wp2_with fail
         go_meet
         case rel=>exact⟨true,rfl,⟨fun _=>⟨h0,h1⟩,fun _=>rfl⟩,rfl⟩
       · go_wp2_with fail
         go_meet
         case rel=>exact⟨false,rfl,⟨fun h=>(by cases h),fun h=>O⟩,rfl⟩
     · go_wp2_with fail
       go_meet
       case rel=>exact⟨false,rfl,⟨fun h=>(by cases h),fun h=>O⟩,rfl⟩
    case rest=>
    obtain⟨bq,rfl,d7,rfl⟩:=hcut;have cy:=uh d7;clear d7
    go_upto_if 98 with fail
    go_cut [18,19,20,21]from 112 (fun dU dV ea eb wc=>∃(b5:Option Addr) (a8:Int) (lb:List Blk),dU=.pointer b5 /\ dV=iV a8 /\ -1 <= a8 /\ a8 <= 65536 /\ (∀u,Has u lb -> XA u b5 a8) /\ Turn [] b6 lb wc)
    case first=>
     cases bq
     case true=>
      have cL:=cy.out.1 rfl;obtain⟨gn,rfl⟩:=Ya cL.1;have k5:gn <= 1000:=O;clear cL cy
      go_wp2_with (first
       | (go_at_call 13;go_loud (refine(PV b6 gn O).mono ?_;rintro e ec ⟨dS,dT,rfl,aB,cB⟩;have aM:=uh aB;have dg:=uh cB;clear aB cB))
       | fail)
      go_meet
      case rel=>exact⟨some (aD dS 0),gn,dT,rfl,rfl,by omega,by omega,aM.out,dg.out⟩
     case false=>
      go_wp2_with fail
      go_meet
      case rel=>exact⟨none,-1,[],rfl,rfl,by omega,by omega,fun u _=>.inl ⟨rfl,rfl⟩,r_ (C_ _)⟩
    case rest=>
    obtain⟨b5,a8,lb,rfl,rfl,dG,dH,aB,Tb⟩:=hcut;have aM:=uh aB;have ak:=uh (HA.out.grow Tb);clear aB Tb HA
    have a4:=uh (fun u (hk:Below wc.heap.size wc u) (j:Nat) (x:Value) (hx:(#[pt sb,pt rb,c2,pt hd,pt pb,.slice la cs.length lc,vw,.slice ra rs.length rc,.slice U ps.length V]:Array Value)[j]?= some x)=>(by
     have h1:=(ak.out.has.cell (b:=xb) (c:=#[pt sb,pt rb,c2,pt hd,pt pb,.slice la cs.length lc,vw,.slice ra rs.length rc,.slice U ps.length V]) (e:=60) (f:=(0,0)) (by simp) j).trans hx;exact(hk.cell (p:=(aD xb j)) (c_ _ _ h1)).trans h1:u.cell? (aD xb j)=some x))
    obtain⟨de,c7,cH⟩:∃de c7,RefAt wc rb de c7 W lao lcap L:=by
     obtain⟨ls,lr,lh,lw,om,h1,h2,h3,h4,h5,T⟩:=ak.out;exact h2.at_ (R:=ls++(lh++(lw++((mb,om)::(pb,.cells #[.map (some mb)] 204)::(lb++((xb,.cells #[pt sb,pt rb,c2,pt hd,pt pb,.slice la cs.length lc,vw,.slice ra rs.length rc,.slice U ps.length V] 60)::(lL++(aa++(ab++lp))))))))) (T.has.perm po) (Hb.out.src.below T.below)
    have aN:=uh cH;have dL:((W.length:Nat):Int).tdiv 2=(z:Int):=(by rw[Int.tdiv_eq_ediv_of_nonneg O];omega);have dM:((W.length:Nat):Int)/2=(z:Int):=O;have dN:IntKind.i64.wrap (z:Int)=(z:Int):=i64_in _ O;have cq:=uh (fun u (hk:Below wc.heap.size wc u)=>BQ u la lc cs HG.out.good.chain z O O (((cv.out.src (R:=(xb,.cells #[pt sb,pt rb,c2,pt hd,pt pb,.slice la cs.length lc,vw,.slice ra rs.length rc,.slice U ps.length V] 60)::(lb++(aa++(ab++lp)))) (ak.out.has.perm po)):Src wc la cs.length lc 5 (ces cs)).below hk) cK);clear cH
    go_upto_region 22 with fail
    have r:Below wc.heap.size wc wc.drew:=(r_ (C_ wc)).drew.below;have c8:=uh ak.out.drew;refine F_ ?_;refine rG (S:=fun u=>Below wc.heap.size wc u) 15 ?_;generalize wc.drew=u0 at*;refine G2 0 112 r ?_;refine G2 1 113 r ?_;refine G2 2 114 r ?_;refine Jt 3 115 r (fun w E=>(a4.out w E 5 _ rfl)) ?_;refine G2 4 116 r ?_;refine G2 5 117 r ?_;refine G2 6 118 r ?_;refine Jt 7 119 r (fun w E=>(a4.out w E 1 _ rfl)) ?_;refine G2 8 120 r ?_;refine G2 9 121 r ?_;refine Jt 10 122 r (fun w E=>(aN.out.below E).c0) ?_;refine G2 11 123 r ?_;refine G2 12 124 r ?_;refine G5 13 (fun K M=>?_)
    go_simp
    refine(cq.out u0 r).mono ?_;rintro e u1 ⟨e8,e9,ah,rfl,bT,T1⟩;have y:=r.trans (T1.below.mono r.size);have c9:=uh (c8.out.grow T1);have bF:=uh bT;clear T1 r bT cq c8 ak;refine M.out _ _ y fun _=>?_;clear M K;simp only[Gb,G7,G6];refine G2 14 22 y ?_;refine P_ kr ?_ _;refine z_ ?_;have q1:=a4.out u1 y 1 _ rfl;have q2:=(aN.out.below y).c0;have cz:=uh (aN.out.below y).ws;clear y a4 aN dL dM dN;have dz:0+W.length <= maxLen:=by unfold maxLen;omega
    have dA:(0+W.length)*8 <= 140737488355328:=O;have dh:=uh (fun u (hu:u∈u64s W)=>(by obtain⟨s,-,rfl⟩:=U_.1 hu;rfl:u.oneCell'=true))
    go_wp2_with (first
     | (at_builtin;refine Qv rfl _ _ rfl GF rfl rfl (Zb _ _) (R:=[]) (C_ u1) cz.out dh.out dz dA ?_;intro ga gc lg u2 aj V9;rw[Q_,L_]at aj;simp only[Q_];simp only[p_]at V9;obtain⟨g,aq,rfl,-,-,-⟩:=aj.some_of O;have ca:=uh (c9.out.grow V9);have cx:=uh aj;clear aj V9 c9 cz q1 q2)
     | fail)
    have cp:=uh (fun(W':List Nat) (x:Nat) (hx:x<18446744073709551616) (h:∀v∈W',v<18446744073709551616) (p:Nat)=>(by
     intro v hv;rcases Zz hv with h1|h1
     ·exact h v h1
     ·rw[h1];exact hx:∀v∈W'.set p x,v<18446744073709551616))
    go_wp2_with fail
    go_loopw [24] (fun bZ wr=>∃(i:Nat) (W':List Nat) (ac:List Blk),i <= ol.length /\ bZ=iV i /\ W'.length=W.length /\ (∀v∈W',v<18446744073709551616) /\ Gh 36 1 (some (aD g 0)) W.length gc (u64s W') ac /\ JA w1 wr sb tb rb hd wb pb mb lao lcap L W' B W rs (NH ks) m (ac++(ah++(lb++((xb,.cells #[pt sb,pt rb,c2,pt hd,pt pb,.slice la cs.length lc,vw,.slice ra rs.length rc,.slice U ps.length V] 60)::(lL++(aa++(ab++lp)))))))) (fun bZ _=>ol.length-(intOf bZ).toNat)
    case atStart=>exact⟨0,W,lg,u_ _,by go_num,rfl,HG.out.good.u64,cx.out,ca.out⟩
    case round=>
    clear ca cx;obtain⟨i,W',ac,hi,rfl,aA,aY,b4,hA⟩:=hrel;have Z:=bh.out wr hA.below
    by_cases bM:i<ol.length
    case pos=>
     have dj:(i:Int)<(ol.length:Int):=O;obtain⟨x,hx⟩:∃x,ol[i]?= some x:=⟨ol[i],a_ bM⟩;have aF:=HO.out wr Z;obtain⟨ob,oo,cS,-⟩:=aF.form (by rw[show(ju ol).length=ol.length*2 from LL (f:=Vd) (sz:=2) (fun _=>rfl) ol];omega)
     have HX:=uh (fun u (hk:Below w.heap.size w u)=>(by
      have h:=HO.out u hk;rw[cS]at h;have h2:=Src.fm (f:=Vd) (fun _=>rfl) (S:=ol) h hx;exact⟨h2 0 _ rfl,h2 1 _ rfl⟩:u.cell? (aD ob (oo+i*2))=some (iV x.1) /\ u.cell? (aD ob (oo+i*2+1))=some (uV x.2)))
     have cA:=uh (dn.out x (q_ hx));have q0:=(HX.out wr Z).1;have N:=uh (And.intro aA (And.intro aY (And.intro b4 hA)));have a1:=uh Z;clear aF hx aA aY b4 hA Z;subst cS;obtain⟨x1,x2⟩:=x;simp only at HX cA q0
     by_cases dY:x1<0
     · clear a1
       go_wp2_with fail
       go_roundw
       case rel=>exact⟨i+1,W',ac,by omega,by go_num,N.out.1,N.out.2.1,N.out.2.2.1,N.out.2.2.2⟩
       case measure=>simp[intOf];omega
     by_cases dX:(W.length:Int) <= x1
     · clear a1
       go_wp2_with fail
       go_roundw
       case rel=>exact⟨i+1,W',ac,by omega,by go_num,N.out.1,N.out.2.1,N.out.2.2.1,N.out.2.2.2⟩
       case measure=>simp[intOf];omega
     obtain⟨p,rfl⟩:=Ya (by omega:0 <= x1);have hp:p<W.length:=O;have e5:(p:Int)<(W.length:Int):=O;obtain⟨a,ha⟩:=Q3 N.out.2.2.2;obtain⟨g',aq,dD,dF,e2,-⟩:=N.out.2.2.1.some_of O
     cases dD
     subst dF;have e3:=N.out.2.2.1.2.1;have ap:=uh (fun u Wx dd (h:JA w1 u sb tb rb hd wb pb mb lao lcap L Wx B W rs (NH ks) m (dd++(ah++(lb++((xb,.cells #[pt sb,pt rb,c2,pt hd,pt pb,.slice la cs.length lc,vw,.slice ra rs.length rc,.slice U ps.length V] 60)::(lL++(aa++(ab++lp))))))))=>(⟨((h.sub (Zy dd _)).has.cell (b:=xb) (c:=#[pt sb,pt rb,c2,pt hd,pt pb,.slice la cs.length lc,vw,.slice ra rs.length rc,.slice U ps.length V]) (e:=60) (f:=(0,0)) (by simp) 0),HX.out u (bh.out u h.below)⟩:u.cell? (aD xb 0)=some (pt sb) /\ u.cell? (aD ob (oo+i*2))=some (iV (p:Nat)) /\ u.cell? (aD ob (oo+i*2+1))=some (uV (x2:Nat))))
     go_upto_region 28 with fail
     have r:=ap.out _ _ _ N.out.2.2.2.drew;have cb:=uh N.out.2.2.2.drew;have aG:Hid (wr.drew.cell? (aD sb 0)=some (pt a)):=uh ha;clear ha q0 HX a1;refine F_ ?_;refine rG (S:=fun u=>u.cell? (aD xb 0)=some (pt sb) /\ u.cell? (aD ob (oo+i*2))=some (iV (p:Nat)) /\ u.cell? (aD ob (oo+i*2+1))=some (uV (x2:Nat))) 17 ?_;generalize wr.drew=u0 at*;refine G2 0 156 r ?_;refine G2 1 157 r ?_;refine G2 2 158 r ?_;refine Jt 3 159 r (fun w E=>E.1) ?_;refine G2 5 161 r ?_;refine G2 6 162 r ?_;refine G2 7 163 r ?_;refine G2 8 164 r ?_;refine Jt 9 165 r (fun w E=>E.2.1) ?_;refine G2 10 166 r ?_;refine G2 11 167 r ?_;refine G2 12 168 r ?_;refine G2 13 169 r ?_;refine Jt 14 170 r (fun w E=>E.2.2) ?_;refine G5 4 (fun K M=>?_)
     go_simp
     refine(NW u0 (a:=(aD a 0)) rfl aG.out).mono ?_;rintro e u ⟨rfl,hw⟩;rw[hw];clear hw u;refine M.out _ _ r fun _=>?_;clear M K;simp only[Gb,G7,G6];have cg:=uh (EX cb.out (by have:=N.out.1;omega) aG.out p x2 (by have:=N.out.1;omega));clear r cb aG;refine G5 15 (fun K M=>?_)
     go_simp
     refine cg.out.mono ?_;rintro e u1 ⟨rfl,bH⟩;have b8:=uh bH;have y:=ap.out _ _ _ bH;clear bH cg;refine M.out _ _ y fun _=>?_;clear M K;simp only[Gb,G7,G6];refine G2 16 172 y ?_;refine P_ kr ?_ _;refine z_ ?_;clear y
     go_upto_region 30 with fail
     have r:=ap.out _ _ _ b8.out.drew;have b9:=uh b8.out.drew;clear b8;refine F_ ?_;refine rG (S:=fun u=>u.cell? (aD xb 0)=some (pt sb) /\ u.cell? (aD ob (oo+i*2))=some (iV (p:Nat)) /\ u.cell? (aD ob (oo+i*2+1))=some (uV (x2:Nat))) 13 ?_;generalize u1.drew=u0 at*;refine G2 0 173 r ?_;refine G2 1 174 r ?_;refine G2 2 175 r ?_;refine G2 3 176 r ?_;refine G2 4 177 r ?_;refine Jt 5 178 r (fun w E=>E.2.1) ?_;refine G2 6 179 r ?_;refine G2 7 180 r ?_;refine G2 8 181 r ?_;refine G2 9 182 r ?_;refine Jt 10 183 r (fun w E=>E.2.2) ?_;refine G2 11 184 r ?_;obtain⟨uv,d8⟩:∃uv,aq[p]?= some uv:=⟨aq[p]'O,Ye _⟩;have b0:=b9.out.has.left;have q6:=(b0.cell (b:=g) (c:=aq) (e:=36) (f:=(0,0)) (by simp) p).trans d8;have f6:=b0.free (b:=g) (c:=aq) (e:=36) (by simp) p;have cE:=b9.out.turn ((r_ b0).setCell p (uV x2));have ba:=uh cE;have bu:=uh (fun(u:World) (h:Below w.heap.size w u)=>h);clear d8 b0 cE;refine G5 12 (fun K M=>?_)
     go_simp
     refine M.out _ _ (ap.out _ _ _ ba.out) fun _=>?_;clear M K r q6 f6;simp only[Gb,G7,G6];refine P_ kr ?_ _;refine z_ ?_;have b7:=uh (And.intro (Eq (x:=x2) N.out.2.2.1 N.out.1 hp) ba.out);clear ba b9 ap;generalize World.setCell _ _ _=u9 at*
     go_wp2_with fail
     go_roundw
     case rel=>exact⟨i+1,W'.set p x2,_,by omega,by go_num,by rw[Qn];exact N.out.1,cp.out W' x2 cA.out N.out.2.1 p,b7.out.1,b7.out.2⟩
     case measure=>simp[intOf];omega
    obtain rfl:i=ol.length:=O;have dJ:¬((ol.length:Nat):Int)<(ol.length:Int):=O;obtain⟨du,dv,aR,aS⟩:=ZY L W' (W'.length/2) 0 O O;have aV:=QR Hb.out HG.out aA aY;obtain⟨G,aT⟩:∃G,G=Ke (Gv B) L W' du dv (zl rs) (ys.map fun v=>(v,v)) (zl ks) a8:=⟨_,rfl⟩
    have e1:G.length <= 4000000000:=by
     rw[aT];exact VM aV aR aS (by rw[RE];omega) (by rw[n_];omega) (by rw[RE];omega) a8
    have cj:=uh (fun u (h:JA w1 u sb tb rb hd wb pb mb lao lcap L W' B W rs (NH ks) m (ac++(ah++(lb++((xb,.cells #[pt sb,pt rb,c2,pt hd,pt pb,.slice la cs.length lc,vw,.slice ra rs.length rc,.slice U ps.length V] 60)::(lL++(aa++(ab++lp))))))))=>EW Hb.out aV aR aS h O bG.out O (fun v hv=>(bB.out v hv).2) bC.out O Hy.out b5 a8 (aM.out u h.has.right.right.left) G aT);have bj:=uh (fun u (h:JA w1 u sb tb rb hd wb pb mb lao lcap L W' B W rs (NH ks) m (ac++(ah++(lb++((xb,.cells #[pt sb,pt rb,c2,pt hd,pt pb,.slice la cs.length lc,vw,.slice ra rs.length rc,.slice U ps.length V] 60)::(lL++(aa++(ab++lp))))))))=>gM Hb.out HG.out aA hz aV aR aS b4 bF.out aP.out.1 aP.out.2.1 aP.out.2.2 d3 (fun v hv=>(bG.out v hv).1) dE (fun v hv=>(bB.out v hv).1) dQ dG dH h aT);have HA:=uh hA;have a1:=uh Z
    have a4:=uh (fun u (hk:Below wr.heap.size wr u) (j:Nat) (x:Value) (hx:(#[pt sb,pt rb,c2,pt hd,pt pb,.slice la cs.length lc,vw,.slice ra rs.length rc,.slice U ps.length V]:Array Value)[j]?= some x)=>(by
     have h1:=((hA.sub (Zy ac _)).has.cell (b:=xb) (c:=#[pt sb,pt rb,c2,pt hd,pt pb,.slice la cs.length lc,vw,.slice ra rs.length rc,.slice U ps.length V]) (e:=60) (f:=(0,0)) (by simp) j).trans hx;exact(hk.cell (p:=(aD xb j)) (c_ _ _ h1)).trans h1:u.cell? (aD xb j)=some x))
    have cm:=uh (fun u (h:JA w1 u sb tb rb hd wb pb mb lao lcap L W' B W rs (NH ks) m (ac++(ah++(lb++((xb,.cells #[pt sb,pt rb,c2,pt hd,pt pb,.slice la cs.length lc,vw,.slice ra rs.length rc,.slice U ps.length V] 60)::(lL++(aa++(ab++lp))))))))=>(by
     obtain⟨ls,lr,lh,lw,om,h1,h2,h3,h4,h5,T⟩:=h;obtain⟨_,_,hr⟩:=h2.at_ (R:=ls++(lh++(lw++((mb,om)::(pb,.cells #[.map (some mb)] 204)::(ac++(ah++(lb++((xb,.cells #[pt sb,pt rb,c2,pt hd,pt pb,.slice la cs.length lc,vw,.slice ra rs.length rc,.slice U ps.length V] 60)::(lL++(aa++(ab++lp))))))))))) (T.has.perm po) (Hb.out.src.below T.below);exact hr.c1:u.cell? (aD rb 1)=some (.slice lao L.length lcap)))
    clear aR aS aV aT aA aY b4 hA Z cp aM aP bF cv bB Hy bC bG hz dR
    go_upto_region 31 with fail
    have r:Below wr.heap.size wr wr.drew:=(r_ (C_ wr)).drew.below;refine F_ ?_;refine rG (S:=fun u=>Below wr.heap.size wr u) 20 ?_;generalize wr.drew=u0 at*;refine G2 0 186 r ?_;refine G2 1 187 r ?_;refine G2 2 188 r ?_;refine Jt 3 189 r (fun w E=>(a4.out w E 0 _ rfl)) ?_;refine G2 4 190 r ?_;refine G2 5 191 r ?_;refine G2 6 192 r ?_;refine Jt 7 193 r (fun w E=>(a4.out w E 3 _ rfl)) ?_;refine G2 8 194 r ?_;refine G2 9 195 r ?_;refine G2 10 196 r ?_;refine G2 11 197 r ?_;refine Jt 12 198 r (fun w E=>(a4.out w E 4 _ rfl)) ?_;refine G2 13 199 r ?_;refine G5 14 (fun K M=>?_)
    go_simp
    refine(cj.out u0 (HA.out.call r)).mono ?_;rintro e u1 ⟨ds,dq,l1,rfl,cY,T1⟩;have y:=r.trans (T1.below.mono r.size);have af:=uh (cY.src (R:=[]) (by rw[p_];exact T1.has));clear T1 r cY;refine M.out _ _ y fun _=>?_;clear M K;simp only[Gb,G7,G6];refine G2 15 185 y ?_;refine G2 16 201 y ?_;refine G2 17 202 y ?_;refine G2 18 25 y ?_;refine G2 19 26 y ?_;refine P_ kr ?_ _;refine z_ ?_;have q1:=a4.out u1 y 1 _ rfl;have q2:=cm.out u1 (HA.out.call y);have bt:=uh y;clear y cm
    go_wp2_with (first
     | (go_at_call 18;refine(bj.out u1 (HA.out.call bt.out)).mono ?_;rintro e u2 ⟨dt,dr,l2,rfl,cZ,T2⟩;have cn:=uh (bt.out.trans (T2.below.mono bt.out.size));have ag:=uh (cZ.src (R:=[]) (by rw[p_];exact T2.has));have af:=uh (af.out.below T2.below);clear T2 cZ bj q1 q2)
     | fail)
    go_upto_region 33 with fail
    obtain⟨bz,bK⟩:∃bz,bz=decide (G.length=0):=⟨_,rfl⟩;have k7:(((G.length:Nat):Int) == 0)=bz:=(by rw[bK,Bool.eq_iff_iff,Qx,decide_eq_true_iff];omega);have dm:=uh bK;clear bK;have r:Below wr.heap.size wr u2.drew:=cn.out.trans ((r_ (C_ u2)).drew.below.mono cn.out.size);have af:=uh (af.out.below (r_ (C_ u2)).drew.below);have ag:=uh (ag.out.below (r_ (C_ u2)).drew.below);refine F_ ?_;refine rG (S:=fun u=>Below wr.heap.size wr u) 36 ?_;generalize u2.drew=u0 at*;refine G2 0 217 r ?_;refine G2 1 218 r ?_;refine G2 2 219 r ?_;refine G2 3 220 r ?_;refine G2 4 221 r ?_;refine G2 5 222 r ?_;refine G2 6 223 r ?_;refine G2 7 224 r ?_;refine G2 8 225 r ?_;refine G5 9 (fun K M=>?_)
    go_simp
    refine(Pg u0 G G ds dq dt dr af.out ag.out O O).mono ?_;rintro e u3 ⟨he,ax⟩;rw[k_ rfl]at he;subst he;have y:=r.trans (ax.mono r.size);clear r ax;refine M.out _ _ y fun _=>?_;clear M K;simp only[Gb,G7,G6];refine G2 10 227 y ?_;refine G2 11 228 y ?_;refine G2 12 229 y ?_;refine G2 13 230 y ?_;refine G2 14 231 y ?_;refine Jt 15 232 y (fun w E=>(a4.out w E 0 _ rfl)) ?_;refine G2 16 233 y ?_;refine G2 17 234 y ?_;refine G2 18 235 y ?_;refine Jt 19 236 y (fun w E=>(a4.out w E 3 _ rfl)) ?_;refine G2 20 237 y ?_;refine G2 21 238 y ?_;refine G2 22 239 y ?_;refine G2 23 240 y ?_;refine Jt 24 241 y (fun w E=>(a4.out w E 4 _ rfl)) ?_;refine G2 25 242 y ?_;refine G2 27 244 y ?_;refine G2 28 245 y ?_;refine G2 29 246 y ?_;refine G5 26 (fun K M=>?_)
    go_simp
    refine(Z0 u3 _ _ _ _ _ G.length (by unfold maxLen;omega) ((cj.out u3 (HA.out.call y)).mono fun e w' ⟨ao,cap,l,h1,h2,h3⟩=>⟨ao,cap,h1,h3.below⟩)).mono ?_;rintro e u4 ⟨he,cF⟩;rw[←dm.out]at he;subst he;have a3:=y.trans (cF.mono y.size);clear y cF;refine M.out _ _ a3 fun _=>?_;clear M K;simp only[Gb,G7,G6];refine G2 30 247 a3 ?_;refine G2 31 248 a3 ?_;refine G2 32 249 a3 ?_;refine G5 33 (fun K M=>?_)
    go_simp
    refine(cc.out u4 (a1.out.trans (a3.mono a1.out.size))).mono ?_;rintro e u5 ⟨rfl,cG⟩;have az:=a3.trans (cG.mono a3.size);clear a3 cG;refine M.out _ _ az fun _=>?_;clear M K;simp only[Gb,G7,G6];refine G2 34 251 az ?_;refine G2 35 10 az ?_;refine P_ kr ?_ _;refine z_ ?_;have dk:=uh (a1.out.trans (az.mono a1.out.size));clear az
    go_wp2_with fail
    go_ret;exact⟨rfl,dk.out⟩
end
end Go.Proofs.YtoaofpohakaliaaGreatDoor
namespace Go.Proofs.YtoaofpohakaliaaGreatDoor.auditTells
open Go
theorem named:Tryz.pinned.checked.prog.funcNamed Rows.auditTellsRow.func=some 3:= by kernel_rfl
theorem looks:false=Tryz.pinned.checked.prog.looks []:=by kernel_rfl
theorem wfText:Rows.auditTellsRow.wfByText (OpenSpec.ofChange Rows.auditTellsSpec)=true:=by kernel_rfl
theorem mainIs : Tryz.pinned.checked.prog.mainIs = some (true, "56121a0ca5cf8b9dfe35f9dea7b0e922189f894c93db66608b679e2b94dd32e3".toList) := by kernel_rfl
theorem goesBy:false=Rows.auditTellsRow.goesBy Tryz.pinned.checked.prog:=by kernel_rfl
theorem closed:joinedFacts Tryz.pinned.checked.prog 3 Tryz.f3 Rows.auditTellsSpec Rows.auditTellsRow=true:=by
 unfold joinedFacts;simp only[Xn]
 and_intros
 all_goals (as_aux_lemma=>kernel_rfl)
end Go.Proofs.YtoaofpohakaliaaGreatDoor.auditTells
