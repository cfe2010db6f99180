/-
  A part of a proof: texts packed by a program of mine.
  Conditions: those that each theorem states.
-/
import Derived.StillTailTactics
import Derived.Deep.QuietTactic
import Derived.BigQuiet
import Derived.Laws.MakeOwn
import Derived.OrdersIn
import Derived.OrdersHeld
import Derived.Deep.RegionHeld
import Derived.RangeFuncNested
import Derived.RangeFuncBox
import Derived.Laws.EntriesVeiled
import Derived.Test.YtoaofpohakaliaaGreatDoorQt1
set_option maxRecDepth 100000
set_option maxHeartbeats 12800000
open Go.Proofs.Tryz
namespace Go.Proofs.YtoaofpohakaliaaGreatDoor
section
open Go Go.RowKit Go.IntWalk
theorem Dx (w:World)(g:Nat)(y:g <= 65536):Calls prog 99 #[iV g] w fun e w'=>e=.returned (uV (1048576+2*g:Nat)) /\ w'=w:=by
 have E:¬(g:Int)<0:=O;obtain⟨z,r⟩:∃z:Nat,Hid (((z:Nat):Int)=1048576+2*(g:Int) /\ z=1048576+2*g):=⟨_,uh ⟨by omega,rfl⟩⟩;rw[←r.out.2]
 go_enter func99,ntmps99
 go_wp2
 go_ret;refine⟨?_,rfl⟩;rw[r.out.1]
 rfl
theorem C6 (w:World)(g:Nat)(y:g <= 65536):Calls prog 28 #[iV g] w fun e w'=>e=.returned (uV (1048576+2*g:Nat)) /\ w'=w:=by
 have E:¬(g:Int)<0:=O;obtain⟨z,r⟩:∃z:Nat,Hid (((z:Nat):Int)=1048576+2*(g:Int) /\ z=1048576+2*g):=⟨_,uh ⟨by omega,rfl⟩⟩;rw[←r.out.2]
 go_enter func28,ntmps28
 go_wp2
 go_ret;refine⟨?_,rfl⟩;rw[r.out.1]
 rfl
theorem jL (w:World)(n:Nat)(h1:1 <= n)(h2:n<16777216):Calls prog 234 #[iV n] w fun e w'=>e=.returned (uV ((Kd n).word:Nat)) /\ Below w.heap.size w w':=by
 have J:=Gr;have V:=ML h1 h2;obtain⟨y,G,ht⟩:∃y:Nat,(if n=1 then 2 else 3)=y /\ (y=2∨y=3):=⟨_,rfl,by split<;>simp⟩;have a0:Kd n=⟨y,0,0,n⟩:=by unfold Kd;rw[G]
 rw[a0]at V ⊢;have Hg:=uh (fun W=>jM W y n ht h1 h2);have He:=uh (fun W=>PP W ⟨y,0,0,n⟩ (M8 V));rw[v_ V,v_ V]at He;generalize(Hd.mk y 0 0 n).word=z at*;have ho:(#[yV y,iV 0,iV 0,iV n]:Array Value).all (·.oneCell')=true:=GP ⟨y,0,0,n⟩;have hn:=C_ w;have HX:=uh (fun w1 (r:Below w.heap.size w w1)=>((Ze hn r).alloc zH).laid [yV y,iV ((0:Nat):Int),iV ((0:Nat):Int),iV n] rfl);have U:=uh (fun w1 (r:Below w.heap.size w w1)=>(((Ze hn r).alloc zH).there1:(w1.alloc zH).there w1.heap.size 0 4));clear V a0 hn;have a2:True:=trivial
 by_cases a1:n=1
 · subst a1
   rw[v_ rfl]at G;subst G
   go_enter func234,ntmps234
   go_wp2_with (first
    | (go_at_call 252;refine(Hg.out _).mono ?_;rintro e w1 ⟨rfl,r⟩;have Z:=U.out w1 r;have M:=uh (HX.out w1 r);have hr:=M.out.range1;clear r)
    | (show sW 125;refine h_ rfl 125 _ _ rfl _ 0 #[yV 2,iV 0,iV 0,iV 1] rfl rfl Z J ho ?_)
    | (show lW 125;refine J_ rfl 125 _ rfl w1.heap.size 0 rfl [yV 2,iV 0,iV 0,iV 1] _ hr underlying125 rfl J ?_)
    | (go_at_call 219;refine(He.out _).mono ?_;rintro e w2 ⟨rfl,E⟩;have N:=uh (M.out.call E);clear E)
    | fail)
   go_ret;exact⟨rfl,N.out.below⟩
 · rw[y_ a1]at G
   subst G;have k1:¬(n:Int)=1:=O
   go_enter func234,ntmps234
   go_wp2_with (first
    | (go_at_call 252;refine(Hg.out _).mono ?_;rintro e w1 ⟨rfl,r⟩;have Z:=U.out w1 r;have M:=uh (HX.out w1 r);have hr:=M.out.range1;clear r)
    | (show sW 125;refine h_ rfl 125 _ _ rfl _ 0 #[yV 3,iV 0,iV 0,iV n] rfl rfl Z J ho ?_)
    | (show lW 125;refine J_ rfl 125 _ rfl w1.heap.size 0 rfl [yV 3,iV 0,iV 0,iV n] _ hr underlying125 rfl J ?_)
    | (go_at_call 219;refine(He.out _).mono ?_;rintro e w2 ⟨rfl,E⟩;have N:=uh (M.out.call E);clear E)
    | fail)
   go_ret;exact⟨rfl,N.out.below⟩
abbrev G1 (s a tb bb:Nat):Blk:=(s,.cells #[pt a,pt tb,pt bb] 129)
theorem XT {l L:List Blk}{w0:World}(w:World)(hF:Fields w){s a aw tb bb:Nat}{W:List Nat}{c:Int}(T:Turn l w0 (G0 a aw W c++L) w)(hs:G1 s a tb bb∈L)(hf:W.length <= 65536)(g n:Nat)(hg:g+n <= W.length/2):
  Calls prog 78 #[pt s,iV g,iV n] w fun e w'=>(∃u,e=.returned u) /\ ∃c':Int,Turn l w0 (G0 a aw (lay W g n) c'++L) w':=by
 have V:=Gr
 by_cases h0:n=0
 · subst h0
   have hl:lay W g 0=W:=(by unfold lay;rw[v_ rfl]);rw[hl];have E:=uh T;clear T hl
   go_enter func78,ntmps78
   go_wp2
   refine f_ (Zg rfl _ _ _) rfl ?_;exact⟨⟨_,rfl⟩,c,E.out⟩
 have h1:1 <= n:=O;have h2:n<16777216:=O;have hl:lay W g n=W.set (2*g) (Kd n).word:=by unfold lay;rw[y_ h0]
 rw[hl];have hm:=ML h1 h2;obtain⟨y,N,ht⟩:∃y:Nat,(if n=1 then 2 else 3)=y /\ (y=2∨y=3):=⟨_,rfl,by split<;>simp⟩;have a4:Kd n=⟨y,0,0,n⟩:=by unfold Kd;rw[N]
 rw[a4]at hm ⊢;have Hg:=uh (fun W' (U:Below w.heap.size w W')=>jK W' (range_below hF U) y n ht h1 h2);have He:=uh (fun W' (U:Below w.heap.size w W')=>gH W' (range_below hF U) ⟨y,0,0,n⟩ hm);generalize(Hd.mk y 0 0 n).word=z at*;have ho:(#[yV y,iV 0,iV 0,iV n]:Array Value).all (·.oneCell')=true:=GP ⟨y,0,0,n⟩;have Z:=uh (C_ w);have a3:=uh (fun W' (U:Below w.heap.size w W')=>((T.call U).has.cell (b:=s) (c:=#[pt a,pt tb,pt bb]) (e:=129) (f:=(0,0)) (s_.2 (.inr hs)) 0:W'.cell? (aD s 0)=some (pt a)));have a1:=uh (fun W' (U:Below w.heap.size w W')=>VH W' (T.call U) hf (2*g) z O);rw[show((2*g:Nat):Int)=2*(g:Int)by omega]at a1;have a6:g <= 65536:=O;clear hm a4 hF T hs hl hg
 by_cases a5:n=1
 · subst a5
   rw[v_ rfl]at N;subst N
   go_enter func78,ntmps78
   go_wp2_with (first
    | (go_at_call 130;refine(Hg.out _ (T_ _ _)).mono ?_;rintro e w1 ⟨rfl,r⟩;have a2:(w1.alloc zH).there w1.heap.size 0 4:=((Ze Z.out r).alloc zH).there1;have E:=uh (((Ze Z.out r).alloc zH).laid [yV ((2:Nat):Int),iV ((0:Nat):Int),iV ((0:Nat):Int),iV ((1:Nat):Int)] rfl).below;have hr:=(((Ze Z.out r).alloc zH).laid [yV ((2:Nat):Int),iV ((0:Nat):Int),iV ((0:Nat):Int),iV ((1:Nat):Int)] rfl).range1;clear r)
    | (show sW 125;refine h_ rfl 125 _ _ rfl _ 0 #[yV 2,iV 0,iV 0,iV 1] rfl rfl a2 V ho ?_)
    | (show lW 125;refine J_ rfl 125 _ rfl w1.heap.size 0 rfl [yV 2,iV 0,iV 0,iV 1] _ hr underlying125 rfl V ?_)
    | (go_at_call 131;refine(He.out _ E.out).mono ?_;rintro e w2 ⟨rfl,J⟩;have G:=uh (E.out.trans (J.mono E.out.size));clear J;have cs:=a3.out w2 G.out)
    | (go_at_call 16;refine(a1.out w2 G.out).mono ?_;rintro e w3 ⟨rfl,n',M⟩;have a0:=uh M;clear M)
    | fail)
   go_end0;exact⟨⟨_,rfl⟩,n',a0.out⟩
 · rw[y_ a5]at N
   subst N;have k1:¬(n:Int)=1:=O;have k2:¬(n:Int)<1:=O
   go_enter func78,ntmps78
   go_wp2_with (first
    | (go_at_call 130;refine(Hg.out _ (T_ _ _)).mono ?_;rintro e w1 ⟨rfl,r⟩;have a2:(w1.alloc zH).there w1.heap.size 0 4:=((Ze Z.out r).alloc zH).there1;have E:=uh (((Ze Z.out r).alloc zH).laid [yV ((3:Nat):Int),iV ((0:Nat):Int),iV ((0:Nat):Int),iV ((n:Nat):Int)] rfl).below;have hr:=(((Ze Z.out r).alloc zH).laid [yV ((3:Nat):Int),iV ((0:Nat):Int),iV ((0:Nat):Int),iV ((n:Nat):Int)] rfl).range1;clear r)
    | (show sW 125;refine h_ rfl 125 _ _ rfl _ 0 #[yV 3,iV 0,iV 0,iV n] rfl rfl a2 V ho ?_)
    | (show lW 125;refine J_ rfl 125 _ rfl w1.heap.size 0 rfl [yV 3,iV 0,iV 0,iV n] _ hr underlying125 rfl V ?_)
    | (go_at_call 131;refine(He.out _ E.out).mono ?_;rintro e w2 ⟨rfl,J⟩;have G:=uh (E.out.trans (J.mono E.out.size));clear J;have cs:=a3.out w2 G.out)
    | (go_at_call 16;refine(a1.out w2 G.out).mono ?_;rintro e w3 ⟨rfl,n',M⟩;have a0:=uh M;clear M)
    | fail)
   go_end0;exact⟨⟨_,rfl⟩,n',a0.out⟩
theorem QZ {l L:List Blk}{w0:World}(w:World)(hF:Fields w){a aw tb:Nat}{W:List Nat}{c:Int}(T:Turn l w0 (G0 a aw W c++L) w)(hf:W.length <= 65536)(y:List Ty)(a5:∀t∈y,TyIn t)(hL:y.length <= 1000)(ao:Option Addr)(cap:Nat)(hT:TabAt w tb ao cap y)
  (g r n sz:Nat)(he:GH y r n=0)(hs:GY y r n=sz)(hm:(Hd.mk 1 r n sz).may)(hg:g+sz <= W.length/2):
  Calls prog 81 #[pt a,pt tb,iV g,iV r,iV n] w fun e w'=>e=.returned (iV 0) /\ ∃c':Int,Turn l w0 (G0 a aw (mk W g ⟨1,r,n,sz⟩) c'++L) w':=by
 have a7:=Gr;have M:=uh (FD w y a5 hL tb ao cap hT r n);unfold KB at M;rw[he,v_ rfl,hs]at M;have He:=uh (fun W' (N:Below w.heap.size w W')=>gH W' (range_below hF N) ⟨1,r,n,sz⟩ hm);have hA:=JQ T.has hf;have J:=uh (fun W' (N:Below w.heap.size w W')=>D3 W' (hA.below N));have a0:=uh (fun W' (N:Below w.heap.size w W')=>j2 W' (T.call N) hf (2*g) (2*sz) O);have a2:=uh (fun W' c' (T':Turn l w0 (G0 a aw (L5 W (2*g) (2*sz)) c'++L) W')=>VH W' T' (by rw[Lq];exact hf) (2*g) (Hd.mk 1 r n sz).word (by rw[Lq];have h9:1 <= sz:=hm.1;omega));rw[show((2*g:Nat):Int)=2*(g:Int)by omega,show((2*sz:Nat):Int)=2*(sz:Int)by omega]at a0;rw[show((2*g:Nat):Int)=2*(g:Int)by omega]at a2;have ae:g <= 65536 /\ sz <= 65536:=O;obtain⟨af,ag⟩:=ae;obtain⟨z,hz⟩:∃z:Nat,W.length/2=z:=⟨_,rfl⟩;rw[hz]at J hg;have aj:z <= 65536:=O;have hn:=uh (C_ w);have ho:(#[yV 1,iV r,iV n,iV sz]:Array Value).all (·.oneCell')=true:=GP ⟨1,r,n,sz⟩;have a6:mk W g ⟨1,r,n,sz⟩=(L5 W (2*g) (2*sz)).set (2*g) (Hd.mk 1 r n sz).word:=rfl;rw[a6];generalize(Hd.mk 1 r n sz).word=wd at*;clear a6 hF T hT he hs hm hA hz a5;have k1:decide ((g:Int)<0)=false:=b_ O;have k2:decide ((z:Int)<(g:Int))=false:=b_ O;have ak:¬((z:Int)<(g:Int)):=O;have am:decide (z<g)=false:=b_ O;have k3:IntKind.i64.wrap ((z:Int)-(g:Int))=(z:Int)-(g:Int):=i64_in _ O;have k4:decide (((z:Int)-(g:Int))<(sz:Int))=false:=b_ O
 have an:¬((z:Int)-(g:Int))<(sz:Int):=O
 go_enter func81,ntmps81
 go_upto_region 6 with(first
  | (go_at_call 79;refine M.out.mono ?_;rintro e w1 ⟨rfl,U⟩;have a8:(w1.alloc zH).there w1.heap.size 0 4:=((Ze hn.out U).alloc zH).there1;have HT:=uh (((Ze hn.out U).alloc zH).laid [yV 1,iV r,iV n,iV sz] rfl);clear U)
  | (show sW 125;refine h_ rfl 125 _ _ rfl _ 0 #[yV 1,iV r,iV n,iV sz] rfl rfl a8 a7 ho ?_;clear a8)
  | fail)
 refine J1 (fun W1=>Turn [] w [(w1.heap.size,.cells #[yV 1,iV r,iV n,iV sz] 125)] W1) HT.out fun W1 Z=>?_;have c3:=Z.cell1 3;have a1:=uh (fun n=>J.out (W1.drewN n) (Z.drewN n).below);have G:=uh Z;clear Z HT
 go_quiet (first|(go_at_call 86;refine Calls.quiet_of_same (a1.out _)))
 have Hr:=uh (fun n=>(G.out.drewN n).range1);have E:=uh (fun n=>(G.out.drewN n).below);clear J a1 G c3
 go_wp2_with (first
  | (show lW 125;refine J_ rfl 125 _ rfl w1.heap.size 0 rfl [yV 1,iV r,iV n,iV sz] _ (Hr.out _) underlying125 rfl a7 ?_)
  | (go_at_call 131;refine(He.out _ (E.out _)).mono ?_;rintro e w2 ⟨rfl,V⟩;have a9:=uh ((E.out _).trans (V.mono (E.out _).size));have c3:=(range_below (Hr.out _) V) 3 _ rfl;rw[Q_]at c3;clear V)
  | (go_at_call 134;refine(a0.out _ a9.out).mono ?_;rintro e w3 ⟨rfl,ah,a3⟩;have aa:=uh a3;clear a3)
  | (go_at_call 16;refine(a2.out _ _ aa.out).mono ?_;rintro e w4 ⟨rfl,ac,a4⟩;have ab:=uh a4;clear a4)
  | fail)
 go_ret;exact⟨rfl,ac,ab.out⟩
theorem GF:Elem prog 24 36 1 8 (uV 0):=Jm underlying24 kr rfl
theorem Mx (W:List Nat):∀u∈u64s W,u.oneCell'=true:=by
 intro u r;obtain⟨x,-,rfl⟩:=U_.1 r
 rfl
theorem Ls (W:List Nat)(i v:Nat):(u64s W).set i (uV v)=u64s (W.set i v):=by unfold u64s;rw[List.map_set]
def Ks (rb:Nat)(lao:Option Addr)(ln lcap:Nat)(W:List Nat)(l:List Blk):Prop:=
 ∃ao cap lr,Gh 36 1 ao W.length cap (u64s W) lr /\ l=(rb,rN ao W cap lao ln lcap)::lr
theorem AH {l0 l R:List Blk}{w0:World}(w:World){rb:Nat}{lao:Option Addr}{G lcap:Nat}{W:List Nat}(hI:Ks rb lao G lcap W l)(T:Turn l0 w0 (l++R) w)(hf:W.length <= 65536)(g n:Nat)(hg:g+n <= W.length/2):
  Calls prog 201 #[pt rb,iV g,iV n] w fun e w'=>(∃u,e=.returned u) /\ ∃l',Ks rb lao G lcap (lay W g n) l' /\ Turn l0 w0 (l'++R) w':=by
 by_cases h0:n=0
 · subst h0
   have N:lay W g 0=W:=(by unfold lay;rw[v_ rfl]);rw[N];have HT:=uh T;have HI:=uh hI;clear T hI N
   go_enter func201,ntmps201
   go_wp2
   refine f_ (Zg rfl _ _ _) rfl ?_;exact⟨⟨_,rfl⟩,l,HI.out,HT.out⟩
 obtain⟨ao,cap,lr,V,rfl⟩:=hI;have h1:1 <= n:=O;have h2:n<16777216:=O;have N:lay W g n=W.set (2*g) (Kd n).word:=by unfold lay;rw[y_ h0]
 rw[N];have Hg:=uh (fun W'=>jL W' n h1 h2);generalize(Kd n).word=z at*;have T1:=T.perm (l2:=lr++((rb,.cells #[.slice ao W.length cap,.slice lao G lcap] 62)::R)) po;have Z:=V.src T1.has;have c0:w.cell? (aD rb 0)=some (.slice ao W.length cap):=T.has.cell (b:=rb) (c:=#[.slice ao W.length cap,.slice lao G lcap]) (e:=62) (f:=(0,0)) (by simp) 0;have a5:=Zb 36 1;have aa:0+W.length <= maxLen:=by unfold maxLen;omega
 have ab:(0+W.length)*8 <= 140737488355328:=O;have a6:=Mx W;have HT:=uh T;have hk:¬(n:Int)<1:=O;have a4:2*g<W.length:=O;have ag:2*(g:Int)<(W.length:Int):=O;have ah:(2*(g:Int)).toNat=2*g:=O;have af:g <= 65536:=O;clear T T1 N V
 go_enter func201,ntmps201
 go_wp2_with (first
  | (at_builtin;refine Qv rfl _ _ rfl GF rfl rfl a5 (R:=(rb,.cells #[.slice ao W.length cap,.slice lao G lcap] 62)::lr++R) HT.out.has Z a6 aa ab ?_;intro a9 r ac w1 E a3;have a1:=uh E;have a0:=uh (HT.out.trans a3);clear E a3 Z)
  | fail)
 have E:Gh 36 1 a9 W.length r (u64s W) ac:=by have h:=a1.out;rwa [Q_,L_]at h
 obtain⟨y,M,rfl,rfl,-,-⟩:=E.some_of O;have U:=E.set (2*g) (uV z);rw[Ls]at U;refine(Hg.out w1).mono ?_;rintro e w2 ⟨rfl,a2⟩;have T2:=a0.out.call a2;have J:Turn l0 w0 ((y,.cells M 36)::(rb,.cells #[.slice ao W.length cap,.slice lao G lcap] 62)::(lr++R)) w2:=T2.perm po;have hv:(u64s W)[2*g]?= some (uV (W[2*g])):=JG (a_ a4);have c1:w2.cell? (aD y (2*g))=some (uV (W[2*g])):=(E.cell (R:=(rb,.cells #[.slice ao W.length cap,.slice lao G lcap] 62)::(lr++R)) J.has (2*g) (by rw[Xs];exact a4)).trans hv;have f1:w2.frozen? (aD y (2*g))=false:=J.free1 (2*g);have T3:=J.setCell (2*g) (uV z);have c3:=T3.cell2 0;have f3:=T3.free2 0;have ae:(w2.setCell (aD y (2*g)) (uV z)).cell? (aD rb 0)=some (.slice ao W.length cap):=c3;have T4:=(T3.swap.setCell 0 (.slice (some (aD y 0)) W.length r));have a7:=uh T4;have a8:=uh U;clear T2 J T3 T4 a2 a0 a1 E U hv c3
 go_wp2
 go_end0;refine⟨⟨_,rfl⟩,(rb,.cells #[.slice (some (aD y 0)) (W.set (2*g) z).length r,.slice lao G lcap] 62)::[(y,.cells (M.setIfInBounds (2*g) (uV z)) 36)],⟨some (aD y 0),r,[(y,.cells (M.setIfInBounds (2*g) (uV z)) 36)],?_,rfl⟩,(a7.out.perm (l2:=lr++((rb,.cells #[.slice (some (aD y 0)) (W.set (2*g) z).length r,.slice lao G lcap] 62)::(y,.cells (M.setIfInBounds (2*g) (uV z)) 36)::R)) ?_).drop⟩
 · have h:=a8.out
   rw[Qn];exact h
 · rw[Qn]
   exact Yh fun c=>by simp;omega
end
section
open Go Go.RowKit Go.Shelf Go.IntWalk
attribute [local go_sem] Oper.semAt_some
def GD (bb:Nat)(B:List Nat)(n:Nat)(l:List Blk):Prop:=
 ∃bo cap lr,Gh 36 1 bo B.length cap (u64s B) lr /\ l=(bb,.cells #[.slice bo B.length cap,iV n] 233)::lr
theorem GD.cells {bb:Nat}{B:List Nat}{n:Nat}{l:List Blk}(h:GD bb B n l):∀x∈l,x.2.isCells=true:=by
 obtain⟨E,cap,G,y,rfl⟩:=h;intro x r;rcases t_.1 r with rfl|r
 ·rfl
 ·exact y.cells x r
theorem GD.cell {bb:Nat}{B:List Nat}{n:Nat}{l R:List Blk}{w:World}(h:GD bb B n l)(y:Has w (l++R)):w.cell? (aD bb 1)=some (iV n):=by
 obtain⟨r,cap,G,E,rfl⟩:=h;exact y.cell (b:=bb) (c:=#[.slice r B.length cap,iV n]) (e:=233) (f:=(0,0)) (by simp) 1
theorem jW (w:World)(bb r i k:Nat)(y:w.cell? (aD bb 1)=some (iV r))(h:i+k <= r)(E:r <= 65536):
  Calls prog 179 #[pt bb,iV i,iV k] w fun e w'=>e=.returned (iV 0) /\ w'=w:=by
 have G:decide ((i:Int) <= (r:Int))=true:=k_ O;have J:decide ((k:Int) <= (r:Int)-(i:Int))=true:=k_ O;have M:decide (i <= r)=true:=k_ O
 go_enter func179,ntmps179
 go_wp2_with fail
 go_ret;exact⟨rfl,rfl⟩
end
section
open Go Go.RowKit Go.Shelf Go.IntWalk
attribute [local go_sem] Oper.semAt_some
def GG (s bb:Nat)(vi vn:Value):List Blk:=[(s+1+1,.cells #[vn] 3),(s+1,.cells #[vi] 3),(s,.cells #[pt bb] 118)]
theorem JS (s bb:Nat)(y E:Value):∀x∈GG s bb y E,x.2.isCells=true:=by
 intro x r;simp only[GG,t_,Zu,or_false]at r;rcases r with rfl|rfl|rfl<;>rfl
theorem Fx {l X:List Blk}{w A B:World}{s bb:Nat}{r y:Value}(E:Turn l w (GG s bb r y++X) A)(G:Dz (s+1+1) (s+1) A B):∃r y,Turn l w (GG s bb r y++X) B:=by
 obtain⟨v,rfl|rfl⟩:=G
 ·exact⟨r,v,Jk (c:=#[y]) E 0 v⟩
 ·exact⟨v,y,(Jk (c:=#[r]) E.swap 0 v).swap⟩
theorem Wu {A B:World}{D Bn Bi:Nat}(r:Loop)(E:Dz Bn Bi A B)(y:Marks D r A):Marks D r B:=by
 obtain⟨v,rfl|rfl⟩:=E
 ·exact y.keeps ((KeepsOthers.setCell _ _ _).from _)
 ·exact y.keeps ((KeepsOthers.setCell _ _ _).from _)
theorem ZN {l X Y X' M:List Blk}{w W' A:World}{s bb:Nat}{r y:Value}(h:Turn l w (X++(GG s bb r y++Y)) A)(E:Turn l w (X'++(GG s bb r y++M)) W'):KpBox (s+1+1) (s+1) A W':=
 have G:(s+1+1,Obj.cells #[y] 3 (0,0))∈GG s bb r y:=by simp[GG]
 have J:(s+1,Obj.cells #[r] 3 (0,0))∈GG s bb r y:=by simp[GG]
 ⟨(E.has.own _ _ (Qt _ (Zr _ G))).trans (h.has.own _ _ (Qt _ (Zr _ G))).symm,
  (E.has.own _ _ (Qt _ (Zr _ J))).trans (h.has.own _ _ (Qt _ (Zr _ J))).symm⟩
def BZ (s nb bb i k:Nat)(x:Nat×Nat):Act:=
 { tmps:=#[pt bb,iV i,iV k,pt s,undef,undef,iV 0,iV 0,pt nb,pt bb,iV i,iV k,iV 0,iV 0,.bool false,undef,iV i,iV k,
   .func (.func 225) #[] #[pt (s+1+1),pt (s+1)],.agg #[iV (x.1/64:Nat),iV (x.1%64:Nat),uV (J4 x.2 (x.1%64):Nat)],undef,undef,undef,undef,undef,undef,undef,undef,undef,undef,undef,undef,undef],defers:=[] }
def KY (x:Nat×Nat):Obj:=.cells #[iV (x.1/64:Nat),iV (x.1%64:Nat),uV (J4 x.2 (x.1%64):Nat)] 312
theorem YW (n:Nat)(hn:4 <= n)(bb U i k:Nat)(B:List Nat)(l:List Blk)(hI:GD bb B U l)(hB:u64ok B)(hL:(U+63)/64 <= B.length)(h:i+k <= U)(h0:U <= 65536)(w:World)(hH:Has w l):
  CallsIn Fence.wide n prog 135 #[pt bb,iV i,iV k] w fun e W'=>e=.returned (iV 0) /\ ∃B' l',Lg B B' i k /\ GD bb B' U l' /\ Turn l w l' W':=by
 have h1:1 <= n:=O;have h2:1 <= n-1-1:=O;have h3:Fence.wide.fn 135:= trivial;have h5:Fence.wide.fn 179:= trivial;have h6:Fence.wide.fn 180:= trivial;have h7:Fence.wide.fn 225:= trivial;have ae:Fence.wide.round=none:=rfl;have T1:=(r_ hH).alloc (.cells #[pt bb] 118);have c1:(w.alloc (.cells #[pt bb] 118)).cell? ⟨bb,1,none⟩=some (iV U):=hI.cell (R:=[(w.heap.size,.cells #[pt bb] 118)]) (T1.has.perm po);have T3:=(T1.alloc (.cells #[iV i] 3)).alloc (.cells #[iV k] 3);simp only[Y_]at T3;have a1:Turn l w (GG w.heap.size bb (iV i) (iV k)++l) (((w.alloc (.cells #[pt bb] 118)).alloc (.cells #[iV i] 3)).alloc (.cells #[iV k] 3)):=T3;have au:(((w.alloc (.cells #[pt bb] 118)).alloc (.cells #[iV i] 3)).alloc (.cells #[iV k] 3)).heap.size=w.heap.size+3:=by simp
 clear T1 T3;refine callsIn_of_wp_marks func135 rfl h3 ?_ ae;simp only[ntmps135,Z_,B_,Qj,Nat.reduceAdd,Nat.reduceSub,S_,R_,Qc,X_,L_,Qd]
 gi_wp2_with (first
  | (gi_at_call 179;refine(N_.2 (jW _ bb U i k c1 h h0)).mono ?_;rintro e w' ⟨rfl,hw⟩;rw[hw];clear hw w')
  | (gi_at_call 180;refine(UA (n-1) _ _ _).mono ?_;rintro e w' ⟨rfl,hw⟩;rw[hw];clear hw w')
  | fail)
 generalize(((w.alloc (.cells #[pt bb] 118)).alloc (.cells #[iV i] 3)).alloc (.cells #[iV k] 3))=W0 at*;clear c1
 have a2:Has W0 (G9 (w.heap.size+1+1) (w.heap.size+1) k i):=a1.has.sub (by
  show List.Sublist (G9 (w.heap.size+1+1) (w.heap.size+1) k i) (GG w.heap.size bb (iV i) (iV k)++l)
  exact((Xy [_,_]).append (List.nil_sublist _)))
 refine Md ae h1 (gf:=225) (lb:=#[pt (w.heap.size+1+1),pt (w.heap.size+1)]) rfl h7 (enters_of func225 kr rfl)
  (Uz (n-1) O (w.heap.size+1+1) (w.heap.size+1) i k O W0 a2) (fun A B r hu hm=>Wu r hu hm) (fun h k=>⟨k.n.trans h.n,k.i.trans h.i⟩)
  (fun W l o o' aB aL hc hw=>⟨World.putObj_heap_other O,World.putObj_heap_other O⟩) (T_ _ _) (fun _=>rfl)
  (fun pre W=>∃B' l' M N,Lg B B' i (G3 pre) /\ GD bb B' U l' /\ Turn l w (GG w.heap.size bb M N++l') W)
  (fun _ _ _=>False)
  (fun x a' pre W=>∃V B' l' M N,a'=BZ w.heap.size V bb i k x /\ Lg B B' i (G3 pre) /\ GD bb B' U l' /\ Turn l w ((V,KY x)::(GG w.heap.size bb M N++l')) W)
  (fun s A D row ⟨B',l',M,N,G,J,E⟩ hg hr=>⟨B',l',M,N,G,J,E.grownB O (fun x hx=>(s_.1 hx).elim (JS _ _ _ _ x) (J.cells x)) hg hr⟩)
  (fun c s A D row hf=>hf.elim)
  (fun x a' s A D row ⟨V,B',l',M,N,e0,G,J,E⟩ hg hr=>⟨V,B',l',M,N,e0,G,J,E.grownB O (by
    intro y hy;rcases t_.1 hy with rfl|hy
    ·rfl
    ·exact(s_.1 hy).elim (JS _ _ _ _ y) (J.cells y)) hg hr⟩)
  ⟨B,l,iV i,iV k,Lg.refl hB i,hI,a1⟩
  (fun pre A D ⟨B',l',M,N,G,J,E⟩ hu=>by
    obtain⟨an,ap,ak⟩:=Fx E hu;exact⟨B',l',an,ap,G,J,ak⟩) ?assign ?body ?done ?stop
 case assign=>
  rintro l1 pre x W a4 ⟨B',l',M,N,G,J,E⟩;have a8:=uh (E.alloc (KY x));have HT:=uh E;have HE:=uh (⟨G,J⟩:Lg B B' i (G3 pre) /\ GD bb B' U l');clear a4 E G J a1 a2;obtain⟨x1,x2⟩:=x;unfold Vj
  gi_wp2_with fail
  exact⟨(KeepsOthers.alloc _ _).from _,ZN (X:=[]) (X':=[_]) HT.out a8.out,W.heap.size,B',l',M,N,rfl,HE.out.1,HE.out.2,a8.out⟩
 case body=>
  rintro l1 pre x a' W a4 ⟨V,B',l',M,N,rfl,G,J,E⟩;obtain⟨aC,rfl⟩:=a4;have a5:=Ck (i+G3 pre) (k-G3 pre);have am:=Ps (i+G3 pre) (k-G3 pre);have hq:(i+G3 pre)/64<B'.length:=by rw[G.1];omega
  have a7:=uh (G.step (k:=pk (i+G3 pre) (k-G3 pre)) a5 (by rw[←G.1];exact hq));have af:G3 (pre++[(i+G3 pre,pk (i+G3 pre) (k-G3 pre))])=G3 pre+pk (i+G3 pre) (k-G3 pre):=RQ ..;have ag:=MK G.2.1 ((i+G3 pre)/64);have ac:=Rq a5;have aq:=FB ag ac
  have aA:∀x∈(V,KY (i+G3 pre,pk (i+G3 pre) (k-G3 pre)))::(GG w.heap.size bb M N++l'),x.2.isCells=true:=by
   intro y hy;rcases t_.1 hy with rfl|hy
   ·rfl
   ·exact(s_.1 hy).elim (JS _ _ _ _ y) (J.cells y)
  obtain⟨bo,cap,lr,a0,rfl⟩:=J;obtain⟨Z,aa,rfl,rfl,-,-⟩:=a0.some_of O;have a6:=a0.set ((i+G3 pre)/64) (uV (B'.getD ((i+G3 pre)/64) 0 ||| J4 (pk (i+G3 pre) (k-G3 pre)) ((i+G3 pre)%64):Nat));rw[Ls]at a6;have ab:B'.getD ((i+G3 pre)/64) 0=B'[(i+G3 pre)/64]:=by rw[M_,a_ hq];rfl
  have hv:(u64s B')[(i+G3 pre)/64]?= some (uV (B'.getD ((i+G3 pre)/64) 0:Nat)):=by rw[ab];exact JG (a_ hq)
  have aF:bits .or .u64 ((B'.getD ((i+G3 pre)/64) 0:Nat):Int) ((J4 (pk (i+G3 pre) (k-G3 pre)) ((i+G3 pre)%64):Nat):Int)=((B'.getD ((i+G3 pre)/64) 0 ||| J4 (pk (i+G3 pre) (k-G3 pre)) ((i+G3 pre)%64):Nat):Int):=bits_or_u64_nat _ _ ag ac;have T2:=E.perm (l2:=(Z,.cells aa 36)::((V,KY (i+G3 pre,pk (i+G3 pre) (k-G3 pre)))::(GG w.heap.size bb M N++[(bb,.cells #[.slice (some ⟨Z,0,none⟩) B'.length cap,iV U] 233)]))) (Yh fun c=>by simp[GG];omega);have cg:W.cell? ⟨Z,(i+G3 pre)/64,none⟩=some (uV (B'.getD ((i+G3 pre)/64) 0:Nat)):=(a0.cell (R:=(V,KY (i+G3 pre,pk (i+G3 pre) (k-G3 pre)))::(GG w.heap.size bb M N++[(bb,.cells #[.slice (some ⟨Z,0,none⟩) B'.length cap,iV U] 233)])) T2.has ((i+G3 pre)/64) (by rw[Xs];exact hq)).trans hv;have fg:W.frozen? ⟨Z,(i+G3 pre)/64,none⟩=false:=T2.free1 _;have ax:W.cell? ⟨V,0,none⟩=some (iV ((i+G3 pre)/64:Nat)):=E.cell1 0;have ay:W.cell? ⟨V,2,none⟩=some (uV (J4 (pk (i+G3 pre) (k-G3 pre)) ((i+G3 pre)%64):Nat)):=E.cell1 2;have az:W.cell? ⟨w.heap.size,0,none⟩=some (pt bb):=E.has.cell (b:=w.heap.size) (c:=#[pt bb]) (e:=118) (f:=(0,0)) (by simp[GG]) 0;have av:W.cell? ⟨bb,0,none⟩=some (.slice (some ⟨Z,0,none⟩) B'.length cap):=E.has.cell (b:=bb) (c:=#[.slice (some ⟨Z,0,none⟩) B'.length cap,iV U]) (e:=233) (f:=(0,0)) (by simp[GG]) 0
  have T5:=(T2.setCell ((i+G3 pre)/64) (uV (B'.getD ((i+G3 pre)/64) 0 ||| J4 (pk (i+G3 pre) (k-G3 pre)) ((i+G3 pre)%64):Nat))).perm (l2:=(V,KY (i+G3 pre,pk (i+G3 pre) (k-G3 pre)))::(GG w.heap.size bb M N++[(bb,.cells #[.slice (some ⟨Z,0,none⟩) B'.length cap,iV U] 233),(Z,.cells (aa.setIfInBounds ((i+G3 pre)/64) (uV (B'.getD ((i+G3 pre)/64) 0 ||| J4 (pk (i+G3 pre) (k-G3 pre)) ((i+G3 pre)%64):Nat))) 36)])) (Yh fun c=>by simp[GG];omega);have a3:=uh T5;have HT:=uh E;have ah:=uh a6;have aj:=uh af;have aK:(((i+G3 pre)/64:Nat):Int)<(B'.length:Int):=O;clear E T2 T5 a6 af a0 hv G a2 a1 ab am a5;unfold Y2 at a7;unfold BZ;simp only;generalize aE:J4 (pk (i+G3 pre) (k-G3 pre)) ((i+G3 pre)%64)=mk at*;generalize aG:(i+G3 pre)/64=q at*;generalize aH:B'.getD q 0=bv at*;generalize aJ:(i+G3 pre)%64=r at*
  gi_wp2_with fail
  refine L9 (Gu _ _ _) 13 kr kr kr ?_;simp only[List.take_succ_cons,List.take_zero,List.drop_succ_cons,List.drop_zero]
  iterate 13 still_step
  refine wpStill_nil ?_
  gi_wp2_with fail
  have a9:=a3.out.drew;refine⟨⟨(KeepsOthers.setCell W _ _).size,fun k o _ hk ho=>(KeepsOthers.setCell W _ _).same k o hk ho⟩,ZN (X:=[_]) (X':=[_]) HT.out a9,B'.set q (.lor bv mk),_,M,N,by rw[aj.out];exact a7.out,⟨some ⟨Z,0,none⟩,cap,_,by rw[Qn];exact ah.out,by rw[Qn]⟩,a9.tail⟩
 case done=>
  rintro D xs W hD hS ⟨B',l',M,N,G,J,E⟩ hK;rw[hS]at G;have T5:=E.grownB (B:=W0.heap.size) O (fun x hx=>(s_.1 hx).elim (JS _ _ _ _ x) (J.cells x)) (grownBy_putObj' W D (.deferred none)) (fun r e=>by cases e;exact⟨hD,_,hK,rfl⟩);have a3:=uh T5.drop;have HE:=uh (⟨G,J⟩:Lg B B' i k /\ GD bb B' U l');clear E T5 G J a1 a2 hS
  gi_wp2_with fail
  refine⟨by simp,.inl ⟨_,_,rfl,run_takeDeferred hK,?_⟩⟩;refine⟨iV 0,?_,rfl,B',l',HE.out.1,HE.out.2,a3.out⟩;simp[results,results135,go_sem]
 case stop=>exact fun D c pre W _ hf _=>hf.elim
end
section
open Go Go.RowKit Go.Shelf Go.IntWalk
attribute [local go_sem] Oper.semAt_some
def Dp (s nb bb i k:Nat)(x:Nat×Nat):Act:=
 { tmps:=#[pt bb,iV i,iV k,pt s,undef,undef,iV 0,iV 0,pt nb,undef,pt bb,iV i,iV k,iV 0,iV 0,.bool false,undef,iV i,iV k,
   .func (.func 225) #[] #[pt (s+1+1),pt (s+1)],.agg #[iV (x.1/64:Nat),iV (x.1%64:Nat),uV (J4 x.2 (x.1%64):Nat)],undef,undef,undef,undef,undef,undef,undef,undef,undef,undef,undef,undef,undef,undef],defers:=[] }
theorem U7 (n:Nat)(hn:4 <= n)(bb U i k:Nat)(B:List Nat)(l:List Blk)(hI:GD bb B U l)(hB:u64ok B)(hL:(U+63)/64 <= B.length)(h:i+k <= U)(h0:U <= 65536)(w:World)(hH:Has w l):
  CallsIn Fence.wide n prog 208 #[pt bb,iV i,iV k] w fun e W'=>e=.returned (iV 0) /\ ∃B' l',Lh B B' i k /\ GD bb B' U l' /\ Turn l w l' W':=by
 have h1:1 <= n:=O;have h2:1 <= n-1-1:=O;have h3:Fence.wide.fn 208:= trivial;have h5:Fence.wide.fn 179:= trivial;have h6:Fence.wide.fn 180:= trivial;have h7:Fence.wide.fn 225:= trivial;have ac:Fence.wide.round=none:=rfl;have T1:=(r_ hH).alloc (.cells #[pt bb] 118);have c1:(w.alloc (.cells #[pt bb] 118)).cell? ⟨bb,1,none⟩=some (iV U):=hI.cell (R:=[(w.heap.size,.cells #[pt bb] 118)]) (T1.has.perm po);have T3:=(T1.alloc (.cells #[iV i] 3)).alloc (.cells #[iV k] 3);simp only[Y_]at T3;have a1:Turn l w (GG w.heap.size bb (iV i) (iV k)++l) (((w.alloc (.cells #[pt bb] 118)).alloc (.cells #[iV i] 3)).alloc (.cells #[iV k] 3)):=T3;have ap:(((w.alloc (.cells #[pt bb] 118)).alloc (.cells #[iV i] 3)).alloc (.cells #[iV k] 3)).heap.size=w.heap.size+3:=by simp
 clear T1 T3;refine callsIn_of_wp_marks func208 rfl h3 ?_ ac;simp only[ntmps208,Z_,B_,Qj,Nat.reduceAdd,Nat.reduceSub,S_,R_,Qc,X_,L_,Qd]
 gi_wp2_with (first
  | (gi_at_call 179;refine(N_.2 (jW _ bb U i k c1 h h0)).mono ?_;rintro e w' ⟨rfl,hw⟩;rw[hw];clear hw w')
  | (gi_at_call 180;refine(UA (n-1) _ _ _).mono ?_;rintro e w' ⟨rfl,hw⟩;rw[hw];clear hw w')
  | fail)
 generalize(((w.alloc (.cells #[pt bb] 118)).alloc (.cells #[iV i] 3)).alloc (.cells #[iV k] 3))=W0 at*;clear c1
 have a2:Has W0 (G9 (w.heap.size+1+1) (w.heap.size+1) k i):=a1.has.sub (by
  show List.Sublist (G9 (w.heap.size+1+1) (w.heap.size+1) k i) (GG w.heap.size bb (iV i) (iV k)++l)
  exact((Xy [_,_]).append (List.nil_sublist _)))
 refine Md ac h1 (gf:=225) (lb:=#[pt (w.heap.size+1+1),pt (w.heap.size+1)]) rfl h7 (enters_of func225 kr rfl)
  (Uz (n-1) O (w.heap.size+1+1) (w.heap.size+1) i k O W0 a2) (fun A B r hu hm=>Wu r hu hm) (fun h k=>⟨k.n.trans h.n,k.i.trans h.i⟩)
  (fun W l o o' az aL hc hw=>⟨World.putObj_heap_other O,World.putObj_heap_other O⟩) (T_ _ _) (fun _=>rfl)
  (fun pre W=>∃B' l' M N,Lh B B' i (G3 pre) /\ GD bb B' U l' /\ Turn l w (GG w.heap.size bb M N++l') W)
  (fun _ _ _=>False)
  (fun x a' pre W=>∃V B' l' M N,a'=Dp w.heap.size V bb i k x /\ Lh B B' i (G3 pre) /\ GD bb B' U l' /\ Turn l w ((V,KY x)::(GG w.heap.size bb M N++l')) W)
  (fun s A D row ⟨B',l',M,N,G,J,E⟩ hg hr=>⟨B',l',M,N,G,J,E.grownB O (fun x hx=>(s_.1 hx).elim (JS _ _ _ _ x) (J.cells x)) hg hr⟩)
  (fun c s A D row hf=>hf.elim)
  (fun x a' s A D row ⟨V,B',l',M,N,e0,G,J,E⟩ hg hr=>⟨V,B',l',M,N,e0,G,J,E.grownB O (by
    intro y hy;rcases t_.1 hy with rfl|hy
    ·rfl
    ·exact(s_.1 hy).elim (JS _ _ _ _ y) (J.cells y)) hg hr⟩)
  ⟨B,l,iV i,iV k,Lh.refl hB i,hI,a1⟩
  (fun pre A D ⟨B',l',M,N,G,J,E⟩ hu=>by
    obtain⟨ak,am,ah⟩:=Fx E hu;exact⟨B',l',ak,am,G,J,ah⟩) ?assign ?body ?done ?stop
 case assign=>
  rintro l1 pre x W a4 ⟨B',l',M,N,G,J,E⟩;have a8:=uh (E.alloc (KY x));have HT:=uh E;have HE:=uh (⟨G,J⟩:Lh B B' i (G3 pre) /\ GD bb B' U l');clear a4 E G J a1 a2;obtain⟨x1,x2⟩:=x;unfold Vj
  gi_wp2_with fail
  exact⟨(KeepsOthers.alloc _ _).from _,ZN (X:=[]) (X':=[_]) HT.out a8.out,W.heap.size,B',l',M,N,rfl,HE.out.1,HE.out.2,a8.out⟩
 case body=>
  rintro l1 pre x a' W a4 ⟨V,B',l',M,N,rfl,G,J,E⟩;obtain⟨aA,rfl⟩:=a4;have a5:=Ck (i+G3 pre) (k-G3 pre);have aj:=Ps (i+G3 pre) (k-G3 pre);have hq:(i+G3 pre)/64<B'.length:=by rw[G.1];omega
  have a7:=uh (G.step (k:=pk (i+G3 pre) (k-G3 pre)) a5 (by rw[←G.1];exact hq));have ae:G3 (pre++[(i+G3 pre,pk (i+G3 pre) (k-G3 pre))])=G3 pre+pk (i+G3 pre) (k-G3 pre):=RQ ..;have aK:=MK G.2.1 ((i+G3 pre)/64);have aB:=Rq a5;have an:=YS (B'.getD ((i+G3 pre)/64) 0) (J4 (pk (i+G3 pre) (k-G3 pre)) ((i+G3 pre)%64))
  have ay:∀x∈(V,KY (i+G3 pre,pk (i+G3 pre) (k-G3 pre)))::(GG w.heap.size bb M N++l'),x.2.isCells=true:=by
   intro y hy;rcases t_.1 hy with rfl|hy
   ·rfl
   ·exact(s_.1 hy).elim (JS _ _ _ _ y) (J.cells y)
  obtain⟨bo,cap,lr,a0,rfl⟩:=J;obtain⟨Z,aa,rfl,rfl,-,-⟩:=a0.some_of O;have a6:=a0.set ((i+G3 pre)/64) (uV (clr (B'.getD ((i+G3 pre)/64) 0) (J4 (pk (i+G3 pre) (k-G3 pre)) ((i+G3 pre)%64)):Nat));rw[Ls]at a6;have ab:B'.getD ((i+G3 pre)/64) 0=B'[(i+G3 pre)/64]:=by rw[M_,a_ hq];rfl
  have hv:(u64s B')[(i+G3 pre)/64]?= some (uV (B'.getD ((i+G3 pre)/64) 0:Nat)):=by rw[ab];exact JG (a_ hq)
  have aE:bits .andNot .u64 ((B'.getD ((i+G3 pre)/64) 0:Nat):Int) ((J4 (pk (i+G3 pre) (k-G3 pre)) ((i+G3 pre)%64):Nat):Int)=((clr (B'.getD ((i+G3 pre)/64) 0) (J4 (pk (i+G3 pre) (k-G3 pre)) ((i+G3 pre)%64)):Nat):Int):=X7;have T2:=E.perm (l2:=(Z,.cells aa 36)::((V,KY (i+G3 pre,pk (i+G3 pre) (k-G3 pre)))::(GG w.heap.size bb M N++[(bb,.cells #[.slice (some ⟨Z,0,none⟩) B'.length cap,iV U] 233)]))) (Yh fun c=>by simp[GG];omega);have cg:W.cell? ⟨Z,(i+G3 pre)/64,none⟩=some (uV (B'.getD ((i+G3 pre)/64) 0:Nat)):=(a0.cell (R:=(V,KY (i+G3 pre,pk (i+G3 pre) (k-G3 pre)))::(GG w.heap.size bb M N++[(bb,.cells #[.slice (some ⟨Z,0,none⟩) B'.length cap,iV U] 233)])) T2.has ((i+G3 pre)/64) (by rw[Xs];exact hq)).trans hv;have fg:W.frozen? ⟨Z,(i+G3 pre)/64,none⟩=false:=T2.free1 _;have au:W.cell? ⟨V,0,none⟩=some (iV ((i+G3 pre)/64:Nat)):=E.cell1 0;have av:W.cell? ⟨V,2,none⟩=some (uV (J4 (pk (i+G3 pre) (k-G3 pre)) ((i+G3 pre)%64):Nat)):=E.cell1 2;have ax:W.cell? ⟨w.heap.size,0,none⟩=some (pt bb):=E.has.cell (b:=w.heap.size) (c:=#[pt bb]) (e:=118) (f:=(0,0)) (by simp[GG]) 0;have aq:W.cell? ⟨bb,0,none⟩=some (.slice (some ⟨Z,0,none⟩) B'.length cap):=E.has.cell (b:=bb) (c:=#[.slice (some ⟨Z,0,none⟩) B'.length cap,iV U]) (e:=233) (f:=(0,0)) (by simp[GG]) 0
  have T5:=(T2.setCell ((i+G3 pre)/64) (uV (clr (B'.getD ((i+G3 pre)/64) 0) (J4 (pk (i+G3 pre) (k-G3 pre)) ((i+G3 pre)%64)):Nat))).perm (l2:=(V,KY (i+G3 pre,pk (i+G3 pre) (k-G3 pre)))::(GG w.heap.size bb M N++[(bb,.cells #[.slice (some ⟨Z,0,none⟩) B'.length cap,iV U] 233),(Z,.cells (aa.setIfInBounds ((i+G3 pre)/64) (uV (clr (B'.getD ((i+G3 pre)/64) 0) (J4 (pk (i+G3 pre) (k-G3 pre)) ((i+G3 pre)%64)):Nat))) 36)])) (Yh fun c=>by simp[GG];omega);have a3:=uh T5;have HT:=uh E;have af:=uh a6;have ag:=uh ae;have aJ:(((i+G3 pre)/64:Nat):Int)<(B'.length:Int):=O;clear E T2 T5 a6 ae a0 hv G a2 a1 ab aj a5;unfold TU at a7;unfold Dp;simp only;generalize aC:J4 (pk (i+G3 pre) (k-G3 pre)) ((i+G3 pre)%64)=mk at*;generalize aF:(i+G3 pre)/64=q at*;generalize aG:B'.getD q 0=bv at*;generalize aH:(i+G3 pre)%64=r at*
  gi_wp2_with fail
  refine L9 (Gu _ _ _) 12 kr kr kr ?_;simp only[List.take_succ_cons,List.take_zero,List.drop_succ_cons,List.drop_zero]
  iterate 12 still_step
  refine wpStill_nil ?_
  gi_wp2_with fail
  have a9:=a3.out.drew;refine⟨⟨(KeepsOthers.setCell W _ _).size,fun k o _ hk ho=>(KeepsOthers.setCell W _ _).same k o hk ho⟩,ZN (X:=[_]) (X':=[_]) HT.out a9,B'.set q (clr bv mk),_,M,N,by rw[ag.out];exact a7.out,⟨some ⟨Z,0,none⟩,cap,_,by rw[Qn];exact af.out,by rw[Qn]⟩,a9.tail⟩
 case done=>
  rintro D xs W hD hS ⟨B',l',M,N,G,J,E⟩ hK;rw[hS]at G;have T5:=E.grownB (B:=W0.heap.size) O (fun x hx=>(s_.1 hx).elim (JS _ _ _ _ x) (J.cells x)) (grownBy_putObj' W D (.deferred none)) (fun r e=>by cases e;exact⟨hD,_,hK,rfl⟩);have a3:=uh T5.drop;have HE:=uh (⟨G,J⟩:Lh B B' i k /\ GD bb B' U l');clear E T5 G J a1 a2 hS
  gi_wp2_with fail
  refine⟨by simp,.inl ⟨_,_,rfl,run_takeDeferred hK,?_⟩⟩;refine⟨iV 0,?_,rfl,B',l',HE.out.1,HE.out.2,a3.out⟩;simp[results,results208,go_sem]
 case stop=>exact fun D c pre W _ hf _=>hf.elim
end
section
open Go Go.RowKit Go.Shelf Go.IntWalk
theorem gR {E:List Blk}{w0:World}(w:World)(bb r i:Nat)(B:List Nat)(l R:List Blk)(U:GD bb B r l)(N:u64ok B)(V:(r+63)/64 <= B.length)(h:i<r)(M:r <= 65536)(T:Turn E w0 (l++R) w):
  Calls prog 82 #[pt bb,iV i] w fun e w'=>e=.returned (iV 0) /\ ∃B' l',Lg B B' i 1 /\ GD bb B' r l' /\ Turn E w0 (l'++R) w':=by
 have H:=uh ((N_ (n:=4)).1 (YW 4 O bb r i 1 B l U N V O M w (T.has.sub (x_ l R))));have y:=uh T;clear T
 go_enter func82,ntmps82
 go_wp2_with fail
 refine H.out.mono ?_;rintro e w1 ⟨rfl,B',l',h1,h2,G⟩;have J:=uh (⟨h1,h2,y.out.trans (G.more y.out.has)⟩:Lg B B' i 1 /\ GD bb B' r l' /\ Turn E w0 (l'++R) w1);clear h1 h2 G y H
 go_wp2_with fail
 go_ret;exact⟨rfl,B',l',J.out⟩
theorem PY {E:List Blk}{w0:World}(w:World)(bb r i:Nat)(B:List Nat)(l R:List Blk)(U:GD bb B r l)(N:u64ok B)(V:(r+63)/64 <= B.length)(h:i<r)(M:r <= 65536)(T:Turn E w0 (l++R) w):
  Calls prog 203 #[pt bb,iV i] w fun e w'=>e=.returned (iV 0) /\ ∃B' l',Lh B B' i 1 /\ GD bb B' r l' /\ Turn E w0 (l'++R) w':=by
 have H:=uh ((N_ (n:=4)).1 (U7 4 O bb r i 1 B l U N V O M w (T.has.sub (x_ l R))));have y:=uh T;clear T
 go_enter func203,ntmps203
 go_wp2_with fail
 refine H.out.mono ?_;rintro e w1 ⟨rfl,B',l',h1,h2,G⟩;have J:=uh (⟨h1,h2,y.out.trans (G.more y.out.has)⟩:Lh B B' i 1 /\ GD bb B' r l' /\ Turn E w0 (l'++R) w1);clear h1 h2 G y H
 go_wp2_with fail
 go_ret;exact⟨rfl,B',l',J.out⟩
theorem EV {y:List Blk}{w0:World}(w:World)(bb r:Nat)(B:List Nat)(l R:List Blk)(M:GD bb B r l)(J:u64ok B)(N:(r+63)/64 <= B.length)(G:r <= 65536)(T:Turn y w0 (l++R) w):
  Calls prog 208 #[pt bb,iV (0:Nat),iV r] w fun e w'=>e=.returned (iV 0) /\ ∃B' l',Lh B B' 0 r /\ GD bb B' r l' /\ Turn y w0 (l'++R) w':=
 ((N_ (n:=4)).1 (U7 4 O bb r 0 r B l M J N O G w (T.has.sub (x_ l R)))).mono fun e w1 ⟨U,B',l',h1,h2,E⟩=>⟨U,B',l',h1,h2,T.trans (E.more T.has)⟩
structure BitAt (w:World)(bb:Nat)(B:List Nat)(n:Nat)(bo:Option Addr)(cap:Nat):Prop where
 c0:w.cell? (aD bb 0)=some (.slice bo B.length cap)
 c1:w.cell? (aD bb 1)=some (iV n)
 src:Src w bo B.length cap 1 (u64s B)
theorem BitAt.below {w w':World}{bb:Nat}{B:List Nat}{n cap:Nat}{y:Option Addr}(h:BitAt w bb B n y cap)(r:Below w.heap.size w w'):BitAt w' bb B n y cap:=
 ⟨(r.cell (p:=(aD bb 0)) (c_ w _ h.c0)).trans h.c0,(r.cell (p:=(aD bb 1)) (c_ w _ h.c1)).trans h.c1,h.src.below r⟩
theorem GD.at_ {bb:Nat}{B:List Nat}{n:Nat}{l R:List Blk}{w:World}(h:GD bb B n l)(y:Has w (l++R)):∃r cap,BitAt w bb B n r cap:=by
 obtain⟨r,cap,G,E,rfl⟩:=h;exact⟨r,cap,y.cell (b:=bb) (c:=#[.slice r B.length cap,iV n]) (e:=233) (f:=(0,0)) (by simp) 0,y.cell (b:=bb) (c:=#[.slice r B.length cap,iV n]) (e:=233) (f:=(0,0)) (by simp) 1,E.src (R:=(bb,.cells #[.slice r B.length cap,iV n] 233)::R) (y.perm po)⟩
theorem Ds (w:World)(bb y:Nat)(B:List Nat)(J:Option Addr)(cap:Nat)(G:BitAt w bb B y J cap)(g:Int)(h:g<0∨(y:Int) <= g):
  Calls prog 160 #[pt bb,iV g] w fun e w'=>e=.returned (.bool false) /\ Below w.heap.size w w':=by
 have N:=G.c1;have E:=uh (T_ w.heap.size w);clear G
 by_cases r:g<0
 · have M:decide (g<0)=true:=k_ r
   clear h
   go_enter func160,ntmps160
   go_wp2_with fail
   go_ret;exact⟨rfl,E.out⟩
 · have M:decide (g<0)=false:=b_ r
   have U:decide ((y:Int) <= g)=true:=k_ (h.resolve_left r);clear h
   go_enter func160,ntmps160
   go_wp2_with fail
   go_ret;exact⟨rfl,E.out⟩
theorem PX (w:World)(bb G:Nat)(B:List Nat)(bo:Option Addr)(cap:Nat)(U:BitAt w bb B G bo cap)(hB:u64ok B)(hL:(G+63)/64 <= B.length)(g:Nat)(h:g<G)(h0:G <= 65536):
  Calls prog 160 #[pt bb,iV g] w fun e w'=>e=.returned (.bool (Gv B g)) /\ Below w.heap.size w w':=by
 have c1:=U.c1;have k1:decide ((g:Int)<0)=false:=b_ O;have k2:decide ((G:Int) <= (g:Int))=false:=b_ O;have k3:decide (G <= g)=false:=b_ O;have V:=uh (Bk w g O);have HA:=uh U;have hq:g/64<B.length:=O;have a1:B.getD (g/64) 0=B[g/64]:=by rw[M_,a_ hq];rfl
 have hv:(u64s B)[g/64]?= some (uV (B.getD (g/64) 0:Nat)):=by rw[a1];exact JG (a_ hq)
 have a4:=MK hB (g/64);have J:=WJ (b:=g%64) a4;have N:Gv B g=(B.getD (g/64) 0).testBit (g%64):=rfl;rw[N];obtain⟨gb,off,rfl,y⟩:=U.src.form (by rw[LD];omega);have M:=y _ _ hv;have a7:((g/64:Nat):Int)<(B.length:Int):=O;have hr:g%64<64:=O;have a6:g/64 <= 65536:=O;clear U y hv a1 N h hB;generalize B.getD (g/64) 0=bv at*;generalize g/64=q at*;generalize g%64=r at*
 go_enter func160,ntmps160
 go_wp2_with fail
 refine V.out.mono ?_;rintro e w1 ⟨rfl,a0⟩;have E:=((r_ (C_ w)).call a0).alloc (.cells #[iV q,iV r] 310);have Z:=HA.out.below E.below;have c0:=Z.c0;have a5:=(E.below.cell (p:=(aD gb (off+q))) (c_ w _ M)).trans M;have d0:(w1.alloc (.cells #[iV q,iV r] 310)).cell? (aD w1.heap.size 0)=some (iV q):=E.cell1 0;have d1:(w1.alloc (.cells #[iV q,iV r] 310)).cell? (aD w1.heap.size 1)=some (iV r):=E.cell1 1;have a2:=uh E;clear Z a0 V HA M c1 E
 go_upto_region 4 with fail
 generalize w1.alloc (.cells #[iV q,iV r] 310)=w2 at*;generalize w1.heap.size=b5 at*
 go_quiet (fail)
 go_wp2_with fail
 have a3:(bits .and .u64 ((bv:Int)/2^r) 1 == 1)=bv.testBit r:=by
  rw[Int.fdiv_eq_ediv_of_nonneg _ (Int.le_of_lt (Int.pow_pos (by decide)))]at J;rw[J]
  cases bv.testBit r<;>rfl
 go_ret;exact⟨by rw[a3];rfl,(a2.out.drewN _).below⟩
theorem UR {ao:Option Addr}{n cap:Nat}{xs:List Value}{R:List Blk}(w:World)(r:Src w ao n cap 1 xs)(Z:Has w R)(h1:∀u∈xs,u.oneCell'=true)(hn:n*8 <= 140737488355328):
  Calls prog 110 #[.slice ao n cap] w fun e w'=>∃E y l',e=.returned (.slice E n y) /\ Gh 36 1 E n y xs l' /\ Turn R w (l'++R) w' /\ (E=none↔ao=none):=by
 cases ao with
 | none=>
  obtain⟨rfl,rfl⟩:=r.nil rfl;have hx:xs=[]:=Xt (by simpa using r.len);subst hx;have U:=fun W:World=>Lib.run_eql_slice_nil (P:=prog) W 24 36 none 0 0 0 0 underlying24
  go_enter func110,ntmps110
  go_wp2
  go_ret;exact⟨none,0,[],rfl,Zb _ _,r_ Z,by simp⟩
 | some ad=>
  have hl:xs.length=n:=by simpa using r.len
  have hs:=r.at_ ad rfl;have U:=fun W:World=>Lib.run_eql_slice_nil (P:=prog) W 24 36 (some ad) n cap 0 0 underlying24;have hT:=(r_ Z).alloc (.cells #[] 36);have V:Gh 36 1 (some (aD w.heap.size 0)) 0 0 [] [(w.heap.size,.cells #[] 36)]:=⟨rfl,g_ _,u_ _,.inr ⟨_,_,rfl,rfl,u_ _,rfl⟩⟩;have M:∀j u,xs[j]?= some u -> (w.alloc (.cells #[] 36)).cell? (ad.add j)=some u:=(r.alloc _).at_ ad rfl;have N:0+n <= maxLen:=by unfold maxLen;omega
  have G:xs.length=n*1:=O;have J:=uh G;clear hl G
  go_enter func110,ntmps110
  go_wp2_with (at_builtin;refine K_ rfl _ _ rfl GF rfl V hT.has rfl J.out M h1 N O ?_;intro E y l' w' hr ht a0)
  go_ret;exact⟨E,y,l',by simp,by simpa using hr,hT.trans ht |>.perm (by exact List.Perm.refl _),by simpa using a0⟩
theorem Fb:Tryz.zeroCells230= (u64s (List.replicate 1024 0)).toArray:=by kernel_rfl
theorem gV (w:World)(n:Nat)(hm:n <= 65536):
  Calls prog 51 #[iV n] w fun e w'=>∃bb l,e=.returned (.tuple #[pt bb,iV 0]) /\ GD bb (List.replicate ((n+63)/64) 0) n l /\ Turn [] w l w':=by
 have y:=(r_ (C_ w)).alloc (.cells Tryz.zeroCells230 230);have hk:(n+63)/64 <= 1024:=O
 have hS:Src (w.alloc (.cells Tryz.zeroCells230 230)) (some (aD w.heap.size 0)) ((n+63)/64) 1024 1 (u64s (List.replicate ((n+63)/64) 0)):=by
  refine⟨by rw[LD,W_,Xs],fun h=>(by cases h),fun ad ha j u J=>?_⟩
  cases ha
  have hj:j<(n+63)/64:=by have:=(m_.1 J).1;rw[LD,W_]at this;exact this
  rw[JG (v:=0) (List.getElem?_replicate_of_lt hj)]at J;rw[KS,Q_,y.cell1 j,Fb,Yp,JG (v:=0) (List.getElem?_replicate_of_lt O)];exact J
 have k1:decide ((n:Int)<0)=false:=b_ O;have k2:decide ((65536:Int)<(n:Int))=false:=b_ O;have k3:((n:Int)+63).tdiv 64=(((n+63)/64:Nat):Int):=GC (n+63) 64;have k4:((n:Int)+63)/64=(((n+63)/64:Nat):Int):=O;have U:=uh (UR _ hS y.has (Mx _) O);have E:=uh y;have hl:(List.replicate ((n+63)/64) 0).length=(n+63)/64:=W_;have V:=uh hl;have a0:(Tryz.zeroCells230).size=1024:=by rw[Fb];rfl
 clear hS y hl;generalize(n+63)/64=q at*;have a1:(q:Int) <= 1024:=O
 go_enter func51,ntmps51
 go_wp2_with fail
 refine U.out.mono ?_;rintro e w2 ⟨G,r,l',rfl,hr,Z,-⟩;have Hr:=uh hr;have M:=uh ((E.out.trans Z).sub (x_ l' _));clear hr Z E U
 go_wp2_with fail
 have N:=uh (M.out.alloc (.cells #[.slice G q r,iV n] 233));refine f_ (E_ rfl _ _ _) rfl ?_;exact⟨w2.heap.size,_,rfl,⟨G,r,l',by rw[V.out];exact Hr.out,by rw[V.out]⟩,N.out⟩
end
section
open Go Go.RowKit Go.IntWalk
theorem MD {P:Program}{M:Func}{p q r:Tmp}{ty E:TypeId}(h:M.results=#[.cell p ty,.cell q E,.tmp r])(tmps:Array Value)(w:World)(b G:Nat)(cs y:List Value)(d J:TypeDesc)
  (hp:tmps.getD p undef=pt b)(hc:w.rangeAt b 0 cs)(hu:P.underlying ty=some d)(hd:d.isRow=true)(hi:(P.info? ty).map (·.size)=some cs.length)
  (hq:tmps.getD q undef=pt G)(N:w.rangeAt G 0 y)(a1:P.underlying E=some J)(U:J.isRow=true)(V:(P.info? E).map (·.size)=some y.length):
  (results M tmps).run P w=.ok (.tuple #[.agg cs.toArray,.agg y.toArray,tmps.getD r undef]) w:=by
 have Z:tmps[p]?.getD undef=pt b:=by simpa using hp
 have a0:tmps[q]?.getD undef=pt G:=by simpa using hq
 simp[results,h,Z,a0,asAddr,run_loadVar_mid w b 0 ty cs d hc hu hd hi,run_loadVar_mid w G 0 E y J N a1 U V]
theorem Turn.laid4 {l r:List Blk}{w w':World}{b:Nat}{x y z:Blk}{c:Array Value}{e:TypeId}{f:Nat×Nat}(h:Turn l w (x::y::z::(b,.cells c e f)::r) w')(vs:List Value)(E:vs.length=c.size):
  Turn l w (x::y::z::(b,.cells vs.toArray e f)::r) (w'.setCells b 0 vs):=
 (Turn.setAll vs E (h.perm (l2:=(b,.cells c e f)::x::y::z::r) po)).perm po
theorem Turn.there4 {l L:List Blk}{w W:World}{b:Nat}{x y z:Blk}{c:Array Value}{e:TypeId}(h:Turn l w (x::y::z::(b,.cells c e (0,0))::L) W):W.there b 0 c.size:=
 (h.perm (l2:=(b,.cells c e (0,0))::x::y::z::L) po).there1
theorem Turn.range4 {l L:List Blk}{w W:World}{b:Nat}{x y z:Blk}{c:Array Value}{e:TypeId}{f:Nat×Nat}(h:Turn l w (x::y::z::(b,.cells c e f)::L) W):W.rangeAt b 0 c.toList:=
 (h.perm (l2:=(b,.cells c e f)::x::y::z::L) po).range1
def S9 (W:List Nat)(g:Int):Int:=if (JX W g).isSome then 8 else K0 W g
theorem CA {W:List Nat}{g:Int}:S9 W g≠0:=by
 unfold S9
 cases r:JX W g with
 | none=>exact LF r
 | some h=>exact(by decide:(8:Int)≠0)
theorem ja (w:World){W:List Nat}(ao:Option Addr)(cap:Nat)(hS:Src w ao W.length cap 1 (u64s W))(hf:W.length <= 65536)(hu:∀v∈W,v<18446744073709551616)(L:List Ty)(au:∀t∈L,TyIn t)(hL:L.length <= 1000)(ab:Option Addr)(a4:Nat)(am:Src w ab L.length a4 3 (tys L))(g:Int):
  Calls prog 205 #[.slice ao W.length cap,.slice ab L.length a4,iV g] w fun e w'=>(match objq L W g with
   | some h=>e=.returned (.tuple #[KM h,K7 (tyAt L h.typ),iV 0])
   | none=>e=.returned (.tuple #[KM AM,K7 ⟨0,0,0⟩,iV (S9 W g)])) /\ Below w.heap.size w w':=by
 have G:=Gr;have U:=JZ;have ae:=LA;have a9:=KH ⟨0,0,0⟩;have T0:=((r_ (C_ w)).alloc zH).alloc zT;rw[Y_]at T0;have a7:=uh (CR _ ao cap (hS.below T0.below) hf hu g);have aj:=uh T0;clear T0
 cases hh:JX W g with
 | none=>
  have af:S9 W g=K0 W g:=by unfold S9;rw[hh];rfl
  rw[af];clear af;have aR:=LF hh;have hq:objq L W g=none:=by unfold objq;rw[hh]
  rw[hq];simp only;rw[hh]at a7;generalize K0 W g=er at*;clear hS am hu hh hq au
  go_enter func205,ntmps205
  go_wp2_with fail
  refine a7.out.mono ?_;rintro e w1 ⟨rfl,ac⟩;simp only[Jj];have T2:=(aj.out.call ac).alloc zH;have a1:(w1.alloc zH).there w1.heap.size 0 4:=T2.there1;have r:=uh (T2.laid [yV 0,iV 0,iV 0,iV 0] rfl);clear T2 ac a7 aj
  go_wp2_with (first
   | (show sW 125;refine h_ rfl 125 _ _ rfl _ 0 #[yV 0,iV 0,iV 0,iV 0] rfl rfl a1 G ae ?_;clear a1;have E:=r.out.there3;have a0:=uh (r.out.laid3 [yV 0,iV 0,iV 0,iV 0] rfl))
   | (show sW 125;refine h_ rfl 125 _ _ rfl _ 0 #[yV 0,iV 0,iV 0,iV 0] rfl rfl E G ae ?_;clear E;have M:=a0.out.there2;have J:=uh (a0.out.laid2 [yV 0,iV 0,uV 0] rfl))
   | (show sW 79;refine h_ rfl 79 _ _ rfl _ 0 #[yV 0,iV 0,uV 0] rfl rfl M U a9 ?_)
   | fail)
  have HR:=(⟨J.out.range3,J.out.range2⟩:_ /\ _);refine f_ (MD results205 _ _ _ _ _ _ _ _ rfl HR.1 underlying125 rfl G rfl HR.2 underlying79 rfl U) rfl ?_;exact⟨rfl,J.out.below⟩
 | some h=>
  obtain⟨hm,aJ,aK,aE⟩:=L8 hh;have af:S9 W g=8:=by unfold S9;rw[hh];rfl
  rw[af];clear af;obtain⟨g,rfl⟩:∃q:Nat,g=q:=⟨g.toNat,by omega⟩;have hq:objq L W g=if h.tag=1 /\ Ka L h=0 /\ g+h.size <= W.length/2 then some h else none:=by unfold objq;rw[hh];simp
  rw[hq];rw[hh,aE]at a7;have ag:=uh (fun W' (hB:Below w.heap.size w W')=>D9 W' L au hL ab a4 (am.below hB) h (M8 hm));have ah:=uh (fun W' (hB:Below w.heap.size w W')=>Pk W' L ab a4 (am.below hB) hL h.typ);have aL:g<W.length/2:=O;have aG:((W.length:Int)).tdiv 2=((W.length/2:Nat):Int):=GC _ 2;have ay:(W.length:Int)/2=((W.length/2:Nat):Int):=O;obtain⟨z,hz⟩:∃z:Nat,W.length/2=z:=⟨_,rfl⟩;rw[hz]at hq aL aG ay ⊢;have aU:z <= 65536:=O;generalize aF:tyAt L h.typ=t at ah;generalize(if (Kc L h.typ).isSome=true then(0:Int)else 3)=aP at ah;generalize aH:Ka L h=fe at*;obtain⟨xa,V,Z,y⟩:=h;simp only
  have aQ:xa <= 3 /\ y<16777216:=by
   obtain⟨m1,m2,m3,m4⟩:=hm;simp only at m1 m2 m3 m4;omega
  obtain⟨k,m,mk⟩:=t
  refine((show ∀Qp:Ending -> World -> Prop,Hid (xa=1 /\ fe=0 /\ g+y <= z -> ∀w',Below w.heap.size w w' -> Qp (.returned (.tuple #[KM ⟨xa,V,Z,y⟩,K7 ⟨k,m,mk⟩,iV 0])) w') ->
    Hid (¬(xa=1 /\ fe=0 /\ g+y <= z) -> ∀w',Below w.heap.size w w' -> Qp (.returned (.tuple #[KM AM,K7 ⟨0,0,0⟩,iV 8])) w') ->
    Calls prog 205 #[.slice ao W.length cap,.slice ab L.length a4,iV g] w (fun e w'=>Qp e w' /\ True)from ?_) (fun e w'=>(match (if xa=1 /\ fe=0 /\ g+y <= z then some (Hd.mk xa V Z y)else none:Option Hd)with|some h=>e=.returned (.tuple #[KM h,K7 (tyAt L h.typ),iV 0])|none=>e=.returned (.tuple #[KM AM,K7 ⟨0,0,0⟩,iV 8])) /\ Below w.heap.size w w')
    (uh (fun hc w' hB=>by rw[v_ hc];simp only;exact⟨by rw[aF],hB⟩)) (uh (fun hc w' hB=>by rw[y_ hc];exact⟨rfl,hB⟩))).mono fun e w' h=>h.1
  clear aF hq;intro Qp HY HN;have a8:=GP ⟨xa,V,Z,y⟩;have ax:=KH ⟨k,m,mk⟩;simp only at a8 ax;clear hS am hu hh aE hm au aJ aK hz aH
  go_enter func205,ntmps205
  go_wp2_with fail
  refine a7.out.mono ?_;rintro e w1 ⟨rfl,ac⟩;simp only[Zc];have T2:=(aj.out.call ac).alloc zH;have a1:(w1.alloc zH).there w1.heap.size 0 4:=T2.there1;have r:=uh (T2.laid [yV xa,iV V,iV Z,iV y] rfl);have c0:=r.out.cell1 0;have a5:=r.out.range1;clear T2 ac a7 aj
  by_cases ht:xa=1
  · subst ht
    replace r:Hid (Turn [] w [(w1.heap.size,.cells #[yV 1,iV V,iV Z,iV y] 125),(w.heap.size+1,zT),(w.heap.size,zH)] ((w1.alloc zH).setCells w1.heap.size 0 [yV 1,iV V,iV Z,iV y])):=r;replace c0:=r.out.cell1 0;replace a5:=r.out.range1
    by_cases av:fe=0
    · subst av
      have k1:IntKind.i64.wrap ((z:Int)-(g:Int))=(z:Int)-(g:Int):=i64_in _ O
      by_cases hs:g+y <= z
      · have k2:decide (((z:Int)-(g:Int))<(y:Int))=false:=b_ O
        have k3:¬((z:Int)-(g:Int))<(y:Int):=O;have aA:=uh (HY.out ⟨rfl,rfl,hs⟩);clear HY HN hs
        go_upto_region 4 with(first
         | (show sW 125;refine h_ rfl 125 _ _ rfl _ 0 #[yV 1,iV V,iV Z,iV y] rfl rfl a1 G a8 ?_;clear a1)
         | fail)
        go_wp2_with (first
         | (show lW 125;refine Xb 125 _ rfl (by rfl) w1.heap.size 0 rfl [yV 1,iV V,iV Z,iV y] _ a5 underlying125 rfl G ?_;clear a5)
         | fail)
        refine(ag.out _ r.out.below).mono ?_;rintro e w2 ⟨rfl,a3⟩;have N:=uh (r.out.call a3);clear r a3 c0;have c3:=N.out.cell1 3;have c1:=N.out.cell1 1
        go_wp2_with fail
        refine(ah.out _ N.out.below).mono ?_;rintro e w3 ⟨rfl,aB⟩;have T5:=(N.out.call aB).alloc zT;have an:(w3.alloc zT).there w3.heap.size 0 3:=T5.there1;have az:=uh (T5.laid [yV k,iV m,uV mk] rfl);clear T5 aB N
        go_upto_region 7 with(first
         | (show sW 79;refine h_ rfl 79 _ _ rfl _ 0 #[yV k,iV m,uV mk] rfl rfl an U ax ?_;clear an)
         | fail)
        refine J1 (fun W'=>Turn [] w [(w3.heap.size,.cells #[yV k,iV m,uV mk] 79),(w1.heap.size,.cells #[yV 1,iV V,iV Z,iV y] 125),(w.heap.size+1,zT),(w.heap.size,zH)] W') az.out fun W7 T7=>?_;clear az;have aa:=T7.drew;have E:=aa.there4;have ak:=uh (aa.laid4 [yV 1,iV V,iV Z,iV y] rfl);have M:=ak.out.there3;have a6:=uh (ak.out.laid3 [yV k,iV m,uV mk] rfl);have hS:(fun W'=>W'.rangeAt w1.heap.size 0 [yV 1,iV V,iV Z,iV y] /\ W'.rangeAt w3.heap.size 0 [yV k,iV m,uV mk]) W7.drew:=⟨aa.range2,aa.range1⟩;have aC:(fun W'=>W'.rangeAt w1.heap.size 0 [yV 1,iV V,iV Z,iV y] /\ W'.rangeAt w3.heap.size 0 [yV k,iV m,uV mk]) (W7.drew.setCells w.heap.size 0 [yV 1,iV V,iV Z,iV y]):=⟨ak.out.range2,ak.out.range1⟩;have ap:(fun W'=>W'.rangeAt w1.heap.size 0 [yV 1,iV V,iV Z,iV y] /\ W'.rangeAt w3.heap.size 0 [yV k,iV m,uV mk]) ((W7.drew.setCells w.heap.size 0 [yV 1,iV V,iV Z,iV y]).setCells (w.heap.size+1) 0 [yV k,iV m,uV mk]):=⟨a6.out.range2,a6.out.range1⟩;clear T7 aa;refine F_ ?_
        refine rG (S:=fun W'=>W'.rangeAt w1.heap.size 0 [yV 1,iV V,iV Z,iV y] /\ W'.rangeAt w3.heap.size 0 [yV k,iV m,uV mk]) 5 ?_;refine XM 0 52 hS (fun w' aq=>Xa 125 _ rfl w1.heap.size 0 rfl [yV 1,iV V,iV Z,iV y] _ aq.1 underlying125 rfl G) ?_;refine XM 1 53 hS (fun w' aq=>Xa 79 _ rfl w3.heap.size 0 rfl [yV k,iV m,uV mk] _ aq.2 underlying79 rfl U) ?_;refine G5 2 (fun K hK=>?_);rw[v_ (by rfl)];refine wp_store_mid 125 _ _ rfl _ 0 #[yV 1,iV V,iV Z,iV y] rfl rfl E G a8 ?_;refine hK.out _ _ aC fun _=>?_;clear hK K;simp only[Act.put,Zq,Xf,List.set_cons_succ];refine G5 3 (fun K hK=>?_);rw[v_ (by rfl)];refine wp_store_mid 79 _ _ rfl _ 0 #[yV k,iV m,uV mk] rfl rfl M U ax ?_;refine hK.out _ _ ap fun _=>?_;clear hK K;simp only[Act.put,Zq,Xf,List.set_cons_succ];refine G2 4 8 ap ?_;refine P_ kr ?_ _;refine z_ ?_;clear hS aC ap E M
        go_wp2_with fail
        have HR:=(⟨a6.out.range4,a6.out.range3⟩:_ /\ _);refine f_ (MD results205 _ _ _ _ _ _ _ _ rfl HR.1 underlying125 rfl G rfl HR.2 underlying79 rfl U) rfl ?_
        first|exact aA.out _ a6.out.below|exact⟨aA.out _ a6.out.below,trivial⟩
      · have k2:decide (((z:Int)-(g:Int))<(y:Int))=true:=k_ O
        have k3:((z:Int)-(g:Int))<(y:Int):=O;have a2:=uh (HN.out (fun h=>hs h.2.2));clear HY HN hs
        go_upto_region 4 with(first
         | (show sW 125;refine h_ rfl 125 _ _ rfl _ 0 #[yV 1,iV V,iV Z,iV y] rfl rfl a1 G a8 ?_;clear a1)
         | fail)
        go_wp2_with (first
         | (show lW 125;refine Xb 125 _ rfl (by rfl) w1.heap.size 0 rfl [yV 1,iV V,iV Z,iV y] _ a5 underlying125 rfl G ?_;clear a5)
         | fail)
        refine(ag.out _ r.out.below).mono ?_;rintro e w2 ⟨rfl,a3⟩;have N:=uh (r.out.call a3);clear r a3 c0;have c3:=N.out.cell1 3;have c1:=N.out.cell1 1
        go_upto_region 5 with fail
        have E:=N.out.there3;have a0:=uh (N.out.laid3 [yV 0,iV 0,iV 0,iV 0] rfl);have M:=a0.out.there2;have J:=uh (a0.out.laid2 [yV 0,iV 0,uV 0] rfl);clear N
        go_wp2_with (first
         | (show sW 125;refine h_ rfl 125 _ _ rfl _ 0 #[yV 0,iV 0,iV 0,iV 0] rfl rfl E G ae ?_;clear E)
         | (show sW 79;refine h_ rfl 79 _ _ rfl _ 0 #[yV 0,iV 0,uV 0] rfl rfl M U a9 ?_;clear M)
         | fail)
        have HR:=(⟨J.out.range3,J.out.range2⟩:_ /\ _);refine f_ (MD results205 _ _ _ _ _ _ _ _ rfl HR.1 underlying125 rfl G rfl HR.2 underlying79 rfl U) rfl ?_
        first|exact a2.out _ J.out.below|exact⟨a2.out _ J.out.below,trivial⟩
    · have aN:(fe != 0)=true:=by rw[Qe];exact av
      have a2:=uh (HN.out (fun h=>av h.2.1));clear HY HN
      go_upto_region 4 with(first
       | (show sW 125;refine h_ rfl 125 _ _ rfl _ 0 #[yV 1,iV V,iV Z,iV y] rfl rfl a1 G a8 ?_;clear a1)
       | fail)
      go_wp2_with (first
       | (show lW 125;refine Xb 125 _ rfl (by rfl) w1.heap.size 0 rfl [yV 1,iV V,iV Z,iV y] _ a5 underlying125 rfl G ?_;clear a5)
       | fail)
      refine(ag.out _ r.out.below).mono ?_;rintro e w2 ⟨rfl,a3⟩;have N:=uh (r.out.call a3);clear r a3 c0;have c3:=N.out.cell1 3;have c1:=N.out.cell1 1
      go_upto_region 5 with fail
      have E:=N.out.there3;have a0:=uh (N.out.laid3 [yV 0,iV 0,iV 0,iV 0] rfl);have M:=a0.out.there2;have J:=uh (a0.out.laid2 [yV 0,iV 0,uV 0] rfl);clear N
      go_wp2_with (first
       | (show sW 125;refine h_ rfl 125 _ _ rfl _ 0 #[yV 0,iV 0,iV 0,iV 0] rfl rfl E G ae ?_;clear E)
       | (show sW 79;refine h_ rfl 79 _ _ rfl _ 0 #[yV 0,iV 0,uV 0] rfl rfl M U a9 ?_;clear M)
       | fail)
      have HR:=(⟨J.out.range3,J.out.range2⟩:_ /\ _);refine f_ (MD results205 _ _ _ _ _ _ _ _ rfl HR.1 underlying125 rfl G rfl HR.2 underlying79 rfl U) rfl ?_
      first|exact a2.out _ J.out.below|exact⟨a2.out _ J.out.below,trivial⟩
  · have aM:¬(xa:Int)=1:=O
    have aS:((xa:Int) != 1)=true:=(by rw[Qe];exact aM);have aT:(xa != 1)=true:=(by rw[Qe];exact ht);have a2:=uh (HN.out (fun h=>ht h.1));clear HY HN
    go_upto_region 4 with(first
     | (show sW 125;refine h_ rfl 125 _ _ rfl _ 0 #[yV xa,iV V,iV Z,iV y] rfl rfl a1 G a8 ?_;clear a1;have E:=r.out.there3;have a0:=uh (r.out.laid3 [yV 0,iV 0,iV 0,iV 0] rfl))
     | fail)
    go_upto_region 5 with fail
    have E:=r.out.there3;have a0:=uh (r.out.laid3 [yV 0,iV 0,iV 0,iV 0] rfl);have M:=a0.out.there2;have J:=uh (a0.out.laid2 [yV 0,iV 0,uV 0] rfl);clear r
    go_wp2_with (first
     | (show sW 125;refine h_ rfl 125 _ _ rfl _ 0 #[yV 0,iV 0,iV 0,iV 0] rfl rfl E G ae ?_;clear E)
     | (show sW 79;refine h_ rfl 79 _ _ rfl _ 0 #[yV 0,iV 0,uV 0] rfl rfl M U a9 ?_;clear M)
     | fail)
    have HR:=(⟨J.out.range3,J.out.range2⟩:_ /\ _);refine f_ (MD results205 _ _ _ _ _ _ _ _ rfl HR.1 underlying125 rfl G rfl HR.2 underlying79 rfl U) rfl ?_
    first|exact a2.out _ J.out.below|exact⟨a2.out _ J.out.below,trivial⟩
theorem gA (w:World){W:List Nat}(ao:Option Addr)(cap:Nat)(hS:Src w ao W.length cap 1 (u64s W))(hf:W.length <= 65536)(L:List Ty)(ae:∀t∈L,TyIn t)(hL:L.length <= 1000)(a2:Option Addr)(U:Nat)(aa:Src w a2 L.length U 3 (tys L))
  (g r n sz:Nat)(he:GH L r n=0)(hs:GY L r n=sz)(hm:(Hd.mk 1 r n sz).may)(hg:g+sz <= W.length/2):
  Calls prog 202 #[.slice ao W.length cap,.slice a2 L.length U,iV g,iV r,iV n] w fun e w'=>∃a1 y l,e=.returned (.tuple #[.slice a1 W.length y,iV 0]) /\ Gh 36 1 a1 W.length y (u64s (mk W g ⟨1,r,n,sz⟩)) l /\ Turn [] w l w':=by
 have ag:=Gr;have Z:=uh (jb w L ae hL a2 U aa r n);unfold KB at Z;rw[he,v_ rfl,hs]at Z;have He:=uh (fun W'=>PP W' ⟨1,r,n,sz⟩ (M8 hm));rw[v_ hm,v_ hm]at He;have aM:1 <= sz:=hm.1;have ho:(#[yV 1,iV r,iV n,iV sz]:Array Value).all (·.oneCell')=true:=GP ⟨1,r,n,sz⟩;have af:mk W g ⟨1,r,n,sz⟩=(L5 W (2*g) (2*sz)).set (2*g) (Hd.mk 1 r n sz).word:=rfl;rw[af];generalize(Hd.mk 1 r n sz).word=wd at*;have aj:((W.length:Int)).tdiv 2=((W.length/2:Nat):Int):=GC _ 2;have a4:(W.length:Int)/2=((W.length/2:Nat):Int):=O;have aE:2*(g+sz) <= W.length:=O;obtain⟨z,hz⟩:∃z:Nat,W.length/2=z:=⟨_,rfl⟩;rw[hz]at aj a4 hg;have aN:z <= 65536:=O;have aG:g <= 65536:=O;have aL:sz <= 65536:=O;have hn:=uh (C_ w);have HS:=uh (fun w' (hB:Below w.heap.size w w')=>hS.below hB);have an:=Zb 36 1;have ax:0+W.length <= maxLen:=by unfold maxLen;omega
 have ay:(0+W.length)*8 <= 140737488355328:=O;have ap:=Mx W;clear af hS aa he hs hm ae hz;have k1:decide ((g:Int)<0)=false:=b_ O;have k2:decide ((z:Int)<(g:Int))=false:=b_ O;have aP:¬((z:Int)<(g:Int)):=O;have aQ:decide (z<g)=false:=b_ O;have k3:IntKind.i64.wrap ((z:Int)-(g:Int))=(z:Int)-(g:Int):=i64_in _ O;have k4:decide (((z:Int)-(g:Int))<(sz:Int))=false:=b_ O;have aR:¬((z:Int)-(g:Int))<(sz:Int):=O
 go_enter func202,ntmps202
 go_wp2_with fail
 refine Z.out.mono ?_;rintro e w1 ⟨rfl,a8⟩;have T2:=(Ze hn.out a8).alloc zH;have ah:(w1.alloc zH).there w1.heap.size 0 4:=T2.there1;have E:=uh (T2.laid [yV 1,iV r,iV n,iV sz] rfl);have c3:=E.out.cell1 3;have a3:=HS.out _ E.out.below;clear T2 a8 Z
 go_wp2_with (first
  | (show sW 125;refine h_ rfl 125 _ _ rfl _ 0 #[yV 1,iV r,iV n,iV sz] rfl rfl ah ag ho ?_;clear ah)
  | (at_builtin;refine Qv rfl _ _ rfl GF rfl rfl an (R:=[(w1.heap.size,.cells #[yV 1,iV r,iV n,iV sz] 125)]) E.out.has a3 ap ax ay ?_;intro a1 y aB w3 M ab;have a6:=uh M;have a5:=uh (E.out.trans ab);clear M ab a3 E)
  | fail)
 have M:Gh 36 1 a1 W.length y (u64s W) aB:=by have h:=a6.out;rwa [Q_,L_]at h
 obtain⟨J,av,rfl,rfl,-,-⟩:=M.some_of O;clear a6 c3;have Hr:=uh M;clear M
 go_loopw [15] (fun Sk wr=>∃(j:Nat) (cu:Array Value),j <= 2*sz /\ Sk=iV (2*g+j:Nat) /\ Gh 36 1 (some (aD J 0)) W.length y (u64s (L5 W (2*g) j)) [(J,.cells cu 36)] /\ Turn [] w ((J,.cells cu 36)::[(w1.heap.size,.cells #[yV 1,iV r,iV n,iV sz] 125)]) wr) (fun Sk _=>2*g+2*sz-(intOf Sk).toNat)
 case atStart=>exact⟨0,av,u_ _,by go_num,Hr.out,a5.out⟩
 case round=>
  clear a5 Hr;obtain⟨j,cu,hj,rfl,hr,T⟩:=hrel;have c3:wr.cell? (aD w1.heap.size 3)=some (iV sz):=T.cell2 3;have aA:=Lq W (2*g) j
  by_cases aJ:j<2*sz
  · have ak:((2*g+j:Nat):Int)<2*((g:Int)+(sz:Int)):=O
    have am:2*(g:Int)+(j:Int)<2*((g:Int)+(sz:Int)):=O;obtain⟨V,N⟩:∃V,(L5 W (2*g) j)[2*g+j]?= some V:=⟨(L5 W (2*g) j)[2*g+j]'O,a_ _⟩;have hA:2*g+j<W.length:=O;have a7:((2*g+j:Nat):Int)<(W.length:Int):=O;have c1:wr.cell? (aD J (2*g+j))=some (uV V):=(hr.cell (R:=[(w1.heap.size,.cells #[yV 1,iV r,iV n,iV sz] 125)]) T.has (2*g+j) (by rw[Xs];exact hA)).trans (JG N);have f1:wr.frozen? (aD J (2*g+j))=false:=T.free1 (2*g+j);have G:=hr.set (2*g+j) (uV (0:Nat));rw[Ls]at G;have E:=uh (T.setCell (2*g+j) (uV (0:Nat)));have a0:=uh G;have hq:∃q:Nat,q=2*g+j:=⟨_,rfl⟩;obtain⟨q,hq⟩:=hq;rw[←hq]at ak hA a7 c1 f1 E a0 ⊢;have Hq:=uh hq;clear hr T G N hq am;have aK:q <= 200000:=O
    go_wp2
    go_roundw
    case rel=>exact⟨j+1,_,by omega,by rw[show 2*g+(j+1)=q+1 by have:=Hq.out;omega];go_num,by have h:=a0.out;rw[Hq.out]at h;exact h,by have h:=E.out;rw[Hq.out]at h ⊢;exact h⟩
    case measure=>have:=Hq.out;simp[intOf];omega
  · obtain rfl:j=2*sz:=O
    have aF:¬((2*g+2*sz:Nat):Int)<2*((g:Int)+(sz:Int)):=O;have aC:¬2*(g:Int)+2*(sz:Int)<2*((g:Int)+(sz:Int)):=O;have az:=T.range2;have hA:2*g<W.length:=O;have a7:2*(g:Int)<(W.length:Int):=O;have aH:(2*(g:Int)).toNat=2*g:=O;obtain⟨V,N⟩:∃V,(L5 W (2*g) (2*sz))[2*g]?= some V:=⟨(L5 W (2*g) (2*sz))[2*g]'O,a_ _⟩;have G:=hr.set (2*g) (uV wd);rw[Ls]at G;have au:=uh (fun w' (hB:Below wr.heap.size wr w')=>(⟨(hr.cell (R:=[(w1.heap.size,.cells #[yV 1,iV r,iV n,iV sz] 125)]) (T.call hB).has (2*g) (by rw[Xs];exact hA)).trans (JG N),(T.call hB).free1 (2*g),(T.call hB).setCell (2*g) (uV wd)⟩:w'.cell? (aD J (2*g))=some (uV V) /\ w'.frozen? (aD J (2*g))=false /\ Turn [] w ((J,.cells (cu.setIfInBounds (2*g) (uV wd)) 36)::[(w1.heap.size,.cells #[yV 1,iV r,iV n,iV sz] 125)]) (w'.setCell (aD J (2*g)) (uV wd))));have a0:=uh G;clear hr T G N aA
    go_wp2_with (first
     | (show lW 125;refine J_ rfl 125 _ rfl w1.heap.size 0 rfl [yV 1,iV r,iV n,iV sz] _ az underlying125 rfl ag ?_)
     | (go_at_call 219;refine(He.out _).mono ?_;rintro e w5 ⟨rfl,a9⟩;obtain⟨c1,f1,ac⟩:=au.out _ a9;have aq:=uh ac;clear ac a9)
     | fail)
    refine f_ (E_ rfl _ _ _) rfl ?_;exact⟨some (aD J 0),y,_,rfl,a0.out,aq.out.sub (List.Sublist.cons_cons _ (List.nil_sublist _))⟩
abbrev LB (c:Ce):List Value:=[iV c.1,yV c.2.tag,iV c.2.typ,iV c.2.len,iV c.2.size]
def ces (cs:List Ce):List Value:=cs.flatMap LB
theorem GW (cs:List Ce):(ces cs).length=cs.length*5:=by
 induction cs with
 | nil=>rfl
 | cons a l ih=>
  show(LB a++ces l).length=_
  rw[e_,ih,B_];simp;omega
theorem Ra (a b:List Ce):ces (a++b)=ces a++ces b:=by simp[ces]
theorem Vz:Elem prog 58 127 5 40 (.agg #[iV 0,yV 0,iV 0,iV 0,iV 0]):=Jm underlying58 kr rfl
theorem L6 {L:List Ty}{W:List Nat}{g:Nat}{h:Hd}(y:JH L W g h):JX W g=some h /\ K0 W g=0 /\ Ka L h=0 /\ g<W.length/2:=by
 have N:=y.pos;obtain⟨⟨v,h1,h2⟩,J,M⟩:=y;have r:g<W.length/2:=O;obtain⟨E,G⟩:=LZ r h1;rw[E,G,h2];exact⟨rfl,rfl,(MS L h).2 J,r⟩
theorem PT (w:World){W:List Nat}(ao:Option Addr)(cap:Nat)(hS:Src w ao W.length cap 1 (u64s W))(hf:W.length <= 65536)(hu:∀v∈W,v<18446744073709551616)(L:List Ty)(an:∀t∈L,TyIn t)(hL:L.length <= 1000)(a8:Option Addr)(a2:Nat)(am:Src w a8 L.length a2 3 (tys L))
  (cs:List Ce)(hC:Chain L W 0 cs (W.length/2)):
  Calls prog 98 #[.slice ao W.length cap,.slice a8 L.length a2] w fun e w'=>∃ah aa l,e=.returned (.tuple #[.slice ah cs.length aa,.bool true]) /\ Gh 127 5 ah cs.length aa (ces cs) l /\ Turn [] w l w':=by
 have ac:=Gr;have aC:=uh (fun w' (hB:Below w.heap.size w w') (g:Int)=>CR w' ao cap (hS.below hB) hf hu g);have ay:=uh (fun w' (hB:Below w.heap.size w w') h hi=>D9 w' L an hL a8 a2 (am.below hB) h hi);have az:((W.length:Int)).tdiv 2=((W.length/2:Nat):Int):=GC _ 2;have af:(W.length:Int)/2=((W.length/2:Nat):Int):=O;have U:=hC.len;have hn:=uh (C_ w);have HC:=uh hC;obtain⟨z,hz⟩:∃z:Nat,W.length/2=z:=⟨_,rfl⟩;rw[hz]at az af U HC;have aL:z <= 32768:=O;clear hS am hu an hC
 go_enter func98,ntmps98
 go_wp2_with fail
 go_loopw [6,7] (fun v6 v7 wr=>∃(pre M:List Ce) (g:Nat) (a6:Option Addr) (p6:Nat) (lr:List Blk),cs=pre++M /\ v7=iV g /\ v6=.slice a6 pre.length p6 /\ Chain L W g M z /\ Gh 127 5 a6 pre.length p6 (ces pre) lr /\ Turn [] w lr wr) (fun _ v7 _=>z+1-(intOf v7).toNat)
 case atStart=>exact⟨[],cs,0,none,0,[],rfl,rfl,rfl,HC.out,Zb _ _,r_ hn.out⟩
 case round=>
  clear HC hn;obtain⟨pre,M,g,a6,p6,lr,Z,rfl,rfl,aq,a4,T⟩:=hrel
  cases M with
  | nil=>
   obtain rfl:g=z:=aq;rw[p_]at Z;subst Z;have HT:=uh T;have Hr:=uh a4;clear T a4 U
   go_wp2
   refine f_ (E_ rfl _ _ _) rfl ?_;exact⟨a6,p6,lr,rfl,Hr.out,HT.out⟩
  | cons c M=>
   obtain⟨y,h⟩:=c;obtain⟨ap,a1,N⟩:=aq;simp only at ap a1 N;subst ap;have aA:=a1.pos;have ag:y+h.size <= z:=N.le;obtain⟨e1,e2,e3,e4⟩:=L6 a1;have ab:=a1.2.1.1;have a7:=uh (aC.out wr T.below y);rw[e1,e2]at a7;have a5:=uh (fun w' (hB:Below w.heap.size w w')=>ay.out w' hB h (M8 ab));rw[e3]at a5;have aK:pre.length <= z:=(by rw[Z,e_,B_]at U;omega);have aF:pre.length+1 <= maxLen:=(by unfold maxLen;omega);have aG:(pre.length+1)*40 <= 140737488355328:=O;have HT:=uh T;have Hr:=uh a4;have ae:=uh N;have aB:=uh Z;clear T a4 N Z a1 e1 e2 e3 U;obtain⟨E,G,J,r⟩:=h;simp only at aA ag;have au:=GP ⟨E,G,J,r⟩;simp only at au;have k1:IntKind.i64.wrap ((z:Int)-(y:Int))=(z:Int)-(y:Int):=i64_in _ O;have k2:decide (((z:Int)-(y:Int))<(r:Int))=false:=b_ O;have k3:¬((z:Int)-(y:Int))<(r:Int):=O;have k4:(y:Int)<(z:Int):=O;clear ab e4
   go_wp2_with fail
   refine a7.out.mono ?_;rintro e w1 ⟨rfl,aj⟩;simp only[Zc];have T2:=(HT.out.call aj).alloc zH;have ax:(w1.alloc zH).there w1.heap.size 0 4:=T2.there1;have a3:=uh (T2.laid [yV E,iV G,iV J,iV r] rfl);have a0:=a3.out.range1;clear T2 aj HT a7
   go_wp2_with (first
    | (show sW 125;refine h_ rfl 125 _ _ rfl _ 0 #[yV E,iV G,iV J,iV r] rfl rfl ax ac au ?_;clear ax)
    | (show lW 125;refine Xb 125 _ rfl (by rfl) w1.heap.size 0 rfl [yV E,iV G,iV J,iV r] _ a0 underlying125 rfl ac ?_;clear a0)
    | fail)
   refine(a5.out _ a3.out.below).mono ?_;rintro e w2 ⟨rfl,ak⟩;have V:=uh (a3.out.call ak);have c3:=V.out.cell1 3;have a0:=V.out.range1;clear a3 ak a5
   go_upto_region 7 with fail
   have aH:∀u∈([iV y,yV E,iV G,iV J,iV r]:List Value),u.oneCell'=true:=by simp[Value.oneCell']
   go_wp2_with (first
    | (show lW 125;refine J_ rfl 125 _ rfl w1.heap.size 0 rfl [yV E,iV G,iV J,iV r] _ a0 underlying125 rfl ac ?_;clear a0)
    | (at_builtin;refine K_ rfl _ _ rfl Vz rfl Hr.out (R:=[(w2.heap.size,.cells #[iV y,yV E,iV G,iV J,iV r] 127),(w1.heap.size,.cells #[yV E,iV G,iV J,iV r] 125)]) ((V.out.alloc (.cells #[iV y,yV E,iV G,iV J,iV r] 127)).perm po).has rfl (news:=[iV y,yV E,iV G,iV J,iV r]) rfl (Qy (A_ _ _)) aH aF aG ?_;intro a9 p9 l9 w4 av V4 aJ;have V5:=uh (((V.out.alloc (.cells #[iV y,yV E,iV G,iV J,iV r] 127)).perm (l2:=lr++[(w2.heap.size,.cells #[iV y,yV E,iV G,iV J,iV r] 127),(w1.heap.size,.cells #[yV E,iV G,iV J,iV r] 125)]) po).trans V4);have aE:=uh av;have d3:=V5.out.has.cell (b:=w1.heap.size) (c:=#[yV E,iV G,iV J,iV r]) (e:=125) (f:=(0,0)) (by simp) 3;clear av V4 aJ c3 V)
    | fail)
   go_roundw
   case rel=>exact⟨pre++[(y,⟨E,G,J,r⟩)],M,y+r,a9,p9,l9,by rw[aB.out,Qq];rfl,by go_num,by rw[e_];rfl,ae.out,by rw[e_,Ra];exact aE.out,V5.out.sub (x_ l9 _)⟩
   case measure=>simp[intOf];omega
structure RefAt (w:World)(rb:Nat)(ao:Option Addr)(cap:Nat)(W:List Nat)(ao2:Option Addr)(cap2:Nat)(L:List Ty):Prop where
 c0:w.cell? (aD rb 0)=some (.slice ao W.length cap)
 c1:w.cell? (aD rb 1)=some (.slice ao2 L.length cap2)
 ws:Src w ao W.length cap 1 (u64s W)
 ts:Src w ao2 L.length cap2 3 (tys L)
theorem RefAt.below {w w':World}{rb:Nat}{ao:Option Addr}{cap:Nat}{W:List Nat}{E:Option Addr}{r:Nat}{L:List Ty}(h:RefAt w rb ao cap W E r L)(y:Below w.heap.size w w'):RefAt w' rb ao cap W E r L:=
 ⟨(y.cell (p:=(aD rb 0)) (c_ w _ h.c0)).trans h.c0,(y.cell (p:=(aD rb 1)) (c_ w _ h.c1)).trans h.c1,h.ws.below y,h.ts.below y⟩
theorem Ks.at_ {w:World}{rb:Nat}{y:Option Addr}{r:Nat}{L:List Ty}{W:List Nat}{l R:List Blk}(h:Ks rb y L.length r W l)(E:Has w (l++R))(M:Src w y L.length r 3 (tys L)):∃ao cap,RefAt w rb ao cap W y r L:=by
 obtain⟨ao,cap,N,G,rfl⟩:=h;have J:=E.perm (l':=N++((rb,.cells #[.slice ao W.length cap,.slice y L.length r] 62)::R)) po;exact⟨ao,cap,E.cell (b:=rb) (c:=#[.slice ao W.length cap,.slice y L.length r]) (e:=62) (f:=(0,0)) (by simp) 0,E.cell (b:=rb) (c:=#[.slice ao W.length cap,.slice y L.length r]) (e:=62) (f:=(0,0)) (by simp) 1,G.src J,M⟩
theorem Bc (w:World){rb:Nat}{ao:Option Addr}{cap:Nat}{W:List Nat}{M:Option Addr}{E:Nat}{L:List Ty}(V:RefAt w rb ao cap W M E L)(hf:W.length <= 65536)(hu:∀v∈W,v<18446744073709551616)(a2:∀t∈L,TyIn t)(hL:L.length <= 1000)
  (cs:List Ce)(hC:Chain L W 0 cs (W.length/2)):
  Calls prog 35 #[pt rb] w fun e w'=>∃J y l,e=.returned (.slice J cs.length y) /\ Gh 127 5 J cs.length y (ces cs) l /\ Turn [] w l w':=by
 have Hc:=uh (fun w' (U:Below w.heap.size w w')=>PT w' ao cap (V.below U).ws hf hu L a2 hL M E (V.below U).ts cs hC);have hn:=C_ w;have HR:=uh (fun w' (U:Below w.heap.size w w')=>(⟨(V.below U).c0,(V.below U).c1⟩:w'.cell? (aD rb 0)=some (.slice ao W.length cap) /\ w'.cell? (aD rb 1)=some (.slice M L.length E)));have HT:=uh (r_ hn);clear V hu a2 hC hn
 go_enter func35,ntmps35
 go_wp2_with fail
 refine J1 (fun W'=>Turn [] w [] W'.drew) HT.out.drew fun W1 T1=>?_;have G:=HR.out _ T1.below;have N:=uh T1;clear T1 HT;refine F_ ?_;refine rG (S:=fun W'=>W'.cell? (aD rb 0)=some (.slice ao W.length cap) /\ W'.cell? (aD rb 1)=some (.slice M L.length E)) 14 ?_;refine G2 0 6 G ?_;refine G2 1 7 G ?_;refine G2 2 8 G ?_;refine Jt 3 9 G (fun w Z=>Z.1) ?_;refine G2 4 10 G ?_;refine G2 5 11 G ?_;refine G2 6 12 G ?_;refine Jt 7 13 G (fun w Z=>Z.2) ?_;refine G5 8 (fun K hK=>?_)
 go_simp
 refine(Hc.out _ N.out.below).mono ?_;rintro e W3 ⟨J,y,l',rfl,a0,T3⟩;have a1:=uh ((N.out.trans T3):Turn [] w l' W3);have r:=HR.out _ a1.out.below;have a3:=uh a0;refine hK.out _ _ r fun _=>?_;clear hK K G T3 a0 N;simp only[Gb,G7,G6];refine G2 9 5 r ?_;refine G2 10 15 r ?_;refine G2 11 16 r ?_;refine G2 12 3 r ?_;refine G2 13 4 r ?_;refine P_ kr ?_ _;refine z_ ?_;clear r
 go_wp2
 go_ret;exact⟨J,y,l',rfl,a3.out,a1.out⟩
theorem JU {P:Program}(t e:TypeId)(i:TypeInfo)(z:Value)(N:P.underlying t=some (.slice e))(M:P.info? e=some i)(U:i.zero=some z)
  (G E:IntKind)(n:Nat)(r:i.bytes*n <= 281474976710656)(V:n <= 9223372036854775807)(w:World):
  (Instr.makeSlice t (.int G (n:Int)) (.int E (n:Int))).run P w=.ok (.slice (some (aD w.heap.size 0)) n n) (w.alloc (.cells (madeCells z.cells (n*i.size)) e)):=by
 have J:(i.bytes:Int)*(n:Int) <= 281474976710656:=by
  have h:((i.bytes*n:Nat):Int) <= 281474976710656:=O
  rwa [Int.natCast_mul]at h
 have y:=run_make (P:=P) w t e i z N M U G E n n O O J O;simp only[Qs]at y;exact y
def Kq (n:Int):Prop:=16 <= n /\ n <= 65536 /\ n%2=0
instance (n:Int):Decidable (Kq n):=by unfold Kq;infer_instance
theorem F0 (w:World)(n:Int)(h:¬Kq n):Calls prog 77 #[iV n] w fun e w'=>e=.returned (.tuple #[.pointer none,iV 2]) /\ w'=w:=by
 by_cases h1:n<16
 · have y:decide (n<16)=true:=k_ h1
   clear h
   go_enter func77,ntmps77
   go_wp2
   go_ret2;exact⟨rfl,rfl⟩
 have y:decide (n<16)=false:=b_ h1
 by_cases h2:65536<n
 · have E:decide (65536<n)=true:=k_ h2
   clear h
   go_enter func77,ntmps77
   go_wp2
   go_ret2;exact⟨rfl,rfl⟩
 have E:decide (65536<n)=false:=b_ h2;have r:¬n%2=0:=fun r=>h ⟨by omega,by omega,r⟩;have G:n.tmod 2=1:=by rw[Xg O];omega
 have J:n%2=1:=O;clear h r
 go_enter func77,ntmps77
 go_wp2
 go_ret2;exact⟨rfl,rfl⟩
theorem Tn (n:Nat):madeCells (uV 0).cells (n*1)=(u64s (List.replicate n 0)).toArray:=by
 apply Array.ext_getElem?
 intro m;rw[Xs]
 by_cases r:m<n
 · have h1:((u64s (List.replicate n 0)).toArray)[m]?= some (uV 0):=by rw[Yp];exact JG (by rw[Xz,v_ r])
   rw[h1];simp[madeCells,r];have y:(uV 0).cells=#[uV 0]:=rfl;rw[y,show m%(#[uV 0]:Array Value).size=0 from Nat.mod_one m]
   rfl
 ·rw[Yc (by simp[madeCells];omega),Yc (by simp[u64s];omega)]
theorem Q4 (w:World)(n:Nat)(h:Kq n):Calls prog 77 #[iV n] w fun e w'=>∃a Z,e=.returned (.tuple #[pt a,iV 0]) /\ Turn [] w (G0 a Z (List.replicate n 0) 0) w':=by
 obtain⟨h1,h2,J⟩:=h;obtain⟨i,M,U,E,y⟩:=GF.info;have N:=fun W:World=>JU (P:=prog) 24 36 i _ GF.ht M U .i64 .i64 n (by rw[y];omega) O W;rw[E,Tn n]at N;have T:=(((r_ (C_ w)).alloc (.cells (u64s (List.replicate n 0)).toArray 36)).alloc (.cells #[.slice (some (aD w.heap.size 0)) n n,uV 0] 132)).swap;rw[Y_]at T;have V:=uh T;generalize r:(u64s (List.replicate n 0)).toArray=a0 at*;have G:=uh r;clear r;have k1:decide ((n:Int)<16)=false:=b_ O;have k2:decide ((65536:Int)<(n:Int))=false:=b_ O;have k3:((n:Int)).tmod 2=0:=by rw[Xg O];omega
 have k4:(n:Int)%2=0:=J;have k5:¬(n:Int)<16:=O;have k6:¬(65536:Int)<(n:Int):=O;have k7:((n:Int)).toNat=n:=Qs n;clear M U E y T h1 h2 J
 go_enter func77,ntmps77
 go_wp2
 go_ret2;refine⟨w.heap.size+1,rfl,w.heap.size,?_⟩;unfold G0;rw[W_];rw[G.out];exact V.out
theorem Gh.fresh (e:TypeId)(size g n:Nat)(xs:List Value)(r:xs.length=n*size)(y:n <= maxLen):Gh e size (some (aD g 0)) n n xs [(g,.cells xs.toArray e)]:=
 ⟨r,Nat.le_refl _,y,.inr ⟨g,xs.toArray,rfl,rfl,by simp[r],by rw[←r];simp⟩⟩
theorem jv (w:World)(n:Nat)(h:Kq n)(lao:Option Addr)(r lcap:Nat):
  Calls prog 150 #[iV n,.slice lao r lcap] w fun e w'=>∃rb l,e=.returned (pt rb) /\ Ks rb lao r lcap (lay (List.replicate n 0) 0 (n/2)) l /\ Turn [] w l w':=by
 obtain⟨h1,h2,h3⟩:=h;obtain⟨i,hi,hz,J,G⟩:=GF.info;have a0:=fun W:World=>JU (P:=prog) 24 36 i _ GF.ht hi hz .i64 .i64 n (by rw[G];omega) O W;rw[J,Tn n]at a0;have T:=(((Turn.refl (Has.nil w)).alloc (.cells (u64s (List.replicate n 0)).toArray 36)).alloc (.cells #[.slice (some (aD w.heap.size 0)) n n,.slice lao r lcap] 62));rw[World.size_alloc]at T
 have hI:Ks (w.heap.size+1) lao r lcap (List.replicate n 0) [(w.heap.size+1,.cells #[.slice (some (aD w.heap.size 0)) n n,.slice lao r lcap] 62),(w.heap.size,.cells (u64s (List.replicate n 0)).toArray 36)]:=
  ⟨some (aD w.heap.size 0),n,[(w.heap.size,.cells (u64s (List.replicate n 0)).toArray 36)],by rw[List.length_replicate];exact Gh.fresh _ _ _ _ _ (by simp[u64s]) (by unfold maxLen;omega),by first|rw[List.length_replicate]|simp[List.length_replicate]⟩
 have V:=uh (AH _ (R:=[]) hI (by rw[List.append_nil];exact T) (by rw[List.length_replicate];omega) 0 (n/2) (by rw[List.length_replicate];omega));generalize N:(u64s (List.replicate n 0)).toArray=a1 at*;clear N T hI;have k4:((n:Int)).tdiv 2=((n/2:Nat):Int):=GC _ 2;have k5:(n:Int)/2=((n/2:Nat):Int):=O;have k7:((n:Int)).toNat=n:=Int.toNat_natCast n;obtain⟨z,M⟩:∃z:Nat,n/2=z:=⟨_,rfl⟩;rw[M]at k4 k5 V ⊢;clear hi hz J G h1 h3 M
 go_enter func150,ntmps150
 go_wp2_with fail
 refine V.out.mono ?_;rintro e w2 ⟨⟨u,rfl⟩,l2,y,E⟩;have U:=uh y;have Z:=uh E;clear y E
 go_wp2_with fail
 go_ret;refine⟨_,l2,rfl,U.out,?_⟩;have h:=Z.out
 rwa [List.append_nil]at h
theorem Rk (w:World){sb a J:Nat}{W:List Nat}(c0:w.cell? (aD sb 0)=some (pt a))(E:ArAt w a J W)(U:W.length <= 65536):
  Calls prog 67 #[pt sb] w fun e w'=>e=.returned (iV (W.length/2:Nat)) /\ w'=w:=by
 have r:=uh (F2 w E);have M:((W.length:Int)).tdiv 2=((W.length/2:Nat):Int):=GC _ 2;have G:(W.length:Int)/2=((W.length/2:Nat):Int):=O;have N:W.length/2 <= 32768:=O;generalize W.length/2=z at*;generalize W.length=y at*;clear E
 go_enter func67,ntmps67
 go_wp2_with fail
 refine r.out.mono ?_;rintro e w1 ⟨rfl,rfl⟩;clear r
 go_wp2_with fail
 go_ret;exact⟨rfl,rfl⟩
theorem NW (w:World){sb:Nat}{v:Value}{a:Addr}(r:v=.pointer (some a))(c0:w.cell? (aD sb 0)=some v):
  Calls prog 15 #[pt sb] w fun e w'=>e=.returned v /\ w'=w:=by
 subst r
 go_enter func15,ntmps15
 go_wp2_with fail
 go_ret;exact⟨rfl,rfl⟩
theorem XQ (w:World){sb:Nat}{v:Value}{a:Addr}(r:v=.pointer (some a))(y:w.cell? (aD sb 1)=some v):
  Calls prog 112 #[pt sb] w fun e w'=>e=.returned v /\ w'=w:=by
 subst r
 go_enter func112,ntmps112
 go_wp2_with fail
 go_ret;exact⟨rfl,rfl⟩
theorem ER {cs:List Ce}{i:Nat}{c:Ce}(r:cs[i]?= some c){j:Nat}(y:j<5):(ces cs)[i*5+j]?= (LB c)[j]? :=by
 induction cs generalizing i with
 | nil=>cases r
 | cons a l ih=>
  show(LB a++ces l)[i*5+j]?= _
  cases i with
  | zero=>
   have:a=c:=(by simpa using r);subst this;rw[Nat.zero_mul,Q_,Qz (by exact y)]
  | succ i=>
   rw[show(i+1)*5+j=5+(i*5+j)by omega,Qg (by show 5 <= _;omega)];rw[show 5+(i*5+j)-(LB a).length=i*5+j from Yg ..];exact ih (by simpa using r)
theorem Src.ce {w:World}{b off n cap:Nat}{cs:List Ce}(h:Src w (some (aD b off)) n cap 5 (ces cs)){i:Nat}{c:Ce}(y:cs[i]?= some c):w.rangeAt b (off+i*5) (LB c):=by
 intro j v r;have E:j<5:=(m_.1 r).1;have h1:=h.at_ _ rfl (i*5+j) v (by rw[ER y E];exact r);rw[KS]at h1;rw[Nat.add_assoc];exact h1
theorem LQ:(prog.info? 127).map (·.size)=some 5:=by kernel_rfl
theorem Rb (c:Ce):(#[iV c.1,yV c.2.tag,iV c.2.typ,iV c.2.len,iV c.2.size]:Array Value).all (·.oneCell')=true:=Yn (cs:=LB c) (by simp[Value.oneCell'])
theorem Turn.grow {r X A:List Blk}{w0 w w':World}(T:Turn r w0 X w)(y:Turn [] w A w'):Turn r w0 (A++X) w':=T.trans (by have h:=y.more (R:=X) (by simpa using T.has);simpa using h)
theorem Cj {w0:World}(w:World){rb lcap:Nat}{lao:Option Addr}{W:List Nat}{L:List Ty}{l R:List Blk}(hI:Ks rb lao L.length lcap W l)(T:Turn [] w0 (l++R) w)(hS:Src w0 lao L.length lcap 3 (tys L))(a4:∀t∈L,TyIn t)(hL:L.length <= 1000)(hf:W.length <= 65536)
  (g G n:Int)(a0:GH L G n≠0∨g<0∨((W.length/2:Nat):Int) <= g):
  Calls prog 151 #[pt rb,iV g,iV G,iV n] w fun e w'=>e=.returned (iV (if GH L G n≠0 then GH L G n else 2)) /\ Turn [] w0 (l++R) w':=by
 have a2:=Gr;have Z:=uh (fun w' (hB:Below w0.heap.size w0 w')=>jb w' L a4 hL lao lcap (hS.below hB) G n);obtain⟨ao,cap,lr,a7,rfl⟩:=hI;have c1:w.cell? (aD rb 1)=some (.slice lao L.length lcap):=T.cell1 1
 obtain⟨J,M,N,U,hx,a1⟩:∃J M N U:Value,KB L G n=[J,M,N,U] /\ (#[J,M,N,U]:Array Value).all (·.oneCell')=true:=by
  unfold KB
  split
  ·exact⟨_,_,_,_,rfl,Yn (cs:=[yV 1,iV G,iV n,iV (GY L G n:Nat)]) (by simp[Value.oneCell'])⟩
  ·exact⟨_,_,_,_,rfl,LA⟩
 rw[hx]at Z;have HT:=uh T;have a5:((W.length:Int)).tdiv 2=((W.length/2:Nat):Int):=GC _ 2;have a3:(W.length:Int)/2=((W.length/2:Nat):Int):=O;obtain⟨z,hz⟩:∃z:Nat,W.length/2=z:=⟨_,rfl⟩;rw[hz]at a5 a3 a0;generalize GH L G n=er at*;clear T hS a4 a7 hx
 by_cases he:er=0
 · subst he
   rw[y_ (by simp)];have a6:g<0∨(z:Int) <= g:=a0.resolve_left (by simp);clear a0;rcases a6 with hg|hg
   · have k1:decide (g<0)=true:=k_ hg
     go_enter func151,ntmps151
     go_wp2_with fail
     refine(Z.out _ HT.out.below).mono ?_;rintro e w1 ⟨rfl,r⟩;have E:=(HT.out.call r).alloc zH;have y:(w1.alloc zH).there w1.heap.size 0 4:=E.there1;have V:=uh ((E.laid [J,M,N,U] rfl).tail);clear E r
     go_wp2_with (first
      | (show sW 125;refine h_ rfl 125 _ _ rfl _ 0 #[J,M,N,U] rfl rfl y a2 a1 ?_;clear y)
      | fail)
     go_ret;exact⟨rfl,V.out⟩
   · have k1:decide (g<0)=false:=b_ O
     have k2:decide ((z:Int) <= g)=true:=k_ hg;have k3:¬g<0:=O
     go_enter func151,ntmps151
     go_wp2_with fail
     refine(Z.out _ HT.out.below).mono ?_;rintro e w1 ⟨rfl,r⟩;have E:=(HT.out.call r).alloc zH;have y:(w1.alloc zH).there w1.heap.size 0 4:=E.there1;have T3:=E.laid [J,M,N,U] rfl;have c0:=T3.cell2 0;have V:=uh T3.tail;clear E T3 r
     go_wp2_with (first
      | (show sW 125;refine h_ rfl 125 _ _ rfl _ 0 #[J,M,N,U] rfl rfl y a2 a1 ?_;clear y)
      | fail)
     go_ret;exact⟨rfl,V.out⟩
 · rw[v_ he]
   clear a0;have ke:(er != 0)=true:=by rw[Qe];exact he
   go_enter func151,ntmps151
   go_wp2_with fail
   refine(Z.out _ HT.out.below).mono ?_;rintro e w1 ⟨rfl,r⟩;have E:=(HT.out.call r).alloc zH;have y:(w1.alloc zH).there w1.heap.size 0 4:=E.there1;have V:=uh ((E.laid [J,M,N,U] rfl).tail);clear E r
   go_wp2_with (first
    | (show sW 125;refine h_ rfl 125 _ _ rfl _ 0 #[J,M,N,U] rfl rfl y a2 a1 ?_;clear y)
    | fail)
   go_ret;exact⟨rfl,V.out⟩
end
section
def GA:Nat -> List Ce -> Nat
 | f,[]=>f
 | f,c::cs=>GA (if c.2.tag=1 then c.1+c.2.size else f) cs
def Gq:Nat -> List Ce -> Nat
 | t,[]=>t
 | t,c::cs=>if c.2.tag=1 then t else Gq (c.1+c.2.size) cs
theorem Kb:∀(a b:List Ce) (f:Nat),GA f (a++b)=GA (GA f a) b
 | [],_,_=>rfl
 | _::a,b,_=>Kb a b _
theorem Rz:∀(a:List Ce) (f:Nat),(∀c∈a,c.2.tag≠1) -> GA f a=f
 | [],_,_=>rfl
 | c::a,f,h=>by
  rw[GA,y_ (h c (d_ ..)),Rz a f fun d hd=>h d (V_ _ hd)]
theorem NS:∀(a b:List Ce) (t:Nat),(∀c∈a,c.2.tag≠1) -> ∀{L:List Ty} {W:List Nat} {m:Nat},Chain L W t a m -> Gq t (a++b)=Gq m b
 | [],b,t,_,_,_,m,h=>by cases h;rfl
 | c::a,b,t,h,L,W,m,hC=>by
  obtain⟨h1,h2,r⟩:=hC;rw[Qd,Gq,y_ (h c (d_ ..)),h1];exact NS a b _ (fun d hd=>h d (V_ _ hd)) r
theorem VB {t:Nat}{b:List Ce}(h:b=[]∨∃d r,b=d::r /\ d.2.tag=1):Gq t b=t:=by
 rcases h with rfl|⟨d,r,rfl,hd⟩
 ·rfl
 ·rw[Gq,v_ hd]
theorem Uf {L:List Ty}{W:List Nat}{a:List Ce}{m:Nat}(y:Chain L W 0 a m)(h:a=[]∨∃r d,a=r++[d] /\ d.2.tag=1):GA 0 a=m:=by
 rcases h with rfl|⟨r,d,rfl,hd⟩
 ·exact y
 · obtain⟨-,-,E⟩:=y.split
   rw[Kb,GA,v_ hd];exact E
def MM (W:List Nat)(pre:List Ce)(c:Ce)(post:List Ce):List Nat:=lay W (GA 0 pre) (Gq (c.1+c.2.size) post-GA 0 pre)
theorem MV {L:List Ty}{W:List Nat}{pre r:List Ce}{c:Ce}{e:Nat}(hC:Chain L W 0 (pre++c::r) e):
  ∃a y E b,pre=a++y /\ r=E++b /\ (∀x∈y,x.2.tag≠1) /\ (∀x∈E,x.2.tag≠1) /\ (a=[]∨∃a1 d,a=a1++[d] /\ d.2.tag=1) /\ (b=[]∨∃d b1,b=d::b1 /\ d.2.tag=1) /\
   Chain L W 0 a (GA 0 pre) /\ Chain L W (GA 0 pre) (y++c::E) (Gq (c.1+c.2.size) r) /\ Chain L W (Gq (c.1+c.2.size) r) b e:=by
 obtain⟨h1,h2,h3⟩:=hC.split;obtain⟨a,y,Z,G,J⟩:=ZS pre;obtain⟨E,b,a0,M,N⟩:=WM r;subst Z;subst a0;obtain⟨m,U,h5⟩:=Chain.append.1 h1;obtain⟨q,V,h7⟩:=Chain.append.1 h3;have e1:GA 0 (a++y)=m:=by rw[Kb,Rz y _ G];exact Uf U J
 have e2:Gq (c.1+c.2.size) (E++b)=q:=by rw[NS E b _ M V];exact VB N
 rw[e1,e2];exact⟨a,y,E,b,rfl,rfl,G,M,J,N,U,Chain.join h5 h2 V,h7⟩
def noTouch:List Ce -> Prop
 | []=>True
 | [_]=>True
 | c::d::cs=>(c.2.tag=1∨d.2.tag=1) /\ noTouch (d::cs)
theorem noTouch.tail {c:Ce}{cs:List Ce}(h:noTouch (c::cs)):noTouch cs:=by
 cases cs with
 | nil=>trivial
 | cons d cs=>exact h.2
theorem noTouch.cons {c:Ce}{cs:List Ce}(h:noTouch cs)(r:c.2.tag=1∨cs=[]∨∃d b,cs=d::b /\ d.2.tag=1):noTouch (c::cs):=by
 cases cs with
 | nil=>trivial
 | cons d cs=>
  refine⟨?_,h⟩;rcases r with r|r|⟨E,b,hd,y⟩
  ·exact .inl r
  ·cases r
  ·cases hd;exact .inr y
theorem noTouch.append:∀{a b:List Ce},noTouch a -> noTouch b -> ((a=[]∨∃r d,a=r++[d] /\ d.2.tag=1)∨(b=[]∨∃d E,b=d::E /\ d.2.tag=1)) -> noTouch (a++b)
 | [],_,_,hb,_=>hb
 | [c],b,_,hb,h=>by
  refine noTouch.cons hb ?_;rcases h with(h|⟨r,d,h,hd⟩)|h
  ·cases h
  · have:r=[] /\ c=d:=by
      cases r with
      | nil=>simpa using h
      | cons x r=>have:=Qu List.length h;simp at this
    obtain⟨-,rfl⟩:=this;exact .inl hd
  ·exact .inr h
 | c::d::a,b,ha,hb,h=>by
  refine⟨ha.1,?_⟩;refine noTouch.append (a:=d::a) ha.2 hb ?_;rcases h with(h|⟨r,x,h,G⟩)|h
  ·cases h
  · refine .inl (.inr ?_)
    cases r with
    | nil=>have:=Qu List.length h;simp at this
    | cons y r=>
     rw[Qd]at h;exact⟨r,x,(List.cons.inj h).2,G⟩
  ·exact .inr h
theorem noTouch.left:∀{a b:List Ce},noTouch (a++b) -> noTouch a
 | [],_,_=>trivial
 | [_],_,_=>trivial
 | _::d::a,b,h=>⟨h.1,noTouch.left (a:=d::a) (b:=b) h.2⟩
theorem noTouch.right:∀{a b:List Ce},noTouch (a++b) -> noTouch b
 | [],_,h=>h
 | _::a,_,h=>noTouch.right (a:=a) h.tail
theorem Good.drop_all {L:List Ty}{W:List Nat}{pre r:List Ce}{c:Ce}(h:Good L W (pre++c::r))(Z:noTouch (pre++c::r)):
  ∃cs',Good L (MM W pre c r) cs' /\ noTouch cs' /\ objs cs'=objs pre++objs r:=by
 obtain⟨a,y,E,b,rfl,rfl,J,U,M,V,h4,h5,h6⟩:=MV h.chain
 have h':Good L W (a++((y++c::E)++b)):=by
  have e:a++((y++c::E)++b)=(a++y)++c::(E++b):=by simp
  rw[e];exact h
 refine⟨a++(GA 0 (a++y),Kd (Gq (c.1+c.2.size) (E++b)-GA 0 (a++y)))::b,h'.drop (by simp) ⟨h4,h5⟩,?_,?_⟩
 · have N:noTouch b:=noTouch.right (a:=(a++y)++c::E) (by simpa using Z)
   have G:noTouch a:=noTouch.left (b:=y++c::(E++b)) (by simpa using Z);exact G.append (N.cons (.inr V)) (.inl M)
 · rw[GM,GM,GM,UB J,UB U,p_,L_]
   congr 1
   unfold objs;rw[Xj (by rw[J2];exact ND _)]
theorem LU (g n:Nat):noTouch (N1 g n):=by unfold N1;split<;>trivial
theorem noTouch.put {a b:List Ce}{c:Ce}(E:noTouch (a++c::b))(M:c.2.tag≠1){g:Nat}{h:Hd}(N:h.tag=1):noTouch (a++Wt c g h++b):=by
 have ha:noTouch a:=E.left;have y:noTouch (c::b):=E.right;have hb:noTouch b:=y.tail
 have J:b=[]∨∃d U,b=d::U /\ d.2.tag=1:=by
  cases b with
  | nil=>exact .inl rfl
  | cons d b=>exact .inr ⟨d,b,rfl,y.1.resolve_left M⟩
 have G:a=[]∨∃r d,a=r++[d] /\ d.2.tag=1:=by
  rcases List.eq_nil_or_concat a with rfl|⟨r,d,rfl⟩
  ·exact .inl rfl
  · refine .inr ⟨r,d,by simp,?_⟩
    have h1:noTouch (d::c::b):=noTouch.right (a:=r) (by simpa using E);exact h1.1.resolve_right M
 have h1:noTouch (N1 (g+h.size) (c.1+c.2.size-g-h.size)++b):=(LU _ _).append hb (.inr J);have h2:noTouch ((g,h)::(N1 (g+h.size) (c.1+c.2.size-g-h.size)++b)):=h1.cons (.inl N);have V:noTouch (N1 c.1 (g-c.1)++(g,h)::(N1 (g+h.size) (c.1+c.2.size-g-h.size)++b)):=(LU _ _).append h2 (.inr (.inr ⟨_,_,rfl,N⟩));have Z:=ha.append V (.inl G);unfold Wt
 simpa using Z
theorem U3 {L:List Ty}{W:List Nat}:∀{cs:List Ce} {g e:Nat},Chain L W g cs e -> ∀{j:Nat} {c d:Ce},cs[j]?= some c -> cs[j+1]?= some d -> d.1=c.1+c.2.size
 | [],_,_,_,_,_,_,h,_=>by simp at h
 | x::cs,g,e,hC,0,c,d,hc,hd=>by
  obtain rfl:x=c:=by simpa using hc
  obtain⟨h1,-,r⟩:=hC
  cases cs with
  | nil=>simp at hd
  | cons y cs=>
   obtain rfl:y=d:=(by simpa using hd);rw[r.1,h1]
 | x::cs,g,e,hC,j+1,c,d,hc,hd=>U3 hC.2.2 (j:=j) (by simpa using hc) (by simpa using hd)
theorem X0 {L:List Ty}{W:List Nat}{cs:List Ce}{g e:Nat}(y:Chain L W g cs e){c:Ce}(r:cs[0]?= some c):c.1=g:=by
 cases cs with
 | nil=>simp at r
 | cons x cs=>
  obtain rfl:x=c:=by simpa using r
  exact y.1
theorem K8 {cs:List Ce}{j:Nat}{d:Ce}(h:cs[j]?= some d):cs.take (j+1)=cs.take j++[d]:=by rw[Qr,h];rfl
theorem NF {cs:List Ce}{j:Nat}{d:Ce}(h:cs[j]?= some d):cs.drop j=d::cs.drop (j+1):=by
 obtain⟨r,rfl⟩:=m_.1 h;exact List.drop_eq_getElem_cons r
def Dn (cs:List Ce)(F j x:Nat):Prop:=(∃d,cs[j]?= some d /\ d.1=x) /\ GA 0 (cs.take j)=F
theorem Dn.first {L:List Ty}{W:List Nat}{cs:List Ce}{e F x:Nat}(r:Chain L W 0 cs e)(h:Dn cs F 0 x):x=F:=by
 obtain⟨⟨d,h1,rfl⟩,h2⟩:=h;rw[X0 r h1,←h2]
 rfl
theorem Dn.obj {L:List Ty}{W:List Nat}{cs:List Ce}{e F x j:Nat}(r:Chain L W 0 cs e)(h:Dn cs F (j+1) x){d:Ce}(hd:cs[j]?= some d)(y:d.2.tag=1):x=F:=by
 obtain⟨⟨E,h1,rfl⟩,h2⟩:=h;rw[U3 r hd h1,←h2,K8 hd,Kb,GA,v_ y]
 rfl
theorem Dn.gap {cs:List Ce}{F x j:Nat}(h:Dn cs F (j+1) x){d:Ce}(hd:cs[j]?= some d)(r:d.2.tag≠1):Dn cs F j d.1:=by
 obtain⟨-,h2⟩:=h;refine⟨⟨d,hd,rfl⟩,?_⟩;rw[←h2,K8 hd,Kb,GA,y_ r]
 rfl
theorem Ue {cs:List Ce}{m:Nat}{d:Ce}(h:cs[m]?= some d)(t:Nat)(r:d.2.tag=1):Gq t (cs.drop m)=t:=by rw[NF h,Gq,v_ r]
theorem WV {cs:List Ce}{m:Nat}{d:Ce}(h:cs[m]?= some d)(t:Nat)(r:d.2.tag≠1):Gq t (cs.drop m)=Gq (d.1+d.2.size) (cs.drop (m+1)):=by rw[NF h,Gq,y_ r]
theorem VC {cs:List Ce}{m:Nat}(h:cs.length <= m)(t:Nat):Gq t (cs.drop m)=t:=by rw[List.drop_eq_nil_of_le h];rfl
/-! ### A Settle -/
theorem AA {L:List Ty}{W:List Nat}{g:Int}{h:Hd}(r:objq L W g=some h):0 <= g /\ JH L W g.toNat h /\ h.tag=1:=by
 unfold objq at r
 cases y:JX W g with
 | none=>rw[y]at r;cases r
 | some h'=>
  rw[y]at r;simp only at r
  split at r
  · rename_i hc
    cases r
    obtain⟨h1,h2,G,-⟩:=L8 y;obtain⟨g,rfl⟩:∃q:Nat,g=q:=⟨g.toNat,by omega⟩;refine⟨h2,⟨?_,(MS L h).1 hc.2.1,by rw[Qs];omega⟩,hc.1⟩;have E:2*g<W.length:=O;refine⟨W[2*g],a_ E,?_⟩
    have:=(LZ (W:=W) (g:=g) (v:=W[2*g]) O (a_ E)).1;rw[←this,y]
  ·cases r
theorem Lz {L:List Ty}{W:List Nat}{g:Nat}{h:Hd}(r:JH L W g h)(E:h.tag=1):objq L W (g:Int)=some h:=by
 have J:=r.pos;obtain⟨⟨v,h1,h2⟩,y,G⟩:=r;unfold objq;rw[(LZ O h1).1,h2];simp only;rw[v_ ⟨E,(MS L h).2 y,by omega⟩]
def Gg:Nat -> List Ce -> Nat
 | e,[]=>e
 | _,c::cs=>Gg (c.1+c.2.size) cs
theorem R3:∀(os:List Ce) (c:Ce) (e:Nat),Gg e (os++[c])=c.1+c.2.size
 | [],_,_=>rfl
 | _::os,c,_=>R3 os c _
theorem NX {L:List Ty}{W:List Nat}:∀{os:List Ce} {c:Ce} {e:Nat},JR L W e (os++[c])↔JR L W e os /\ Gg e os <= c.1 /\ JH L W c.1 c.2 /\ c.2.tag=1
 | [],c,e=>⟨fun h=>⟨trivial,h.1,h.2.1,h.2.2.1⟩,fun h=>⟨h.2.1,h.2.2.1,h.2.2.2,trivial⟩⟩
 | d::os,c,e=>by
  constructor
  · intro h
    have h1:=NX.1 h.2.2.2;exact⟨⟨h.1,h.2.1,h.2.2.1,h1.1⟩,h1.2⟩
  · intro h
    exact⟨h.1.1,h.1.2.1,h.1.2.2.1,NX.2 ⟨h.1.2.2.2,h.2⟩⟩
def Sj (os:List Ce):List Int:=os.map fun c=>(c.1:Int)
theorem MZ (n:Nat):∀(os:List Ce) (e:Nat),(∀c∈os,c.2.tag=1) -> noTouch (Ly n os e)
 | [],e,_=>LU ..
 | c::os,e,h=>by
  rw[Ly];have h1:=MZ n os (c.1+c.2.size) fun d hd=>h d (V_ _ hd);have r:=h c (d_ ..);exact(LU _ _).append (h1.cons (.inl r)) (.inr (.inr ⟨_,_,rfl,r⟩))
end
section
open Go Go.RowKit Go.IntWalk
theorem Src.ce1 {w:World}{b off n cap:Nat}{cs:List Ce}(h:Src w (some (aD b off)) n cap 5 (ces cs)){i:Nat}{c:Ce}(r:cs[i]?= some c):
  w.cell? (aD b (off+i*5))=some (iV c.1) /\ w.cell? (aD b (off+i*5+1))=some (yV c.2.tag) /\ w.cell? (aD b (off+i*5+4))=some (iV c.2.size):=
 have h1:=h.ce r
 ⟨h1 0 _ rfl,h1 1 _ rfl,h1 4 _ rfl⟩
theorem YR {w0:World}(w:World){rb lcap:Nat}{lao:Option Addr}{W:List Nat}{L:List Ty}{l R:List Blk}(hI:Ks rb lao L.length lcap W l)(T:Turn [] w0 (l++R) w)(hS:Src w0 lao L.length lcap 3 (tys L))(V:∀t∈L,TyIn t)(hL:L.length <= 1000)(hf:W.length <= 65536)
  (hu:∀v∈W,v<18446744073709551616)(cs:List Ce)(U:Chain L W 0 cs (W.length/2))(g:Int)(E:∀c∈cs,¬((c.1:Int)=g /\ c.2.tag=1)):
  Calls prog 153 #[pt rb,iV g] w fun e w'=>e=.returned (iV 3) /\ Turn [] w0 (l++R) w':=by
 obtain⟨a6,a3,hR⟩:=hI.at_ T.has (hS.below T.below);have Z:=uh (Bc w hR hf hu V hL cs U);have a0:=U.len;obtain⟨z,hz⟩:∃z:Nat,W.length/2=z:=⟨_,rfl⟩;have a9:z <= 32768:=O;rw[hz]at a0;have HT:=uh T;have a7:=uh (fun c (h:c∈cs)=>U.mem c h);clear T hS V hu U hR hI
 go_enter func153,ntmps153
 go_wp2_with fail
 refine Z.out.mono ?_;rintro e w2 ⟨a5,aa,a2,rfl,r,T4⟩;have J:=uh (HT.out.grow T4);have M:=uh r;clear T4 HT r
 go_wp2_with fail
 have HF:=uh (fun(h:0<cs.length)=>((M.out.src J.out.has).form (by rw[GW];omega)))
 go_loopw [6] (fun v6 wr=>∃i:Nat,i <= cs.length /\ v6=iV i /\ Turn [] w0 (a2++(l++R)) wr) (fun v6 _=>cs.length-(intOf v6).toNat)
 case atStart=>exact⟨0,u_ _,by go_num,J.out⟩
 case round=>
  clear J;obtain⟨i,hi,rfl,T⟩:=hrel
  by_cases a1:i<cs.length
  · have a4:(i:Int)<(cs.length:Int):=O
    obtain⟨c,hc⟩:∃c,cs[i]?= some c:=⟨cs[i],a_ a1⟩;have N:=E c (q_ hc);obtain⟨b,off,rfl,-⟩:=HF.out O;obtain⟨d0,d1,-⟩:=(M.out.src T.has).ce1 hc;obtain⟨cg,⟨xa,xb,xc,xd⟩⟩:=c;simp only at N d0 d1;have y:=uh T;clear T hc
    by_cases G:(cg:Int)=g
    · have k1:((cg:Int) != g)=false:=by rw[Xm];exact G
      have k2:((xa:Int) != 1)=true:=(by rw[Qe];intro h;exact N ⟨G,by omega⟩);have k3:(xa != 1)=true:=(by rw[Qe];intro h;exact N ⟨G,by omega⟩);clear G N E
      go_wp2_with fail
      go_roundw
      case rel=>exact⟨i+1,by omega,by go_num,y.out⟩
      case measure=>simp[intOf];omega
    · have k1:((cg:Int) != g)=true:=by rw[Qe];exact G
      clear G N E
      go_wp2_with fail
      go_roundw
      case rel=>exact⟨i+1,by omega,by go_num,y.out⟩
      case measure=>simp[intOf];omega
  · have a8:¬(i:Int)<(cs.length:Int):=O
    have y:=uh T.drop;clear T E
    go_wp2_with fail
    go_ret;exact⟨rfl,y.out⟩
theorem gK {w0:World}(w:World){rb lcap:Nat}{lao:Option Addr}{W:List Nat}{L:List Ty}{l R:List Blk}(hI:Ks rb lao L.length lcap W l)(T:Turn [] w0 (l++R) w)(hS:Src w0 lao L.length lcap 3 (tys L))(av:∀t∈L,TyIn t)(hL:L.length <= 1000)(hf:W.length <= 65536)
  (hu:∀v∈W,v<18446744073709551616)(pre U:List Ce)(c:Ce)(hC:Chain L W 0 (pre++c::U) (W.length/2))(ht:c.2.tag=1):
  Calls prog 153 #[pt rb,iV c.1] w fun e w'=>e=.returned (iV 0) /\ ∃l',Ks rb lao L.length lcap (MM W pre c U) l' /\ Turn [] w0 (l'++R) w':=by
 obtain⟨aT,aP,hR⟩:=hI.at_ T.has (hS.below T.below);obtain⟨cs,a1⟩:∃cs,pre++c::U=cs:=⟨_,rfl⟩;have ae:=uh (Bc w hR hf hu av hL _ hC)
 have ak:∀(j:Nat) (d:Ce),j<pre.length -> cs[j]?= some d -> d.1≠c.1:=by
  intro j d hj hd;rw[←a1,Qz hj]at hd;have h1:=(hC.split.1).mem d (q_ hd);have:=h1.2.2.pos;omega
 have a0:cs[pre.length]?= some c:=by rw[←a1,Qg (g_ _),Jc];rfl
 have ay:cs.drop (pre.length+1)=U:=by rw[←a1];simp
 have ab:Chain L W 0 cs (W.length/2):=by rw[←a1];exact hC
 have ap:Dn cs (GA 0 pre) pre.length c.1:=⟨⟨c,a0,rfl⟩,by rw[←a1,List.take_left]⟩;obtain⟨a,ga,gb,b0,e1,e2,-,-,-,-,aN,aB,aC⟩:=MV hC;have a2:=aB.le;have a3:=aC.le;clear e1 e2 aN aB aC a ga gb b0;have aF:=ab.len;rw[a1]at ae;have aG:pre.length<cs.length:=(m_.1 a0).1;have E:=uh (fun w' (l1:List Blk) (V:Turn [] w0 (l++l1) w')=>AH w' (R:=l1) hI V hf (GA 0 pre) (Gq (c.1+c.2.size) U-GA 0 pre) O);unfold MM;have HC:=uh ab;have a9:=uh ak;have HT:=uh T;have a6:=uh ap;have af:=uh (fun c (h:c∈cs)=>ab.mem c h);rw[←ay]at E a2 a3 ⊢;obtain⟨p,hp⟩:∃p,pre.length=p:=⟨_,rfl⟩;obtain⟨Fr,aq⟩:∃Fr,GA 0 pre=Fr:=⟨_,rfl⟩;rw[hp]at E a2 a3 a9 a6 a0 aG ⊢;rw[aq]at E a2 a6 ⊢;obtain⟨z,hz⟩:∃z:Nat,W.length/2=z:=⟨_,rfl⟩;have aY:z <= 32768:=O;rw[hz]at aF a3 af HC;have ah:=af.out c (q_ a0);obtain⟨cg,⟨ca,cb,cc,cd⟩⟩:=c;simp only at ht ah E a2 a3 a6 a9 ⊢;subst ht;have aL:cg+cd <= z:=ah.2.1;obtain⟨Ti,ag⟩:∃Ti,Gq (cg+cd) (cs.drop (p+1))=Ti:=⟨_,rfl⟩;rw[ag]at E a2 a3 ⊢;have an:=uh ag;clear T hS av hu hC hR hI ab ak ap ay a1 hz hp aq ah ag pre U
 go_enter func153,ntmps153
 go_wp2_with fail
 refine ae.out.mono ?_;rintro e w2 ⟨aS,aZ,a4,rfl,a8,T4⟩;have ac:=uh (HT.out.grow T4);have G:=uh a8;clear T4 HT a8
 go_wp2_with fail
 obtain⟨b,off,rfl,-⟩:=((G.out.src ac.out.has).form (by rw[GW];omega))
 go_loopw [6] (fun v6 wr=>∃i:Nat,i <= p /\ v6=iV i /\ Turn [] w0 (a4++(l++R)) wr) (fun v6 _=>cs.length-(intOf v6).toNat)
 case atStart=>exact⟨0,u_ _,by go_num,ac.out⟩
 case round=>
  clear ac;obtain⟨i,hi,rfl,T⟩:=hrel;have aQ:(i:Int)<(cs.length:Int):=O
  by_cases aM:i<p
  · obtain⟨d,hd⟩:∃c,cs[i]?= some c:=⟨cs[i]'O,a_ _⟩
    have aA:=a9.out i d aM hd;obtain⟨d0,-,-⟩:=(G.out.src T.has).ce1 hd;have k1:((d.1:Int) != (cg:Int))=true:=(by rw[Qe];omega);have k2:(d.1 != cg)=true:=(by rw[Qe];exact aA);have aa:=uh T;clear T hd aA
    go_wp2_with fail
    go_roundw
    case rel=>exact⟨i+1,by omega,by go_num,aa.out⟩
    case measure=>simp[intOf];omega
  · obtain rfl:i=p:=O
    obtain⟨d0,Z,d4⟩:=(G.out.src T.has).ce1 a0;simp only at d0 Z d4;have aa:=uh T;clear T
    go_upto_region 6 with fail
    go_quiet (fail)
    clear d0 Z d4
    go_wp2_with fail
    go_loopw [7,9] (fun v7 v9 wr=>∃j x:Nat,j <= i /\ v9=iV ((j:Int)-1) /\ v7=iV x /\ Dn cs Fr j x /\ Turn [] w0 (a4++(l++R)) wr) (fun _ v9 _=>(intOf v9+1).toNat)
    case atStart=>exact⟨i,cg,g_ _,by go_num,rfl,a6.out,aa.out.drewN _⟩
    case round=>
     clear aa;obtain⟨j,x,hj,rfl,rfl,a7,T⟩:=hrel
     by_cases r:j=0∨∃N d,j=N+1 /\ cs[N]?= some d /\ d.2.tag=1
     · obtain rfl:x=Fr:=by
         rcases r with rfl|⟨N,d,rfl,hd,y⟩
         ·exact a7.first HC.out
         ·exact a7.obj HC.out hd y
       have J:=uh T;clear a7 hj a6;rcases r with rfl|⟨N,d,rfl,hd,y⟩
       case' inl=>(clear T;go_wp2_with fail)
       case' inr=>(
        obtain⟨-,Z,-⟩:=(G.out.src T.has).ce1 hd;rw[y]at Z;have az:N<cs.length:=(m_.1 hd).1;have a5:(N:Int)<(cs.length:Int):=O;clear T hd y
        go_wp2_with fail
        clear Z az a5)
       all_goals (
        go_loopw [8,10] (fun v8 am wr=>∃m t:Nat,i<m /\ m <= cs.length /\ am=iV m /\ v8=iV t /\ Gq t (cs.drop m)=Ti /\ t <= z /\ Turn [] w0 (a4++(l++R)) wr) (fun _ am _=>cs.length-(intOf am).toNat)
        case atStart=>exact⟨i+1,cg+cd,by omega,by omega,by go_num,by go_num,an.out,aL,J.out⟩
        case round=>
         clear J an;obtain⟨m,t,aV,aW,rfl,rfl,M,aX,T⟩:=hrel
         by_cases r:m=cs.length∨∃d,cs[m]?= some d /\ d.2.tag=1
         · obtain rfl:t=Ti:=by
             rcases r with rfl|⟨d,hd,y⟩
             ·rw[VC (g_ _)]at M;exact M
             ·rw[Ue hd _ y]at M;exact M
           have J:=uh (T.perm (l2:=l++(a4++R)) po);have HL:=uh (fun w' V=>E.out w' (a4++R) V);have aR:(t:Int)-(x:Int)=((t-x:Nat):Int):=O;clear M E;rcases r with aj|⟨d,hd,y⟩
           case' inl=>(
            have k1:¬(m:Int)<(cs.length:Int):=O;clear T aj
            go_wp2_with fail)
           case' inr=>(
            obtain⟨-,Z,-⟩:=(G.out.src T.has).ce1 hd;rw[y]at Z;have az:m<cs.length:=(m_.1 hd).1;have a5:(m:Int)<(cs.length:Int):=O;clear T hd y
            go_wp2_with fail)
           all_goals (
            refine(HL.out _ J.out).mono ?_;rintro e W7 ⟨⟨u,rfl⟩,l7,au,T7⟩;have aJ:=uh ((T7.perm (l2:=a4++(l7++R)) po).drop);have aH:=uh au;clear T7 au J HL
            go_wp2_with fail
            go_ret;exact⟨rfl,l7,aH.out,aJ.out⟩)
         · have aj:m<cs.length:=by
             rcases Nat.lt_or_ge m cs.length with h|h
             ·exact h
             ·exact absurd (.inl O) r
           obtain⟨d,hd⟩:∃c,cs[m]?= some c:=⟨cs[m],a_ aj⟩;have y:d.2.tag≠1:=fun h=>r (.inr ⟨d,hd,h⟩);rw[WV hd _ y]at M;have ax:=(af.out d (q_ hd)).2.1;obtain⟨d0,Z,d4⟩:=(G.out.src T.has).ce1 hd;have k1:((d.2.tag:Int) != 1)=true:=(by rw[Qe];omega);have k2:(d.2.tag != 1)=true:=(by rw[Qe];exact y);have a5:(m:Int)<(cs.length:Int):=O;obtain⟨dg,⟨da,db,dc,dd⟩⟩:=d;simp only at d0 Z d4 ax M k1 k2;have aK:=uh M;have J:=uh T;clear T hd y r M
           go_upto_region 14 with fail
           go_quiet (fail)
           clear d0 Z d4
           go_wp2_with fail
           go_roundw
           case rel=>exact⟨m+1,dg+dd,by omega,by omega,by go_num,by go_num,aK.out,ax,J.out.drewN _⟩
           case measure=>simp[intOf];omega)
     · have aU:j≠0:=fun h=>r (.inl h)
       obtain⟨N,rfl⟩:∃N,j=N+1:=⟨j-1,by omega⟩;obtain⟨d,hd⟩:∃c,cs[N]?= some c:=⟨cs[N]'O,a_ _⟩;have y:d.2.tag≠1:=fun h=>r (.inr ⟨N,d,rfl,hd,h⟩);have aE:=uh (a7.gap hd y);obtain⟨d0,Z,-⟩:=(G.out.src T.has).ce1 hd;have k1:((d.2.tag:Int) != 1)=true:=(by rw[Qe];omega);have k2:(d.2.tag != 1)=true:=(by rw[Qe];exact y);have a5:(N:Int)<(cs.length:Int):=O;have J:=uh T;clear T hd y r a7
       go_wp2_with fail
       go_roundw
       case rel=>exact⟨N,d.1,by omega,by go_num,rfl,aE.out,J.out⟩
       case measure=>simp[intOf]
theorem LW {L:List Ty}{W:List Nat}{g:Nat}{h:Hd}(G:JH L W g h)(M:h.tag=1)(E:∀t∈L,TyIn t):(tyAt L h.typ).err h.len=0 /\ TyIn (tyAt L h.typ):=by
 have h1:=(MS L h).2 G.2.1;unfold Ka at h1;rw[y_ (by simpa using G.2.1.1),y_ (by simpa using M)]at h1
 have h2:GH L h.typ h.len=0:=by
  by_cases y:GH L h.typ h.len=0
  ·exact y
  ·rw[y_ (fun x=>y x.1)]at h1;exact absurd h1 (by decide)
 unfold GH at h2;unfold tyAt
 cases r:Kc L h.typ with
 | none=>rw[r]at h2;exact absurd h2 (by simp)
 | some t=>
  rw[r]at h2;obtain⟨k,-,J,-⟩:=KZ r;exact⟨h2,E t (q_ J)⟩
theorem JT {P:Program}{ops:Array Oper}{Q:Exit -> Act -> World -> Prop}{o:Oper}{G:List Value}{r:List Deferred}{K:Act -> World -> Prop}{E:Prop}{w:World}(J:o.dst=none)(N:o.guard=none)(ty:TypeId)(x y:Operand)(V:o.op=.store ty x y)
  (b off:Nat)(cells:Array Value)(hx:Act.eval { tmps:=G.toArray,defers:=r } x=.pointer (some (aD b off)))(hy:Act.eval { tmps:=G.toArray,defers:=r } y=.agg cells)
  (Z:w.there b off cells.size)(U:(P.info? ty).map (·.size)=some cells.size)(h1:cells.all (·.oneCell')=true)(M:K { tmps:=G.toArray,defers:=r } (w.setCells b off cells.toList)):
  if Region.wanted o (yielded ops (Act.tmps { tmps:=G.toArray,defers:=r }))=true then Oper.wp P o { tmps:=G.toArray,defers:=r } w K Q else E:=by
 have hw:Region.wanted o (yielded ops (Act.tmps { tmps:=G.toArray,defers:=r }))=true:=by simp[Region.wanted,N]
 rw[v_ hw];refine wp_store_mid ty x y V b off cells hx hy Z U h1 ?_
 simpa [Act.put,J]using M
theorem RA {I G:Nat -> Nat -> World -> Prop}{C:Prop}(h1:Hid (∀r y V,I r y V -> G r y V) -> C)(h2:∀r y V,I r y V -> G r y V):C:=h1 (uh h2)
theorem SK {P:Program}{c:Code}{Q:Exit -> Act -> World -> Prop}{a:Act}{w:World}{I:Nat -> Nat -> World -> Prop}{F:Nat -> Nat -> Act}(h:c.wp P (fun e a w=>e=.normal /\ ∃r y:Nat,a=F r y /\ I r y w) a w)(hq:∀r y w,I r y w -> Q .normal (F r y) w):c.wp P Q a w:=
 wp_mono h fun e a w ⟨J,r,y,G,E⟩=>by subst J;subst G;exact hq r y w E
theorem Pd {w0:World}(w:World){rb lcap:Nat}{lao:Option Addr}{W:List Nat}{L:List Ty}{l R:List Blk}(hI:Ks rb lao L.length lcap W l)(T:Turn [] w0 (l++R) w)(hS:Src w0 lao L.length lcap 3 (tys L))(af:∀t∈L,TyIn t)(hL:L.length <= 1000)(hf:W.length <= 65536)
  (hu:∀v∈W,v<18446744073709551616)(pre ac:List Ce)(c:Ce)(hC:Chain L W 0 (pre++c::ac) (W.length/2))(ht:c.2.tag=1):
  Calls prog 154 #[pt rb,iV c.1] w fun e w'=>e=.returned (iV ((tyAt L c.2.typ).slots c.2.len:Nat)) /\ Turn [] w0 (l++R) w':=by
 obtain⟨aV,aS,hR⟩:=hI.at_ T.has (hS.below T.below);obtain⟨cs,a8⟩:∃cs,pre++c::ac=cs:=⟨_,rfl⟩;have aj:=uh (Bc w hR hf hu af hL _ hC)
 have am:∀(j:Nat) (d:Ce),j<pre.length -> cs[j]?= some d -> d.1≠c.1:=by
  intro j d hj hd;rw[←a8,Qz hj]at hd;have h1:=(hC.split.1).mem d (q_ hd);have:=h1.2.2.pos;omega
 have a7:cs[pre.length]?= some c:=by rw[←a8,Qg (g_ _),Jc];rfl
 have ab:=hC.split.2.1;have aB:Chain L W 0 cs (W.length/2):=by rw[←a8];exact hC
 have aK:=aB.len;rw[a8]at aj;have aL:pre.length<cs.length:=(m_.1 a7).1;have aH:=Lz ab ht
 have ag:(tyAt L c.2.typ).err c.2.len=0 /\ TyIn (tyAt L c.2.typ):=by
  exact LW ab ht af
 obtain⟨ao,cap,lr,an,rfl⟩:=hI;have a0:=uh (fun w' (G Y:List Blk) (V:Turn [] w0 (Y++(G++((rb,rN ao W cap lao L.length lcap)::lr++R))) w')=>ja w' ao cap (an.src (R:=(Y++G)++((rb,rN ao W cap lao L.length lcap)::R)) (V.has.perm po)) hf hu L af hL lao lcap (hS.below V.below) (c.1:Int));rw[aH]at a0;simp only at a0;have ak:=uh (fun w'=>Vg w' (tyAt L c.2.typ) ag.2 c.2.len);rw[v_ ag.1,ag.1,Qs]at ak
 have av := uh (fun w' (G Y : List Blk) (V : Turn [] w0 (Y ++ (G ++ ((rb, rN ao W cap lao L.length lcap) :: lr ++ R))) w') =>
         (⟨V.has.cell (b:=rb) (c:=#[.slice ao W.length cap,.slice lao L.length lcap]) (e:=62) (f:=(0,0)) (by simp) 0,V.has.cell (b:=rb) (c:=#[.slice ao W.length cap,.slice lao L.length lcap]) (e:=62) (f:=(0,0)) (by simp) 1⟩:w'.cell? (aD rb 0)=some (.slice ao W.length cap) /\ w'.cell? (aD rb 1)=some (.slice lao L.length lcap)))
 have aM:=Gr;have ap:=JZ;have aa:=uh am;have HT:=uh T;have aW:W.length/2 <= 32768:=O;generalize tyAt L c.2.typ=t at*;obtain⟨tk,tw,tm⟩:=t;obtain⟨p,hp⟩:∃p,pre.length=p:=⟨_,rfl⟩;rw[hp]at aa a7 aL;obtain⟨cg,⟨ca,cb,cc,cd⟩⟩:=c;simp only at ht aa a0 ak aK ⊢;subst ht;have aF:=GP ⟨1,cb,cc,cd⟩;have aG:=KH ⟨tk,tw,tm⟩;simp only at aF aG;generalize aR:Ty.slots ⟨tk,tw,tm⟩ cc=sv at*;clear T hS af hu hC hR aB am a8 hp ab an ag aH aR pre ac
 go_enter func154,ntmps154
 go_wp2_with fail
 refine aj.out.mono ?_;rintro e w2 ⟨aU,aX,G,rfl,a9,T4⟩;have ah:=uh (HT.out.grow T4);have a4:=uh a9;have J:=uh (fun w' Y V=>av.out w' G Y V);have a0:=uh (fun w' Y V=>a0.out w' G Y V);clear T4 HT a9 av
 go_wp2_with fail
 obtain⟨b,off,rfl,-⟩:=((a4.out.src ah.out.has).form (by rw[GW];omega))
 go_loopw [6] (fun v6 wr=>∃i:Nat,i <= p /\ v6=iV i /\ Turn [] w0 (G++((rb,rN ao W cap lao L.length lcap)::lr++R)) wr) (fun v6 _=>cs.length-(intOf v6).toNat)
 case atStart=>exact⟨0,u_ _,by go_num,ah.out⟩
 case round=>
  clear ah;obtain⟨i,hi,rfl,T⟩:=hrel;have aT:(i:Int)<(cs.length:Int):=O
  by_cases aQ:i<p
  · obtain⟨d,hd⟩:∃c,cs[i]?= some c:=⟨cs[i]'O,a_ _⟩
    have aE:=aa.out i d aQ hd;obtain⟨d0,-,-⟩:=(a4.out.src T.has).ce1 hd;have k1:((d.1:Int) == (cg:Int))=false:=(by rw[j_];omega);have k2:(d.1 == cg)=false:=(by rw[j_];exact aE);have ae:=uh T;clear T hd aE
    go_wp2_with fail
    go_roundw
    case rel=>exact⟨i+1,by omega,by go_num,ae.out⟩
    case measure=>simp[intOf];omega
  · obtain rfl:i=p:=O
    obtain⟨d0,d1,-⟩:=(a4.out.src T.has).ce1 a7;simp only at d0 d1;have ae:=uh T.drew;clear T
    go_upto_region 6 with fail
    clear d0 d1;refine J1 (fun W'=>Turn [] w0 (G++((rb,rN ao W cap lao L.length lcap)::lr++R)) W'.drew) ae.out fun W1 U=>?_;have ax:Hid (Turn [] w0 (G++((rb,rN ao W cap lao L.length lcap)::lr++R)) W1.drew):=uh U;clear U ae
    apply SK (I:=fun N E w=>Turn [] w0 ((N,.cells #[yV 1,iV cb,iV cc,iV cd] 125)::(E,.cells #[yV tk,iV tw,uV tm] 79)::(G++((rb,rN ao W cap lao L.length lcap)::lr++R))) w)
    case h=>
     have M:=J.out _ [] ax.out;refine F_ ?_;refine rG (S:=fun W'=>W'.cell? (aD rb 0)=some (.slice ao W.length cap) /\ W'.cell? (aD rb 1)=some (.slice lao L.length lcap)) 19 ?_;refine G2 0 37 M ?_;refine G2 1 38 M ?_;refine G2 2 39 M ?_;refine Jt 3 40 M (fun w a6=>a6.1) ?_;refine G2 4 41 M ?_;refine G2 5 42 M ?_;refine G2 6 43 M ?_;refine Jt 7 44 M (fun w a6=>a6.2) ?_;refine G2 8 45 M ?_;have T0:Turn [] w0 ([]++(G++((rb,rN ao W cap lao L.length lcap)::lr++R))) W1.drew:=ax.out;clear M;generalize W1.drew=V0 at T0 ⊢;have aJ:=uh T0;clear T0
     apply RA (I:=fun N E V=>Turn [] w0 ((N,zH)::(E,zT)::(G++((rb,rN ao W cap lao L.length lcap)::lr++R))) V)
     case h1=>
      intro hG;have T0:=aJ.out;refine Zf (rs:=[9,14,15]) kr (by simp) (H_ rfl (fun K r=>?_) (H_ rfl (fun K r=>?_) (H_ rfl (fun K r=>?_) Zd)))
      · go_simp
        refine(a0.out _ [] T0).mono ?_;rintro e V1 ⟨rfl,hB⟩;have U:=T0.call hB;refine r.out _ _ (J.out _ [] U) fun _=>?_;clear r K hB T0;simp only[Gb,G7,G6];have M:=J.out _ [] U;refine G2 10 36 M ?_;refine G2 11 47 M ?_;refine G2 12 48 M ?_;refine G2 13 49 M ?_;clear M;refine Zf (rs:=[14,15]) kr (by simp) (H_ rfl (fun K r=>?_) (H_ rfl (fun K r=>?_) Zd))
        · go_simp
          have y:=U.alloc zH;refine r.out _ _ (J.out _ [_] y) fun _=>?_;clear r K U;simp only[Gb,G7,G6];generalize V1.alloc _=V2 at*;generalize V1.heap.size=N at*;refine G5 15 (fun K r=>?_)
          · go_simp
            have Z:=y.alloc zT;refine r.out _ _ (J.out _ [_,_] Z) fun _=>?_;clear r K y;simp only[Gb,G7,G6];generalize V2.alloc _=V3 at*;generalize V2.heap.size=E at*;exact hG.out N E V3 (Z.perm po)
        · go_simp
          have y:=U.alloc zT;refine r.out _ _ (J.out _ [_] y) fun _=>?_;clear r K U;simp only[Gb,G7,G6];generalize V1.alloc _=V2 at*;generalize V1.heap.size=E at*;refine G5 14 (fun K r=>?_)
          · go_simp
            have Z:=y.alloc zH;refine r.out _ _ (J.out _ [_,_] Z) fun _=>?_;clear r K y;simp only[Gb,G7,G6];generalize V2.alloc _=V3 at*;generalize V2.heap.size=N at*;exact hG.out N E V3 (Z.perm po)
      · go_simp
        have U:=T0.alloc zH;refine r.out _ _ (J.out _ [_] U) fun _=>?_;clear r K T0;simp only[Gb,G7,G6];generalize V0.alloc _=V1 at*;generalize V0.heap.size=N at*;refine Zf (rs:=[9,15]) kr (by simp) (H_ rfl (fun K r=>?_) (H_ rfl (fun K r=>?_) Zd))
        · go_simp
          refine(a0.out _ [_] U).mono ?_;rintro e V2 ⟨rfl,hB⟩;have y:=U.call hB;refine r.out _ _ (J.out _ [_] y) fun _=>?_;clear r K hB U;simp only[Gb,G7,G6];have a1:=J.out _ [_] y;refine G2 10 36 a1 ?_;refine G2 11 47 a1 ?_;refine G2 12 48 a1 ?_;refine G2 13 49 a1 ?_;clear a1;refine G5 15 (fun K r=>?_)
          · go_simp
            have Z:=y.alloc zT;refine r.out _ _ (J.out _ [_,_] Z) fun _=>?_;clear r K y;simp only[Gb,G7,G6];generalize V2.alloc _=V3 at*;generalize V2.heap.size=E at*;exact hG.out N E V3 (Z.perm po)
        · go_simp
          have y:=U.alloc zT;refine r.out _ _ (J.out _ [_,_] y) fun _=>?_;clear r K U;simp only[Gb,G7,G6];generalize V1.alloc _=V2 at*;generalize V1.heap.size=E at*;refine G5 9 (fun K r=>?_)
          · go_simp
            refine(a0.out _ [_,_] y).mono ?_;rintro e V3 ⟨rfl,hB⟩;have Z:=y.call hB;refine r.out _ _ (J.out _ [_,_] Z) fun _=>?_;clear r K hB y;simp only[Gb,G7,G6];have a2:=J.out _ [_,_] Z;refine G2 10 36 a2 ?_;refine G2 11 47 a2 ?_;refine G2 12 48 a2 ?_;refine G2 13 49 a2 ?_;clear a2;exact hG.out N E V3 (Z.perm po)
      · go_simp
        have U:=T0.alloc zT;refine r.out _ _ (J.out _ [_] U) fun _=>?_;clear r K T0;simp only[Gb,G7,G6];generalize V0.alloc _=V1 at*;generalize V0.heap.size=E at*;refine Zf (rs:=[9,14]) kr (by simp) (H_ rfl (fun K r=>?_) (H_ rfl (fun K r=>?_) Zd))
        · go_simp
          refine(a0.out _ [_] U).mono ?_;rintro e V2 ⟨rfl,hB⟩;have y:=U.call hB;refine r.out _ _ (J.out _ [_] y) fun _=>?_;clear r K hB U;simp only[Gb,G7,G6];have a1:=J.out _ [_] y;refine G2 10 36 a1 ?_;refine G2 11 47 a1 ?_;refine G2 12 48 a1 ?_;refine G2 13 49 a1 ?_;clear a1;refine G5 14 (fun K r=>?_)
          · go_simp
            have Z:=y.alloc zH;refine r.out _ _ (J.out _ [_,_] Z) fun _=>?_;clear r K y;simp only[Gb,G7,G6];generalize V2.alloc _=V3 at*;generalize V2.heap.size=N at*;exact hG.out N E V3 (Z.perm po)
        · go_simp
          have y:=U.alloc zH;refine r.out _ _ (J.out _ [_,_] y) fun _=>?_;clear r K U;simp only[Gb,G7,G6];generalize V1.alloc _=V2 at*;generalize V1.heap.size=N at*;refine G5 9 (fun K r=>?_)
          · go_simp
            refine(a0.out _ [_,_] y).mono ?_;rintro e V3 ⟨rfl,hB⟩;have Z:=y.call hB;refine r.out _ _ (J.out _ [_,_] Z) fun _=>?_;clear r K hB y;simp only[Gb,G7,G6];have a2:=J.out _ [_,_] Z;refine G2 10 36 a2 ?_;refine G2 11 47 a2 ?_;refine G2 12 48 a2 ?_;refine G2 13 49 a2 ?_;clear a2;exact hG.out N E V3 (Z.perm po)
     case h2=>
      intro N E V0 U0;refine G5 16 (fun K r=>?_);have aq:=U0.there1;have U1:=U0.laid [yV 1,iV cb,iV cc,iV cd] rfl;refine JT rfl rfl 125 _ _ rfl _ 0 #[yV 1,iV cb,iV cc,iV cd] rfl rfl aq aM aF ?_;refine r.out _ _ (J.out _ [_,_] U1) fun _=>?_;clear r K aq;simp only[Gb,G7,G6];generalize V0.setCells N 0 _=V9 at*;refine G5 17 (fun K r=>?_);have au:=U1.there2;have U2:=U1.laid2 [yV tk,iV tw,uV tm] rfl;refine JT rfl rfl 79 _ _ rfl _ 0 #[yV tk,iV tw,uV tm] rfl rfl au ap aG ?_;refine r.out _ _ (J.out _ [_,_] U2) fun _=>?_;clear r K au;simp only[Gb,G7,G6];have aC:=J.out _ [_,_] U2;refine G2 18 9 aC ?_;clear aC;refine P_ kr ?_ _;refine z_ ?_;exact⟨rfl,N,E,rfl,U2⟩
    case hq=>
     intro N E w5 T5;have aP:=((a4.out.src (R:=(N,.cells #[yV 1,iV cb,iV cc,iV cd] 125)::(E,.cells #[yV tk,iV tw,uV tm] 79)::((rb,rN ao W cap lao L.length lcap)::lr++R)) (T5.has.perm po)).ce a7) 3 _ rfl
     have Hk:=uh (fun w' (lx:List Blk) (V:Turn [] w0 (lx++((N,.cells #[yV 1,iV cb,iV cc,iV cd] 125)::(E,.cells #[yV tk,iV tw,uV tm] 79)::(G++((rb,rN ao W cap lao L.length lcap)::lr++R)))) w')=>
      (⟨V.has.range (b:=E) (c:=#[yV tk,iV tw,uV tm]) (e:=79) (f:=(0,0)) (by simp),((a4.out.src (R:=lx++((N,.cells #[yV 1,iV cb,iV cc,iV cd] 125)::(E,.cells #[yV tk,iV tw,uV tm] 79)::((rb,rN ao W cap lao L.length lcap)::lr++R))) (V.has.perm po)).ce a7) 3 _ rfl⟩:
        w'.rangeAt E 0 [yV tk,iV tw,uV tm] /\ w'.cell? (aD b (off+i*5+3))=some (iV cc)))
     have aA:Turn [] w0 ([]++((N,.cells #[yV 1,iV cb,iV cc,iV cd] 125)::(E,.cells #[yV tk,iV tw,uV tm] 79)::(G++((rb,rN ao W cap lao L.length lcap)::lr++R)))) w5:=T5;have HX:=uh aA.drew;clear T5 aA aP J a0
     go_upto_region 7 with fail
     refine J1 (fun W'=>Turn [] w0 ([]++((N,.cells #[yV 1,iV cb,iV cc,iV cd] 125)::(E,.cells #[yV tk,iV tw,uV tm] 79)::(G++((rb,rN ao W cap lao L.length lcap)::lr++R)))) W'.drew) HX.out fun W6 T6=>?_;have a3:=Hk.out _ [] T6;have ay:=uh T6;clear T6 HX;refine F_ ?_;refine rG (S:=fun W'=>W'.rangeAt E 0 [yV tk,iV tw,uV tm] /\ W'.cell? (aD b (off+i*5+3))=some (iV cc)) 13 ?_;refine XM 0 51 a3 (fun w' a6=>Xa 79 _ rfl E 0 rfl [yV tk,iV tw,uV tm] _ a6.1 underlying79 rfl ap) ?_;refine G2 1 52 a3 ?_;refine G2 2 53 a3 ?_;refine G2 3 54 a3 ?_;refine G2 4 55 a3 ?_;refine G2 5 56 a3 ?_;refine Jt 6 57 a3 (fun w a6=>a6.2) ?_;refine G5 7 (fun K r=>?_)
     go_simp
     refine(ak.out _).mono ?_;rintro e W7 ⟨rfl,hB⟩;have T7:=ay.out.call hB;have a5:=Hk.out _ [] T7;have az:=uh T7;clear T7 ay hB a3;refine r.out _ _ a5 fun _=>?_;clear r K;simp only[Gb,G7,G6];refine G2 8 50 a5 ?_;refine G2 9 59 a5 ?_;refine G2 10 60 a5 ?_;refine G2 11 10 a5 ?_;refine G2 12 11 a5 ?_;refine P_ kr ?_ _;refine z_ ?_;clear a5 Hk;have aN:=uh ((az.out.perm (l2:=((N,.cells #[yV 1,iV cb,iV cc,iV cd] 125)::(E,.cells #[yV tk,iV tw,uV tm] 79)::G)++((rb,rN ao W cap lao L.length lcap)::lr++R)) po).drop);clear az
     go_wp2_with fail
     go_ret;exact⟨rfl,aN.out⟩
def M9 (l:List Int):List Value:=l.map (Value.int .i64)
theorem Kr {l:List Int}{i:Nat}{x:Int}(h:l[i]?= some x):(M9 l)[i]?= some (iV x):=by simp[M9,h]
theorem Nj (l:List Int):(M9 l).length=l.length:=by simp[M9]
theorem M2 {os:List Ce}{i:Nat}{c:Ce}(h:os[i]?= some c):(Sj os)[i]?= some (c.1:Int):=by simp[Sj,h]
theorem M1 (os:List Ce):(Sj os).length=os.length:=by simp[Sj]
def LT (os:List Ce):List Nat:=os.map fun c=>c.2.size
theorem Rj {os:List Ce}{i:Nat}{c:Ce}(h:os[i]?= some c):LT (os.take (i+1))=LT (os.take i)++[c.2.size]:=by rw[K8 h];simp[LT]
theorem Ma {os:List Ce}{i:Nat}{c:Ce}(h:os[i]?= some c):Gg 0 (os.take (i+1))=c.1+c.2.size:=by rw[K8 h,R3]
theorem MC {L:List Ty}{W:List Nat}:∀{os:List Ce} {e:Nat},JR L W e os -> ∀{i:Nat} {c:Ce},os[i]?= some c -> Gg e (os.take i) <= c.1 /\ JH L W c.1 c.2 /\ c.2.tag=1
 | d::os,e,h,0,c,hc=>by
  obtain rfl:d=c:=by simpa using hc
  exact⟨h.1,h.2.1,h.2.2.1⟩
 | d::os,e,h,i+1,c,hc=>MC h.2.2.2 (i:=i) (by simpa using hc)
theorem Rn {n:Nat}{W:List Nat}{os:List Ce}{i:Nat}{c:Ce}{e:Nat}(h:os[i]?= some c):GL n W (os.drop i) e=GL n (lay W e (c.1-e)) (os.drop (i+1)) (c.1+c.2.size):=by rw[NF h,GL]
theorem Rp {n:Nat}{W:List Nat}{os:List Ce}{i:Nat}{e:Nat}(h:os.length <= i):GL n W (os.drop i) e=lay W e (n-e):=by rw[List.drop_eq_nil_of_le h,GL]
theorem KU {L:List Ty}{W:List Nat}{os:List Ce}(h:JR L W 0 os):∀i,Gg 0 (os.take i) <= W.length/2
 | 0=>by rw[List.take_zero];exact u_ _
 | i+1=>by
  cases r:os[i]? with
  | none=>
   rw[Qr,r];have:=KU h i
   simpa using this
  | some c=>
   rw[Ma r];exact(MC h r).2.1.2.2
theorem MB {L:List Ty}{W:List Nat}:∀{os:List Ce} {e:Nat},JR L W e os -> e <= W.length/2 -> os.length+e <= W.length/2
 | [],e,_,h=>by simpa using h
 | c::os,e,h,_=>by
  have h1:=h.2.1.pos;have h2:=MB h.2.2.2 h.2.1.2.2;have r:=h.1;simp only[B_];omega
theorem Ej {w0:World}(w:World){rb lcap:Nat}{lao:Option Addr}{W:List Nat}{L:List Ty}{l R:List Blk}(hI:Ks rb lao L.length lcap W l)(T:Turn [] w0 (l++R) w)(hS:Src w0 lao L.length lcap 3 (tys L))(aX:∀t∈L,TyIn t)(hL:L.length <= 1000)(hf:W.length <= 65536)
  (hu:∀v∈W,v<18446744073709551616)(os:List Ce)(hr:JR L W 0 os)(aa:Option Addr)(aJ:Nat)(hA:Src w0 aa os.length aJ 1 (M9 (Sj os))):
  Calls prog 156 #[pt rb,.slice aa os.length aJ] w fun e w'=>e=.returned (iV 0) /\ ∃l',Ks rb lao L.length lcap (GL (W.length/2) W os 0) l' /\ Turn [] w0 (l'++R) w':=by
 have b9:=uh hI;obtain⟨ao,cap,lr,aK,rfl⟩:=hI;have bu:=MB hr (u_ _);have bp:W.length/2 <= 32768:=O
 have aR := uh (fun w' (y Y : List Blk) (V : Turn [] w0 (Y ++ (y ++ ((rb, rN ao W cap lao L.length lcap) :: lr ++ R))) w') =>
         (⟨V.has.cell (b:=rb) (c:=#[.slice ao W.length cap,.slice lao L.length lcap]) (e:=62) (f:=(0,0)) (by simp) 0,V.has.cell (b:=rb) (c:=#[.slice ao W.length cap,.slice lao L.length lcap]) (e:=62) (f:=(0,0)) (by simp) 1⟩:w'.cell? (aD rb 0)=some (.slice ao W.length cap) /\ w'.cell? (aD rb 1)=some (.slice lao L.length lcap)))
 have b3:=uh (fun w' (y Y:List Blk) (V:Turn [] w0 (Y++(y++((rb,rN ao W cap lao L.length lcap)::lr++R))) w')=>ja w' ao cap (aK.src (R:=(Y++y)++((rb,rN ao W cap lao L.length lcap)::R)) (V.has.perm po)) hf hu L aX hL lao lcap (hS.below V.below));have b7:=Gr;have b8:=JZ;have Hr:=uh (fun i c=>MC hr (i:=i) (c:=c));have aT:=uh (KU hr);have HT:=uh T;have HA:=uh (fun(h:0<os.length) w' (Z:Below w0.heap.size w0 w')=>(hA.below Z).form (by rw[Nj,M1];exact h));have av:=uh (fun(h:0<os.length)=>hA.form (by rw[Nj,M1];exact h));clear T hS hu aK hA
 go_enter func156,ntmps156
 go_wp2_with fail
 go_loopw [5,6,7] (fun v5 v6 v7 wr=>∃(i:Nat) (a5:Option Addr) (p5:Nat) (y:List Blk),i <= os.length /\ v7=iV i /\ v6=iV (Gg 0 (os.take i):Nat) /\ v5=.slice a5 i p5 /\ Gh 3 1 a5 i p5 (J7 (LT (os.take i))) y /\ Turn [] w0 (y++((rb,rN ao W cap lao L.length lcap)::lr++R)) wr) (fun _ _ v7 _=>os.length-(intOf v7).toNat)
 case atStart=>exact⟨0,none,0,[],u_ _,rfl,rfl,rfl,Zb _ _,HT.out⟩
 case round=>
  clear HT;obtain⟨i,a5,p5,y,hi,rfl,rfl,rfl,ae,T⟩:=hrel
  by_cases aC:i<os.length
  · have b5:(i:Int)<(os.length:Int):=O
    obtain⟨c,hc⟩:∃c,os[i]?= some c:=⟨os[i],a_ aC⟩;obtain⟨aA,a6,ag⟩:=Hr.out i c hc;have b0:=Lz a6 ag;have bn:=LW a6 ag aX;have a4:=uh (fun w' Y V=>b3.out w' y Y V (c.1:Int));rw[b0]at a4;simp only at a4;have aU:=uh (Rj hc);have am:=uh (Ma hc);have ak:=a6.2.2;have aq:=uh (M2 hc);obtain⟨ab,ac,rfl,a2⟩:=av.out O;have a3:=uh (fun w' (Z:Below w0.heap.size w0 w')=>(Z.cell (p:=(aD ab (ac+i))) (c_ w0 _ (a2 i _ (Kr aq.out)))).trans (a2 i _ (Kr aq.out)));have J:=uh (fun w' Y (V:Turn [] w0 (Y++(y++((rb,rN ao W cap lao L.length lcap)::lr++R))) w')=>(⟨(aR.out w' y Y V).1,(aR.out w' y Y V).2,a3.out w' V.below⟩:w'.cell? (aD rb 0)=some (.slice ao W.length cap) /\ w'.cell? (aD rb 1)=some (.slice lao L.length lcap) /\ w'.cell? (aD ab (ac+i))=some (iV c.1)));generalize tyAt L c.2.typ=t at*;obtain⟨tk,tw,tm⟩:=t;obtain⟨cg,⟨ca,cb,cc,cd⟩⟩:=c;simp only at ag a4 J a3 am aU aA ak;subst ag;have aY:=GP ⟨1,cb,cc,cd⟩;have aZ:=KH ⟨tk,tw,tm⟩;simp only at aY aZ;generalize Gg 0 (os.take i)=en at*;have k1:decide ((cg:Int)<(en:Int))=false:=b_ O;have k2:decide (cg<en)=false:=b_ O;have af:=uh T.drew;have aG:=uh ae;have bf:i+1 <= maxLen:=(by unfold maxLen;omega);have bg:(i+1)*8 <= 140737488355328:=O;clear T ae a6 b0 bn hc a2 HA av aq
    go_upto_region 6 with fail
    refine J1 (fun W'=>Turn [] w0 (y++((rb,rN ao W cap lao L.length lcap)::lr++R)) W'.drew) af.out fun W1 M=>?_;have aS:Hid (Turn [] w0 (y++((rb,rN ao W cap lao L.length lcap)::lr++R)) W1.drew):=uh M;clear M af
    apply SK (I:=fun N U w=>Turn [] w0 ((N,.cells #[yV 1,iV cb,iV cc,iV cd] 125)::(U,.cells #[yV tk,iV tw,uV tm] 79)::(y++((rb,rN ao W cap lao L.length lcap)::lr++R))) w)
    case h=>
     have E:=J.out _ [] aS.out;refine F_ ?_;refine rG (S:=fun W'=>W'.cell? (aD rb 0)=some (.slice ao W.length cap) /\ W'.cell? (aD rb 1)=some (.slice lao L.length lcap) /\ W'.cell? (aD ab (ac+i))=some (iV cg)) 22 ?_;refine G2 0 19 E ?_;refine G2 1 20 E ?_;refine G2 2 21 E ?_;refine Jt 3 22 E (fun w ap=>ap.1) ?_;refine G2 4 23 E ?_;refine G2 5 24 E ?_;refine G2 6 25 E ?_;refine Jt 7 26 E (fun w ap=>ap.2.1) ?_;refine G2 8 27 E ?_;refine G2 9 28 E ?_;refine G2 10 29 E ?_;refine Jt 11 30 E (fun w ap=>ap.2.2) ?_;have T0:Turn [] w0 ([]++(y++((rb,rN ao W cap lao L.length lcap)::lr++R))) W1.drew:=aS.out;clear E;generalize W1.drew=V0 at T0 ⊢;have b2:=uh T0;clear T0
     apply RA (I:=fun N U V=>Turn [] w0 ((N,zH)::(U,zT)::(y++((rb,rN ao W cap lao L.length lcap)::lr++R))) V)
     case h1=>
      intro hG;have T0:=b2.out;refine Zf (rs:=[12,17,18]) kr (by simp) (H_ rfl (fun K r=>?_) (H_ rfl (fun K r=>?_) (H_ rfl (fun K r=>?_) Zd)))
      · go_simp
        refine(a4.out _ [] T0).mono ?_;rintro e V1 ⟨rfl,Z⟩;have M:=T0.call Z;refine r.out _ _ (J.out _ [] M) fun _=>?_;clear r K Z T0;simp only[Gb,G7,G6];have E:=J.out _ [] M;refine G2 13 18 E ?_;refine G2 14 32 E ?_;refine G2 15 33 E ?_;refine G2 16 34 E ?_;clear E;refine Zf (rs:=[17,18]) kr (by simp) (H_ rfl (fun K r=>?_) (H_ rfl (fun K r=>?_) Zd))
        · go_simp
          have G:=M.alloc zH;refine r.out _ _ (J.out _ [_] G) fun _=>?_;clear r K M;simp only[Gb,G7,G6];generalize V1.alloc _=V2 at*;generalize V1.heap.size=N at*;refine G5 18 (fun K r=>?_)
          · go_simp
            have T3:=G.alloc zT;refine r.out _ _ (J.out _ [_,_] T3) fun _=>?_;clear r K G;simp only[Gb,G7,G6];generalize V2.alloc _=V3 at*;generalize V2.heap.size=U at*;exact hG.out N U V3 (T3.perm po)
        · go_simp
          have G:=M.alloc zT;refine r.out _ _ (J.out _ [_] G) fun _=>?_;clear r K M;simp only[Gb,G7,G6];generalize V1.alloc _=V2 at*;generalize V1.heap.size=U at*;refine G5 17 (fun K r=>?_)
          · go_simp
            have T3:=G.alloc zH;refine r.out _ _ (J.out _ [_,_] T3) fun _=>?_;clear r K G;simp only[Gb,G7,G6];generalize V2.alloc _=V3 at*;generalize V2.heap.size=N at*;exact hG.out N U V3 (T3.perm po)
      · go_simp
        have M:=T0.alloc zH;refine r.out _ _ (J.out _ [_] M) fun _=>?_;clear r K T0;simp only[Gb,G7,G6];generalize V0.alloc _=V1 at*;generalize V0.heap.size=N at*;refine Zf (rs:=[12,18]) kr (by simp) (H_ rfl (fun K r=>?_) (H_ rfl (fun K r=>?_) Zd))
        · go_simp
          refine(a4.out _ [_] M).mono ?_;rintro e V2 ⟨rfl,Z⟩;have G:=M.call Z;refine r.out _ _ (J.out _ [_] G) fun _=>?_;clear r K Z M;simp only[Gb,G7,G6];have a0:=J.out _ [_] G;refine G2 13 18 a0 ?_;refine G2 14 32 a0 ?_;refine G2 15 33 a0 ?_;refine G2 16 34 a0 ?_;clear a0;refine G5 18 (fun K r=>?_)
          · go_simp
            have T3:=G.alloc zT;refine r.out _ _ (J.out _ [_,_] T3) fun _=>?_;clear r K G;simp only[Gb,G7,G6];generalize V2.alloc _=V3 at*;generalize V2.heap.size=U at*;exact hG.out N U V3 (T3.perm po)
        · go_simp
          have G:=M.alloc zT;refine r.out _ _ (J.out _ [_,_] G) fun _=>?_;clear r K M;simp only[Gb,G7,G6];generalize V1.alloc _=V2 at*;generalize V1.heap.size=U at*;refine G5 12 (fun K r=>?_)
          · go_simp
            refine(a4.out _ [_,_] G).mono ?_;rintro e V3 ⟨rfl,Z⟩;have T3:=G.call Z;refine r.out _ _ (J.out _ [_,_] T3) fun _=>?_;clear r K Z G;simp only[Gb,G7,G6];have a1:=J.out _ [_,_] T3;refine G2 13 18 a1 ?_;refine G2 14 32 a1 ?_;refine G2 15 33 a1 ?_;refine G2 16 34 a1 ?_;clear a1;exact hG.out N U V3 (T3.perm po)
      · go_simp
        have M:=T0.alloc zT;refine r.out _ _ (J.out _ [_] M) fun _=>?_;clear r K T0;simp only[Gb,G7,G6];generalize V0.alloc _=V1 at*;generalize V0.heap.size=U at*;refine Zf (rs:=[12,17]) kr (by simp) (H_ rfl (fun K r=>?_) (H_ rfl (fun K r=>?_) Zd))
        · go_simp
          refine(a4.out _ [_] M).mono ?_;rintro e V2 ⟨rfl,Z⟩;have G:=M.call Z;refine r.out _ _ (J.out _ [_] G) fun _=>?_;clear r K Z M;simp only[Gb,G7,G6];have a0:=J.out _ [_] G;refine G2 13 18 a0 ?_;refine G2 14 32 a0 ?_;refine G2 15 33 a0 ?_;refine G2 16 34 a0 ?_;clear a0;refine G5 17 (fun K r=>?_)
          · go_simp
            have T3:=G.alloc zH;refine r.out _ _ (J.out _ [_,_] T3) fun _=>?_;clear r K G;simp only[Gb,G7,G6];generalize V2.alloc _=V3 at*;generalize V2.heap.size=N at*;exact hG.out N U V3 (T3.perm po)
        · go_simp
          have G:=M.alloc zH;refine r.out _ _ (J.out _ [_,_] G) fun _=>?_;clear r K M;simp only[Gb,G7,G6];generalize V1.alloc _=V2 at*;generalize V1.heap.size=N at*;refine G5 12 (fun K r=>?_)
          · go_simp
            refine(a4.out _ [_,_] G).mono ?_;rintro e V3 ⟨rfl,Z⟩;have T3:=G.call Z;refine r.out _ _ (J.out _ [_,_] T3) fun _=>?_;clear r K Z G;simp only[Gb,G7,G6];have a1:=J.out _ [_,_] T3;refine G2 13 18 a1 ?_;refine G2 14 32 a1 ?_;refine G2 15 33 a1 ?_;refine G2 16 34 a1 ?_;clear a1;exact hG.out N U V3 (T3.perm po)
     case h2=>
      intro N U V0 U0;refine G5 19 (fun K r=>?_);have aM:=U0.there1;have U1:=U0.laid [yV 1,iV cb,iV cc,iV cd] rfl;refine JT rfl rfl 125 _ _ rfl _ 0 #[yV 1,iV cb,iV cc,iV cd] rfl rfl aM b7 aY ?_;refine r.out _ _ (J.out _ [_,_] U1) fun _=>?_;clear r K aM;simp only[Gb,G7,G6];generalize V0.setCells N 0 _=V9 at*;refine G5 20 (fun K r=>?_);have aN:=U1.there2;have U2:=U1.laid2 [yV tk,iV tw,uV tm] rfl;refine JT rfl rfl 79 _ _ rfl _ 0 #[yV tk,iV tw,uV tm] rfl rfl aN b8 aZ ?_;refine r.out _ _ (J.out _ [_,_] U2) fun _=>?_;clear r K aN;simp only[Gb,G7,G6];have aW:=J.out _ [_,_] U2;refine G2 21 10 aW ?_;clear aW;refine P_ kr ?_ _;refine z_ ?_;exact⟨rfl,N,U,rfl,U2⟩
    case hq=>
     intro N U w5 T5;have c3:=T5.cell1 3;have az:=a3.out w5 T5.below;have a8:=uh T5;clear T5 J a4
     go_wp2_with (first
      | (at_builtin;refine K_ rfl _ _ rfl L4 rfl aG.out (R:=(w5.heap.size,.cells #[iV cd] 3)::(N,.cells #[yV 1,iV cb,iV cc,iV cd] 125)::(U,.cells #[yV tk,iV tw,uV tm] 79)::((rb,rN ao W cap lao L.length lcap)::lr++R)) ((a8.out.alloc (.cells #[iV cd] 3)).perm po).has rfl (news:=[iV cd]) rfl (Qy (A_ _ _)) (by simp[Value.oneCell']) bf bg ?_;intro a9 p9 l9 w9 b1 V9 bj;have ax:=uh (((a8.out.alloc (.cells #[iV cd] 3)).perm (l2:=y++((w5.heap.size,.cells #[iV cd] 3)::(N,.cells #[yV 1,iV cb,iV cc,iV cd] 125)::(U,.cells #[yV tk,iV tw,uV tm] 79)::((rb,rN ao W cap lao L.length lcap)::lr++R))) po).trans V9);have be:=uh b1;clear b1 V9 bj)
      | fail)
     have bq:=a3.out _ ax.out.below;have bs:w9.cell? (aD N 3)=some (iV cd):=ax.out.has.cell (b:=N) (c:=#[yV 1,iV cb,iV cc,iV cd]) (e:=125) (f:=(0,0)) (by simp) 3;have bc:=uh ((ax.out.perm (l2:=[(w5.heap.size,.cells #[iV cd] 3),(N,.cells #[yV 1,iV cb,iV cc,iV cd] 125),(U,.cells #[yV tk,iV tw,uV tm] 79)]++(l9++((rb,rN ao W cap lao L.length lcap)::lr++R))) po).drop);clear ax a8 c3 az
     go_quiet (fail)
     go_wp2_with fail
     go_roundw
     case rel=>exact⟨i+1,a9,p9,l9,by omega,by go_num,by rw[am.out];go_num,rfl,by rw[aU.out,GS];exact be.out,bc.out.drewN _⟩
     case measure=>simp[intOf];omega
  · obtain rfl:i=os.length:=O
    have bv:¬((os.length:Nat):Int)<(os.length:Int):=O;rw[D_]at ae;have af:=uh (T.perm (l2:=((rb,rN ao W cap lao L.length lcap)::lr)++(y++R)) po);have aG:=uh ae;have b4:((W.length:Int)).tdiv 2=((W.length/2:Nat):Int):=GC _ 2;have aQ:(W.length:Int)/2=((W.length/2:Nat):Int):=O;have ba:=uh (fun(h:0<os.length) w' (lj:List Blk) (V:Turn [] w0 (lj++(y++R)) w')=>(ae.src (R:=lj++R) (V.has.perm po)).form (by rw[GX];unfold LT;simpa using h));have aF:=uh (fun(h:0<os.length)=>(ae.src (R:=((rb,rN ao W cap lao L.length lcap)::lr)++R) (af.out.has.perm po)).form (by rw[GX];unfold LT;simpa using h));clear T ae hi aC
    go_wp2_with fail
    go_loopw [6,11] (fun v6 aP wr=>∃(j en:Nat) (Wj:List Nat) (lj:List Blk),j <= os.length /\ aP=iV j /\ v6=iV en /\ en=Gg 0 (os.take j) /\ GL (W.length/2) Wj (os.drop j) en=GL (W.length/2) W os 0 /\ Wj.length=W.length /\ Ks rb lao L.length lcap Wj lj /\ Turn [] w0 (lj++(y++R)) wr) (fun _ aP _=>os.length-(intOf aP).toNat)
    case atStart=>exact⟨0,0,W,(rb,rN ao W cap lao L.length lcap)::lr,u_ _,by go_num,by go_num,rfl,rfl,rfl,b9.out,af.out⟩
    case round=>
     clear af;obtain⟨j,en,Wj,lj,hj,rfl,rfl,aB,ah,a7,ay,T⟩:=hrel
     by_cases aC:j<os.length
     · have b5:(j:Int)<(os.length:Int):=O
       obtain⟨c,hc⟩:∃c,os[j]?= some c:=⟨os[j],a_ aC⟩;obtain⟨aA,a6,ag⟩:=Hr.out j c hc;rw[←aB]at aA;have ak:=a6.2.2;have b6:=a6.pos;rw[Rn hc]at ah;have am:=uh (Ma hc);obtain⟨ab,ac,rfl,a2⟩:=av.out O;have a3:=uh (fun w' (Z:Below w0.heap.size w0 w')=>(Z.cell (p:=(aD ab (ac+j))) (c_ w0 _ (a2 j _ (Kr (M2 hc))))).trans (a2 j _ (Kr (M2 hc))));obtain⟨sb,br,rfl,-⟩:=aF.out O;have aL:(J7 (LT os))[j]?= some (iV c.2.size):=(by simp[J7,LT,hc]);have aH:=uh (fun w' (lj:List Blk) (V:Turn [] w0 (lj++(y++R)) w')=>((aG.out.src (R:=lj++R) (V.has.perm po)).at_ _ rfl j _ aL));have HL:=uh (AH wr ay T (by rw[a7];exact hf) en (c.1-en) (by rw[a7];omega));have au:(c.1:Int)-(en:Int)=((c.1-en:Nat):Int):=O;have az:=a3.out _ T.below;have aV:=uh ah;obtain⟨cg,⟨ca,cb,cc,cd⟩⟩:=c;simp only at au az aV HL am ak aA aH a3;have bd:=uh a7;clear hc a6 ag ay T ah a2 aL ba aF HA av a7 aB b6
       go_wp2_with fail
       refine HL.out.mono ?_;rintro e w5 ⟨⟨u,rfl⟩,l5,an,T5⟩;have az:=a3.out _ T5.below;have bm:=aH.out _ _ T5;rw[KS]at bm;have a8:=uh T5;have aE:=uh an;clear T5 an HL a3 aH
       go_wp2_with fail
       go_quiet (fail)
       go_wp2_with fail
       go_roundw
       case rel=>exact⟨j+1,cg+cd,_,l5,by omega,by go_num,by go_num,am.out.symm,aV.out,by rw[Gz];exact bd.out,aE.out,a8.out.drewN _⟩
       case measure=>simp[intOf];omega
     · obtain rfl:j=os.length:=O
       rw[Rp (g_ _)]at ah;have hb:=aT.out os.length;rw[←aB]at hb;have HL:=uh (AH wr ay T (by rw[a7];exact hf) en (W.length/2-en) (by rw[a7];omega));rw[ah]at HL;obtain⟨aj,pj,bx,bk,rfl⟩:=ay;have c0:wr.cell? (aD rb 0)=some (.slice aj Wj.length pj):=T.cell1 0;rw[a7]at c0;have au:((W.length/2:Nat):Int)-(en:Int)=((W.length/2-en:Nat):Int):=O;clear bk T ah aB a7 aT;obtain⟨z,hz⟩:∃z:Nat,W.length/2=z:=⟨_,rfl⟩;rw[hz]at b4 aQ au HL hb bp ⊢;have HZ:=uh hz;clear hz
       go_wp2_with fail
       refine HL.out.mono ?_;rintro e w5 ⟨⟨u,rfl⟩,l5,an,T5⟩;have a8:=uh ((T5.perm (l2:=y++(l5++R)) po).drop);have aE:=uh an;clear T5 an HL c0
       go_wp2_with fail
       go_ret;exact⟨rfl,l5,by rw[HZ.out];exact aE.out,a8.out⟩
def DA (sb tb:Nat)(W B:List Nat)(l:List Blk):Prop:=
 ∃a aw bb,∃(n:Int) (lb:List Blk),GD bb B (W.length/2) lb /\ l=G0 a aw W n++(G1 sb a tb bb::lb)
theorem QY (w:World)(hF:Fields w)(tb n:Nat)(h:Kq n):
  Calls prog 23 #[iV n,pt tb] w fun e w'=>∃sb l,e=.returned (.tuple #[pt sb,iV 0]) /\ DA sb tb (lay (List.replicate n 0) 0 (n/2)) (List.replicate ((n/2+63)/64) 0) l /\ Turn [] w l w':=by
 have⟨h1,h2,h3⟩:=h;have Ha:=uh (Q4 w n h);have Hb:=uh (fun w'=>gV w' (n/2) O);have HF:=uh (fun w' (hB:Below w.heap.size w w')=>range_below hF hB);have a1:((n:Int)).tdiv 2=((n/2:Nat):Int):=GC _ 2;have J:(n:Int)/2=((n/2:Nat):Int):=O;have E:(List.replicate n 0).length=n:=W_;have y:=uh E;have a0:(lay (List.replicate n 0) 0 (n/2)).length=n:=by rw[Gz];exact E
 have V:=uh a0;have G:n <= 65536:=O;obtain⟨z,hz⟩:∃z:Nat,n/2=z:=⟨_,rfl⟩;rw[hz]at a1 J Hb V ⊢;have HZ:=uh hz;clear hF h h1 h2 h3 E a0 hz
 go_enter func23,ntmps23
 go_wp2_with fail
 refine Ha.out.mono ?_;rintro e w1 ⟨a,aw,rfl,T1⟩;have N:=uh T1;clear T1 Ha
 go_wp2_with fail
 refine(Hb.out _).mono ?_;rintro e M ⟨bb,lb,rfl,hb,T2⟩;have U:=uh (N.out.grow T2);have a2:=uh hb;clear T2 hb Hb N;have r:=uh ((U.out.alloc (.cells #[pt a,pt tb,pt bb] 129)).perm (l2:=G0 a aw (List.replicate n 0) 0++(G1 M.heap.size a tb bb::lb)) (Yh fun c=>by simp[G1];omega));clear U;have Z:(M.alloc (.cells #[pt a,pt tb,pt bb] 129)).cell? (aD M.heap.size 0)=some (pt a):=r.out.has.cell (b:=M.heap.size) (c:=#[pt a,pt tb,pt bb]) (e:=129) (f:=(0,0)) (by simp[G1]) 0;have HG:=uh (Rk _ Z (JQ r.out.has (by rw[y.out];exact G)) (by rw[y.out];exact G));have HL:=uh (XT _ (HF.out _ r.out.below) r.out (d_ ..) (by rw[y.out];exact G) 0 z (by rw[y.out];have:=HZ.out;omega));rw[y.out,HZ.out]at HG;clear Z HF
 go_wp2_with fail
 refine HG.out.mono ?_;rintro e w4 ⟨rfl,rfl⟩;clear HG
 go_wp2_with fail
 refine HL.out.mono ?_;rintro e w5 ⟨⟨u,rfl⟩,c',T5⟩;have a3:=uh T5;clear T5 HL r
 go_wp2_with fail
 refine f_ (E_ rfl _ _ _) rfl ?_;exact⟨_,_,rfl,⟨a,aw,bb,c',lb,by rw[V.out,HZ.out];exact a2.out,rfl⟩,a3.out⟩
end
section
open Go Go.RowKit
section
variable {F:Fence} {n:Nat} {P:Program} {ops:Array Oper} {Q:Exit -> Act -> World -> Prop} {md:Region.Mode} {S:World -> Prop}
def KN (P:Program)(ops:Array Oper)(S:World -> Prop)(o:Oper)(v:Value)(a:Act):Prop:=YieldsIf P ops S o v a /\ ∀w,o.about P w a.eval=none
theorem KN.go {i:Nat}{o:Oper}{v:Value}{a:Act}(G:F.round=none)(N:ops[i]?= some o)(J:KN P ops S o v a)
  {K:Act -> World -> Prop}{w:World}(M:S w)(h:K (a.put o.dst v) w):wpOpIn F n P ops Q i K a w:=by
 unfold wpOpIn;simp only[N];have r:∀f,o.about P w a.eval=some f -> F.fn f:=fun f E=>by rw[J.2 w]at E;cases E
 rcases J.1 with⟨y,U⟩|⟨y,rfl⟩
 ·simp only[y,if_true,Oper.wpIn,G,Oper.semAt_none,U w M,Oper.uponIn];exact⟨r,h⟩
 ·simp only[y,Bool.false_eq_true,if_false];exact⟨r,h⟩
theorem KN.of_same {o:Oper}{v:Value}{a r:Act}(y:KN P ops S o v a)(G:execOp r.eval o=execOp a.eval o)
  (J:Region.wanted o (yielded ops r.tmps)=Region.wanted o (yielded ops a.tmps))(E:∀w,o.about P w r.eval=o.about P w a.eval):KN P ops S o v r:=
 ⟨y.1.of_same G J,fun w=>by rw[E w];exact y.2 w⟩
theorem UV {j:Nat}{y E:Oper}{v:Value}(N:F.round=none)(hj:ops[j]?= some E)(a0:y.apart ops E=true)
  (a1:∀cs b,y.op≠ .select cs b)(a2:∀cs b,E.op≠ .select cs b)
  (Z:∀c a w,Q (.panic c) (a.put y.dst v) w -> Q (.panic c) a w){K:Act -> World -> Prop}{a:Act}{w:World}
  (J:KN P ops S y v a)(h:wpOpIn F n P ops Q j K (a.put y.dst v) w):
  wpOpIn F n P ops Q j (fun a' w'=>KN P ops S y v a' /\ K (a'.put y.dst v) w') a w:=by
 obtain⟨h1,h2,V⟩:=Oper.apart_spec a0
 have keep:∀(a:Act),KN P ops S y v a -> ∀u,KN P ops S y v (a.put E.dst u):=fun a J u=>
  J.of_same (execOp_put y a1 a E.dst u V) (wanted_put y a E.dst u V) (fun w=>about_put y w a E.dst u V)
 have M:∀d,KN P ops S y v { a with defers:=d::a.defers }:=fun d=>J.of_same rfl rfl (fun _=>rfl);unfold wpOpIn at*;simp only[hj]at*;rw[wanted_put E a y.dst v h1,about_put E w a y.dst v h1]at h
 split
 · rename_i hw
   simp only[hw,if_true]at h;unfold Oper.wpIn at*;rw[about_put E w a y.dst v h1]at h;refine⟨h.1,?_⟩;have h:=h.2;rw[N,Oper.semAt_none,execOp_put E a2 a y.dst v h1]at h;rw[N,Oper.semAt_none];generalize(execOp a.eval E).run P w=r at*
   cases r with
   | ok x w'=>
    cases x<;>simp only[Oper.uponIn]at h ⊢
    case value u=>exact⟨keep a J u,by rw[←Act.put_comm a v u h2];exact h⟩
    case skip=>exact⟨keep a J _,by rw[←Act.put_comm a v undef h2];exact h⟩
    case defer d=>
     refine⟨keep _ (M d) _,?_⟩;rw[←Act.put_comm _ v undef h2,←Act.put_defers];exact h
    case enter f args=>
     refine⟨h.1,CallsIn.mono h.2 fun e U G=>?_⟩
     cases e with
     | returned u=>exact⟨keep a J u,by rw[←Act.put_comm a v u h2];exact G⟩
     | panicked c=>exact Z _ _ _ G
     | outgrown=>exact G
    case row row args=>exact⟨h.1,RowsIn.mono h.2 fun u U G=>⟨keep a J u,by rw[←Act.put_comm a v u h2];exact G⟩⟩
    case round l f tmps assign body=>
     refine⟨h.1,RoundIn.mono h.2 fun e U G=>?_⟩
     cases e with
     | returned u=>exact⟨keep a J u,by rw[←Act.put_comm a v u h2];exact G⟩
     | panicked c=>exact Z _ _ _ G
     | outgrown=>exact G
   | halt x w'=>
    cases x<;>simp only[Oper.uponIn]at h ⊢
    case panic u=>exact Z _ _ _ h
 · rename_i hw
   simp only[hw]at h;exact⟨h.1,keep a J _,by rw[←Act.put_comm a v undef h2];exact h.2⟩
def GZ (F:Fence)(n:Nat)(P:Program)(md:Region.Mode)(ops:Array Oper)(Q:Exit -> Act -> World -> Prop)(S:World -> Prop):Nat -> Array Bool -> Act -> World -> Prop
 | 0,listed,a,w=>Region.ready md ops listed=[] /\ Q .normal a w
 | fuel+1,listed,a,w=>
  (Region.ready md ops listed=[] -> Q .normal a w) /\
  ∀i∈Region.ready md ops listed,wpOpIn F n P ops Q i (fun a' w'=>S w' /\ GZ F n P md ops Q S fuel (listed.setIfInBounds i true) a' w') a w
theorem Me:∀(r:Nat) (y:Array Bool) (a:Act) (w:World),GZ F n P md ops Q S r y a w -> wpAnyIn F n P md ops Q r y a w
 | 0,_,_,_,h=>h
 | r+1,_,_,_,h=>⟨h.1,fun i J=>wpOpIn_mono (fun E w' G=>Me r _ E w' G.2) (h.2 i J)⟩
theorem NL {i:Nat}{J:Oper}{v:Value}(a1:F.round=none)(hi:ops[i]?= some J)(a2:∀(j:Nat) (o:Oper) cs b,ops[j]?= some o -> o.op≠ .select cs b)
  (hQ:∀c a w,Q (.panic c) (a.put J.dst v) w -> Q (.panic c) a w):
  ∀(E:Nat) (r:Array Bool) (a:Act) (w:World),
   (∀j M,ops[j]?= some M -> j≠i -> r.getD j true=false -> (∀e∈M.after,Region.binds md e=true -> e.on≠i) -> J.apart ops M=true) ->
   i∈Region.ready md ops r -> KN P ops S J v a -> S w ->
   GZ F n P md ops Q S E (r.setIfInBounds i true) (a.put J.dst v) w -> GZ F n P md ops Q S (E+1) r a w:=by
 intro E
 induction E with
 | zero=>
  intro r a w _ G hy U H;refine⟨fun h=>(by rw[h]at G;cases G),fun j hj=>?_⟩
  by_cases y:j=i
  ·subst y;exact hy.go a1 hi U ⟨U,H⟩
  · have:=ready_mono hj y
    rw[H.1]at this
    cases this
 | succ E ih=>
  intro r a w N G hy U H;refine⟨fun h=>(by rw[h]at G;cases G),fun j hj=>?_⟩
  by_cases y:j=i
  ·subst y;exact hy.go a1 hi U ⟨U,H⟩
  · have h1:=H.2 j (ready_mono hj y)
    obtain⟨Z,M,a0,a5⟩:=mem_ready.1 hj
    have a6:∀e∈M.after,Region.binds md e=true -> e.on≠i:=fun e he hb a7=>by
     have h1:=a5 e he hb;have h0:=(mem_ready.1 G).1;rw[a7]at h1;rcases Nat.lt_or_ge i r.size with h'|h'
     ·simp[h']at h0 h1;rw[h0]at h1;cases h1
     ·simp[Yc h']at h1
    have h2:=UV a1 a0 (N j M a0 y Z a6) (fun cs b=>a2 i J cs b hi) (fun cs b=>a2 j M cs b a0) hQ hy h1
    have V:∀k ok,ops[k]?= some ok -> k≠i -> (r.setIfInBounds j true).getD k true=false ->
      (∀e∈ok.after,Region.binds md e=true -> e.on≠i) -> J.apart ops ok=true:=fun k ok hk a8 a4 a9=>by
     refine N k ok hk a8 ?_ a9
     by_cases a3:j=k
     ·subst a3;exact Z
     ·rw[getD_set_ne true a3]at a4;exact a4
    refine wpOpIn_mono (fun a' w' h3=>⟨h3.2.1,ih (r.setIfInBounds j true) a' w' V (ready_mono G (Ne.symm y)) h3.1 h3.2.1 ?_⟩) h2;rw[Array.setIfInBounds_comm _ _ y];exact h3.2.2
theorem N2 {G:Nat}{a:Act}{w:World}(k:Nat)(L:List Bool)(y:ops.size=k)(r:(Array.replicate k false).toList=L)(E:P.follows .mixedOrders=true)
  (h:GZ F n P .any ops Q S k L.toArray a w.drew):(Code.region G ops true).wpIn F n P Q a w:=by
 subst y;subst r;exact wpIn_region_any E (Me _ _ _ _ h)
theorem NU {r:Nat}{w:World}(i d:Nat){E:Oper}{v:Value}{L:List Bool}{G:List Value}{J:List Deferred}(U:F.round=none)(N:ops[i]?= some E)(y:E.dst=some d)(hw:Region.wanted E (yielded ops G.toArray)=true)
  (hs:Region.noSelect ops=true)(hf:Region.free md ops L.toArray i=true)(hr:(Region.ready md ops L.toArray).contains i=true)
  (V:∀c (a:Act) v w,Q (.panic c) (a.put (some d) v) w -> Q (.panic c) a w)(Z:S w)(M:∀w,E.about P w (Act.eval { tmps:=G.toArray,defers:=J })=none)
  (hy:∀w,S w -> (execOp (Act.eval { tmps:=G.toArray,defers:=J }) E).run P w=.ok (.value v) w)
  (h:GZ F n P md ops Q S r (L.set i true).toArray { tmps:=(G.set d v).toArray,defers:=J } w):GZ F n P md ops Q S (r+1) L.toArray { tmps:=G.toArray,defers:=J } w:=by
 refine NL U N (Region.noSelect_spec hs) (fun c a w h=>V c a v w (by rw[←y];exact h)) r _ _ _ (Region.free_spec N hf) (by simpa using hr) ⟨Or.inl ⟨hw,hy⟩,M⟩ Z ?_
 simpa [Act.put,y]using h
theorem P6 {r:Nat}{w:World}(i d:Nat){E:Oper}{L:List Bool}{G:List Value}{J:List Deferred}(U:F.round=none)(N:ops[i]?= some E)(y:E.dst=some d)(hw:Region.wanted E (yielded ops G.toArray)=false)
  (hs:Region.noSelect ops=true)(hf:Region.free md ops L.toArray i=true)(hr:(Region.ready md ops L.toArray).contains i=true)
  (V:∀c (a:Act) v w,Q (.panic c) (a.put (some d) v) w -> Q (.panic c) a w)(Z:S w)(M:∀w,E.about P w (Act.eval { tmps:=G.toArray,defers:=J })=none)
  (h:GZ F n P md ops Q S r (L.set i true).toArray { tmps:=(G.set d undef).toArray,defers:=J } w):GZ F n P md ops Q S (r+1) L.toArray { tmps:=G.toArray,defers:=J } w:=by
 refine NL U N (Region.noSelect_spec hs) (fun c a w h=>V c a undef w (by rw[←y];exact h)) r _ _ _ (Region.free_spec N hf) (by simpa using hr) ⟨Or.inr ⟨hw,rfl⟩,M⟩ Z ?_
 simpa [Act.put,y]using h
theorem Gx {r:Array Bool}{a:Act}{w:World}(E:Region.ready md ops r=[])(h:Q .normal a w):
  ∀y,GZ F n P md ops Q S y r a w
 | 0=>⟨E,h⟩
 | _+1=>⟨fun _=>h,by rw[E];simp⟩
theorem Ga {i:Nat}{o:Oper}{E:Nat}{r:Array Bool}{a:Act}{w:World}(M:Region.ready md ops r=[i])(Z:ops[i]?= some o)
  (h:∀y:Act -> World -> Prop,Shut (∀a w,S w -> GZ F n P md ops Q S E (r.setIfInBounds i true) a w -> y a w) -> if Region.wanted o (yielded ops a.tmps)=true then Oper.wpIn F n P o a w y Q else(∀f,o.about P w a.eval=some f -> F.fn f) /\ y (a.put o.dst undef) w):
  GZ F n P md ops Q S (E+1) r a w:=by
 refine⟨fun G=>(by rw[M]at G;cases G),fun j J=>?_⟩;rw[M]at J;obtain rfl:j=i:=by simpa using J
 exact wpOpIn_step Z (fun y N=>h y (fun a w U V=>N a w ⟨U,V⟩))
theorem S3 {i j:Nat}{G J:Oper}{E:Nat}{r:Array Bool}{a:Act}{w:World}(hr:Region.ready md ops r=[i,j])(hi:ops[i]?= some G)(hj:ops[j]?= some J)
  (h:∀y:Act -> World -> Prop,Shut (∀a w,S w -> GZ F n P md ops Q S E (r.setIfInBounds i true) a w -> y a w) -> if Region.wanted G (yielded ops a.tmps)=true then Oper.wpIn F n P G a w y Q else(∀f,G.about P w a.eval=some f -> F.fn f) /\ y (a.put G.dst undef) w)
  (h':∀y:Act -> World -> Prop,Shut (∀a w,S w -> GZ F n P md ops Q S E (r.setIfInBounds j true) a w -> y a w) -> if Region.wanted J (yielded ops a.tmps)=true then Oper.wpIn F n P J a w y Q else(∀f,J.about P w a.eval=some f -> F.fn f) /\ y (a.put J.dst undef) w):
  GZ F n P md ops Q S (E+1) r a w:=by
 refine⟨fun Z=>(by rw[hr]at Z;cases Z),fun x M=>?_⟩;rw[hr]at M;rcases t_.1 M with rfl|M
 ·exact wpOpIn_step hi (fun y N=>h y (fun a w U V=>N a w ⟨U,V⟩))
 · obtain rfl:x=j:=by simpa using M
   exact wpOpIn_step hj (fun y N=>h' y (fun a w U V=>N a w ⟨U,V⟩))
end
section
variable {F:Fence} {n:Nat} {P:Program} {ops:Array Oper} {Q:Exit -> Act -> World -> Prop} {md:Region.Mode} {S:World -> Prop}
theorem Bh {id:Nat}{a:Act}{w:World}(k:Nat){L:List Bool}(h:GZ F n P .any ops Q S k L.toArray a w.drew)(hk:ops.size=k:=by rfl)(hL:fS k=L:=by simp only[fS];exact rfl)(hm:P.follows .mixedOrders=true:=by kernel_rfl):(Code.region id ops true).wpIn F n P Q a w:=N2 k L hk ((Da k).trans hL) hm h
theorem Jr {fuel:Nat}{w:World}(i d:Nat){oi:Oper}{v:Value}{L:List Bool}{ts:List Value}{ds:List Deferred}(hro:F.round=none)(hS:S w){L2:List Bool}{ts2:List Value}(h:GZ F n P md ops Q S fuel L2.toArray { tmps:=ts2.toArray,defers:=ds } w)
  (hi:ops[i]?= some oi:=by rfl)(hdst:oi.dst=some d:=by rfl)(hw:Region.wanted oi (yielded ops ts.toArray)=true:=by rfl)
  (hs:Region.noSelect ops=true:=by kernel_rfl)(hf:Region.free md ops L.toArray i=true:=by kernel_rfl)(hr:(Region.ready md ops L.toArray).contains i=true:=by kernel_rfl)
  (hQ:∀c (a:Act) v w,Q (.panic c) (a.put (some d) v) w -> Q (.panic c) a w:=by exact fun _ _ _ _ h=>h)(hab:∀w,oi.about P w (Act.eval { tmps:=ts.toArray,defers:=ds })=none:=by exact fun _=>rfl)
  (hy:∀w,S w -> (execOp (Act.eval { tmps:=ts.toArray,defers:=ds }) oi).run P w=.ok (.value v) w:=by intro w hSw;clear hSw;go_simp;try rfl)
  (hL:L.set i true=L2:=by simp only[G7,G6];try exact rfl)(ht:ts.set d v=ts2:=by simp only[G7,G6];try exact rfl):
  GZ F n P md ops Q S (fuel+1) L.toArray { tmps:=ts.toArray,defers:=ds } w:=NU i d hro hi hdst hw hs hf hr hQ hS hab hy (by rw[hL,ht];exact h)
theorem N6 {fuel:Nat}{w:World}{C:World -> Prop}(i d:Nat){oi:Oper}{v:Value}{L:List Bool}{ts:List Value}{ds:List Deferred}(hro:F.round=none)(hS:S w)(hC:∀w,S w -> C w){L2:List Bool}{ts2:List Value}(h:GZ F n P md ops Q S fuel L2.toArray { tmps:=ts2.toArray,defers:=ds } w)
  (hi:ops[i]?= some oi:=by rfl)(hdst:oi.dst=some d:=by rfl)(hw:Region.wanted oi (yielded ops ts.toArray)=true:=by rfl)
  (hs:Region.noSelect ops=true:=by kernel_rfl)(hf:Region.free md ops L.toArray i=true:=by kernel_rfl)(hr:(Region.ready md ops L.toArray).contains i=true:=by kernel_rfl)
  (hQ:∀c (a:Act) v w,Q (.panic c) (a.put (some d) v) w -> Q (.panic c) a w:=by exact fun _ _ _ _ h=>h)(hab:∀w,oi.about P w (Act.eval { tmps:=ts.toArray,defers:=ds })=none:=by exact fun _=>rfl)
  (hy:∀w,C w -> (execOp (Act.eval { tmps:=ts.toArray,defers:=ds }) oi).run P w=.ok (.value v) w:=by intro w hc;go_simp;try rfl)
  (hL:L.set i true=L2:=by simp only[G7,G6];try exact rfl)(ht:ts.set d v=ts2:=by simp only[G7,G6];try exact rfl):
  GZ F n P md ops Q S (fuel+1) L.toArray { tmps:=ts.toArray,defers:=ds } w:=NU i d hro hi hdst hw hs hf hr hQ hS hab (fun w hw=>hy w (hC w hw)) (by rw[hL,ht];exact h)
theorem jq {fuel:Nat}{w:World}(i d:Nat){oi:Oper}{L:List Bool}{ts:List Value}{ds:List Deferred}(hro:F.round=none)(hS:S w){L2:List Bool}{ts2:List Value}(h:GZ F n P md ops Q S fuel L2.toArray { tmps:=ts2.toArray,defers:=ds } w)
  (hi:ops[i]?= some oi:=by rfl)(hdst:oi.dst=some d:=by rfl)(hw:Region.wanted oi (yielded ops ts.toArray)=false:=by rfl)
  (hs:Region.noSelect ops=true:=by kernel_rfl)(hf:Region.free md ops L.toArray i=true:=by kernel_rfl)(hr:(Region.ready md ops L.toArray).contains i=true:=by kernel_rfl)
  (hQ:∀c (a:Act) v w,Q (.panic c) (a.put (some d) v) w -> Q (.panic c) a w:=by exact fun _ _ _ _ h=>h)(hab:∀w,oi.about P w (Act.eval { tmps:=ts.toArray,defers:=ds })=none:=by exact fun _=>rfl)
  (hL:L.set i true=L2:=by simp only[G7,G6];try exact rfl)(ht:ts.set d undef=ts2:=by simp only[G7,G6];try exact rfl):
  GZ F n P md ops Q S (fuel+1) L.toArray { tmps:=ts.toArray,defers:=ds } w:=P6 i d hro hi hdst hw hs hf hr hQ hS hab (by rw[hL,ht];exact h)
end
end
section
open Go Go.RowKit
def Wv {α:Type}(B:Nat)(Kp Kx:World -> World -> Prop)(I:List α -> World -> Prop)(Ix:Code -> List α -> World -> Prop)(xs:List α)(W:World):Exit -> Act -> World -> Prop
 | .normal,_,W'=>KeepsFrom B W W' /\ Kp W W' /\ I xs W'
 | .ret,_,W'=>KeepsFrom B W W' /\ Kx W W' /\ Ix .ret xs W'
 | .exit id,_,W'=>KeepsFrom B W W' /\ Kx W W' /\ Ix (.exit id) xs W'
 | .goto t,_,W'=>KeepsFrom B W W' /\ Kx W W' /\ Ix (.goto t) xs W'
 | .panic _,_,_=>False
 | .outgrown,_,_=>False
section
variable {F:Fence} {n:Nat} {P:Program}
def Q7 {α:Type}(F:Fence)(n:Nat)(P:Program)(g:Nat)(lb:Array Value)(encs:α -> Array Value)(Kp Kx:World -> World -> Prop)(Nx:List α -> α -> Prop)(S:List α -> Prop)(w:World):Prop:=
 ∀(l:Nat) (J Jx:List α -> World -> Prop) (W:World),Below w.heap.size w W -> AbidesFrom W.heap.size J -> AbidesFrom W.heap.size Jx ->
  (∀pre x W1,Nx pre x -> J pre W1 -> YieldAt F (n-1) P l (encs x) W1 fun e W'=>
    (e=.returned (.bool true) /\ J (pre++[x]) W' /\ Kp W1 W')∨(e=.returned (.bool false) /\ Jx (pre++[x]) W' /\ Kx W1 W')) ->
  J [] W ->
  CallsIn F n P g (#[.func (.yield l) #[] #[]]++lb) W fun e W'=>(∃v,e=.returned v) /\ ((∃xs,S xs /\ J xs W')∨(∃pre,Jx pre W'))
theorem RH {α:Type}{g:Operand}{ps:Array Tmp}{assign body:Code}{Q:Exit -> Act -> World -> Prop}{a:Act}{w:World}
  (aE:F.round=none)(h1:1 <= n){gf:Nat}{lb:Array Value}(hg:a.eval g=.func (.func gf) #[] lb)(ay:F.fn gf)(eg:∀args w,(callFunc gf args).run P w=.ok (.enter gf args) w)
  {a7:α -> Array Value}{Kp Kx:World -> World -> Prop}{Nx:List α -> α -> Prop}{S:List α -> Prop}{w0:World}(av:Q7 F (n-1) P gf lb a7 Kp Kx Nx S w0)
  (ac:∀{A B C:World},Kp A B -> Kp B C -> Kp A C)(a5:∀(W:World) (l:Nat) (o o':Obj),w.heap.size <= l -> W.heap[l]?= some o -> o.isCells=false -> o.isWalk=false -> Kp W (W.putObj l o'))(ae:∀{A B C:World},Kp A B -> Kx B C -> Kx A C)(a8:∀{A B C:World},Kx A B -> Kp B C -> Kx A C)(ah:Below w0.heap.size w0 w)(aC:∀x,(a7 x).size=ps.size)
  (I:List α -> World -> Prop)(Ix:Code -> List α -> World -> Prop)(M:α -> Act -> List α -> World -> Prop)(hI:OwnFrom w.heap.size I)(a4:∀c,OwnFrom w.heap.size (Ix c))(hM:∀x a',OwnFrom w.heap.size (M x a'))(h0:I [] w)
  (hassign:∀(l:Nat) (pre:List α) (x:α) (W:World),Nx pre x -> I pre W ->
    assign.wpIn (F.inRound l) (n-1-1) P (Exit.then (fun a' W'=>KeepsFrom w.heap.size W W' /\ Kp W W' /\ M x a' pre W') (fun _ _ _=>False)) { tmps:=(ps.zip (a7 x)).foldl (fun t (p,v)=>t.setIfInBounds p v) a.tmps,defers:=[] } W)
  (hbody:∀(l:Nat) (pre:List α) (x:α) (a':Act) (W:World),Nx pre x -> M x a' pre W -> body.wpIn (F.inRound l) (n-1-1) P (Wv w.heap.size Kp Kx I Ix (pre++[x]) W) a' W)
  (hdone:∀(D:Nat) (xs:List α) (W:World),w.heap.size <= D -> S xs -> I xs W -> W.heap[D]?= some (.deferred (some [])) -> Q .normal { a with defers:={ target:=.collected D,args:=#[] }::a.defers } W)
  (hstop:∀(D:Nat) (c:Code) (pre:List α) (W:World),w.heap.size <= D -> Ix c pre W -> W.heap[D]?= some (.deferred (some [])) -> c.wpIn F n P Q { a with defers:={ target:=.collected D,args:=#[] }::a.defers } W):
  (Code.rangeFunc g ps assign body).wpIn F n P Q a w:=by
 refine wpIn_rangeFunc fun fn aA=>?_;rw[aE]
 let rc:LoopState -> Option Code -> Loop:=fun st pe=>{ state:=st,pending:=pe,fn,tmps:=a.tmps,params:=ps,assign,body,defers:=w.heap.size }
 have ax:((w.alloc (.deferred (some []))).alloc (.loop (rc .ready none))).heap.size=w.heap.size+2:=by simp
 have an:Marks w.heap.size (rc .ready none) ((w.alloc (.deferred (some []))).alloc (.loop (rc .ready none))):=by
  refine⟨(Below.heap_alloc _ _ _ (by simp)).trans (World.alloc_heap_new w _),?_⟩;have:=World.alloc_heap_new (w.alloc (.deferred (some []))) (.loop (rc .ready none))
  rwa [Y_]at this
 have am:I [] ((w.alloc (.deferred (some []))).alloc (.loop (rc .ready none))):=hI.alloc _ (hI.alloc _ h0);have aj:Below w0.heap.size w0 ((w.alloc (.deferred (some []))).alloc (.loop (rc .ready none))):=ah.trans ((((T_ _ w).alloc (g_ _) _).alloc (by simp) _).mono ah.size);have a9:=run_enterLoop_outer (P:=P) (w:=w) fn a.tmps ps assign body
 change _=Result.ok _ ((w.alloc (.deferred (some []))).alloc (.loop (rc .ready none)))at a9
 generalize((w.alloc (.deferred (some []))).alloc (.loop (rc .ready none)))=W1 at ax an am aj a9
 refine⟨w.heap.size+1,[{ target:=.collected w.heap.size,args:=#[] }],W1,{ target:=.fn (.func gf) lb,args:=#[.func (.yield (w.heap.size+1)) #[] #[]] },W1,gf,
  #[.func (.yield (w.heap.size + 1)) #[] #[]] ++ lb, W1, a9, ?_, ?_, ?_, fun _ => h1, ?_⟩
 · simp only[resolve,hg]
   simp[go_sem]
 ·intro f' ak;simp[Target.leads]at ak;subst ak;exact ay
 ·simp[invoke,go_sem,eg]
 have ag:∀{A:World} {row:Option Nat},(∀r,row=some r -> W1.heap.size <= r /\ ∃o:Obj,A.heap[r]?= some o /\ o.isWalk=true) -> (∀r,row=some r -> w.heap.size <= r /\ ∃o:Obj,A.heap[r]?= some o /\ o.isCells=false):=
  fun J r e=>by obtain⟨hB,o,ho,hw⟩:=J r e;exact⟨by omega,o,ho,Obj.not_cells_of_walk hw⟩
 refine(av (w.heap.size+1) (fun pre W=>I pre W /\ Marks w.heap.size (rc .ready none) W) (fun pre W=>∃c,Ix c pre W /\ Marks w.heap.size (rc .done (some c)) W) W1 aj
  (fun s A B row hs a6 J=>⟨hI s A B row hs.1 a6 (ag J),hs.2.grown a6 fun j e=>(J j e).2⟩)
  (fun s A B row ⟨c,hc,U⟩ a6 J=>⟨c,a4 c s A B row hc a6 (ag J),U.grown a6 fun j e=>(J j e).2⟩) ?_ ⟨am,an⟩).mono ?_
 · rintro pre x W ap ⟨hi,U⟩
   refine⟨fn,_,assign,body,run_yield U.loop (aC x),roundIn_of_wpIn aA (wpIn_mono (hassign _ pre x W ap hi) ?_)⟩;rintro e a' Wa N
   cases e with
   | normal=>
    obtain⟨aB,au,az⟩:=N;have ab:=U.keeps aB;refine⟨_,run_beginRound ab.loop rfl,?_⟩;have af:=ab.put (rc .busy none);have aa:Kp W (Wa.putObj (w.heap.size+1) (.loop (rc .busy none))):=ac au (a5 _ _ _ _ (Zh _) ab.loop rfl rfl);refine wpIn_mono (hbody _ pre x a' _ ap ((hM x a').putObj _ az (Zh _) ab.loop rfl)) ?_
    have V:∀(y:Option Code) (Z:World),KeepsFrom w.heap.size (Wa.putObj (w.heap.size+1) (.loop (rc .busy none))) Z ->
      (Instr.endRound (w.heap.size+1) y).run P Z=.ok (.bool y.isNone) (Z.putObj (w.heap.size+1) (.loop (rc (if y.isNone then .ready else .done) y))) /\
      Z.heap[w.heap.size+1]?= some (.loop (rc .busy none)) /\ Marks w.heap.size (rc (if y.isNone then .ready else .done) y) (Z.putObj (w.heap.size+1) (.loop (rc (if y.isNone then .ready else .done) y))):=fun y Z E=>
     ⟨run_endRound (P:=P) y (af.keeps E).loop,(af.keeps E).loop,(af.keeps E).put _⟩
    rintro e a3 Z N
    cases e with
    | normal=>
     obtain⟨E,aq,a0⟩:=N;obtain⟨J,G,a2⟩:=V none Z E;exact⟨_,_,J,.inl ⟨rfl,⟨hI.putObj _ a0 (Zh _) G rfl,a2⟩,ac (ac aa aq) (a5 _ _ _ _ (Zh _) G rfl rfl)⟩⟩
    | ret=>
     obtain⟨E,a1,a0⟩:=N;obtain⟨J,G,a2⟩:=V (some .ret) Z E;exact⟨_,_,J,.inr ⟨rfl,⟨.ret,(a4 _).putObj _ a0 (Zh _) G rfl,a2⟩,a8 (ae aa a1) (a5 _ _ _ _ (Zh _) G rfl rfl)⟩⟩
    | exit id=>
     obtain⟨E,a1,a0⟩:=N;obtain⟨J,G,a2⟩:=V (some (.exit id)) Z E;exact⟨_,_,J,.inr ⟨rfl,⟨.exit id,(a4 _).putObj _ a0 (Zh _) G rfl,a2⟩,a8 (ae aa a1) (a5 _ _ _ _ (Zh _) G rfl rfl)⟩⟩
    | goto t=>
     obtain⟨E,a1,a0⟩:=N;obtain⟨J,G,a2⟩:=V (some (.goto t)) Z E;exact⟨_,_,J,.inr ⟨rfl,⟨.goto t,(a4 _).putObj _ a0 (Zh _) G rfl,a2⟩,a8 (ae aa a1) (a5 _ _ _ _ (Zh _) G rfl rfl)⟩⟩
    | panic ch=>exact N.elim
    | outgrown=>exact N.elim
   | ret=>exact N.elim
   | exit id=>exact N.elim
   | goto t=>exact N.elim
   | panic ch=>exact N.elim
   | outgrown=>exact N.elim
 · rintro e W2 ⟨⟨v,rfl⟩,(⟨xs,hS,hi,U⟩|⟨pre,c,hi,U⟩)⟩
   ·exact⟨none,_,run_endLoop (P:=P) U.loop (by simp[rc]),hdone _ xs _ (g_ _) hS (hI.putObj _ hi (Zh _) U.loop rfl) ((World.putObj_heap_other O).trans U.dfr)⟩
   ·exact⟨some c,_,run_endLoop (P:=P) U.loop (by simp[rc]),hstop _ c pre _ (g_ _) ((a4 c).putObj _ hi (Zh _) U.loop rfl) ((World.putObj_heap_other O).trans U.dfr)⟩
theorem Mu {α β:Type}{FA:α -> β -> Act}{g:Operand}{ps:Array Tmp}{assign body:Code}{Q:Exit -> Act -> World -> Prop}{a:Act}{w:World}
  (a9:F.round=none)(h1:1 <= n){gf:Nat}{lb:Array Value}(Z:a.eval g=.func (.func gf) #[] lb)(a1:F.fn gf)(eg:∀args w,(callFunc gf args).run P w=.ok (.enter gf args) w)
  {y:α -> Array Value}{Kp E:World -> World -> Prop}{J:List α -> α -> Prop}{S:List α -> Prop}{w0:World}(a0:Q7 F (n-1) P gf lb y Kp E J S w0)
  (a4:∀{A B C:World},Kp A B -> Kp B C -> Kp A C)(a3:∀(W:World) (l:Nat) (o o':Obj),w.heap.size <= l -> W.heap[l]?= some o -> o.isCells=false -> o.isWalk=false -> Kp W (W.putObj l o'))(a5:∀{A B C:World},Kp A B -> E B C -> E A C)(U:∀{A B C:World},E A B -> Kp B C -> E A C)(a6:Below w0.heap.size w0 w)(a8:∀x,(y x).size=ps.size)
  (I:List α -> World -> Prop)(G:Code -> List α -> World -> Prop)(M:α -> β -> List α -> World -> Prop)(hI:OwnFrom w.heap.size I)(a2:∀c,OwnFrom w.heap.size (G c))(hM:∀x r,OwnFrom w.heap.size (M x r))(h0:I [] w)
  (hassign:∀(l:Nat) (pre:List α) (x:α) (W:World),J pre x -> I pre W ->
    assign.wpIn (F.inRound l) (n-1-1) P (Exit.then (fun N W'=>KeepsFrom w.heap.size W W' /\ Kp W W' /\ ∃r,N=FA x r /\ M x r pre W') (fun _ _ _=>False)) { tmps:=(ps.zip (y x)).foldl (fun t (p,v)=>t.setIfInBounds p v) a.tmps,defers:=[] } W)
  (hbody:∀(l:Nat) (pre:List α) (x:α) (r:β) (W:World),J pre x -> M x r pre W -> body.wpIn (F.inRound l) (n-1-1) P (Wv w.heap.size Kp E I G (pre++[x]) W) (FA x r) W)
  (hdone:∀(D:Nat) (xs:List α) (W:World),w.heap.size <= D -> S xs -> I xs W -> W.heap[D]?= some (.deferred (some [])) -> Q .normal { a with defers:={ target:=.collected D,args:=#[] }::a.defers } W)
  (hstop:∀(D:Nat) (c:Code) (pre:List α) (W:World),w.heap.size <= D -> G c pre W -> W.heap[D]?= some (.deferred (some [])) -> c.wpIn F n P Q { a with defers:={ target:=.collected D,args:=#[] }::a.defers } W):
  (Code.rangeFunc g ps assign body).wpIn F n P Q a w:=
 RH a9 h1 Z a1 eg a0 a4 a3 a5 U a6 a8 I G (fun x N pre W=>∃r,N=FA x r /\ M x r pre W) hI a2 (fun x _ s A B row ⟨r,V,hm⟩ Z hr=>⟨r,V,hM x r s A B row hm Z hr⟩) h0 hassign (fun l pre x _ W a7 ⟨r,V,hm⟩=>by subst V;exact hbody l pre x r W a7 hm) hdone hstop
end
end
section
open Go Go.RowKit Go.Shelf Go.IntWalk
attribute [local go_sem] Oper.semAt_some
structure KpC (n₀ Bs:Nat)(D:Nat -> Prop)(A B:World):Prop where
 below:Below n₀ A B
 box:B.heap[Bs]?= A.heap[Bs]?
 size:A.heap.size <= B.heap.size
 same:∀b o,A.heap[b]?= some o -> o.isCells=true -> ¬D b -> B.heap[b]?= some o
structure KxC (Bs sb m:Nat)(A B:World):Prop where
 box:B.heap[Bs]?= A.heap[Bs]?
 sbk:B.heap[sb]?= A.heap[sb]?
 same:∀b o,A.heap[b]?= some o -> o.isCells=true -> m <= b -> B.heap[b]?= some o
theorem KpC.x {n₀ Bs sb m:Nat}{D:Nat -> Prop}{A B C:World}(E:sb<n₀)(y:∀b,D b -> b<m)(h:KpC n₀ Bs D A B)(k:KxC Bs sb m B C):KxC Bs sb m A C:=
 ⟨k.box.trans h.box,k.sbk.trans (h.below.block sb E),fun b o h1 h2 r=>k.same b o (h.same b o h1 h2 (fun hd=>by have:=y b hd;omega)) h2 r⟩
theorem KxC.p {n₀ Bs sb m:Nat}{D:Nat -> Prop}{A B C:World}(E:sb<n₀)(y:∀b,D b -> b<m)(h:KxC Bs sb m A B)(k:KpC n₀ Bs D B C):KxC Bs sb m A C:=
 ⟨k.box.trans h.box,(k.below.block sb E).trans h.sbk,fun b o h1 h2 r=>k.same b o (h.same b o h1 h2 r) h2 (fun hd=>by have:=y b hd;omega)⟩
theorem MW {A B:World}{b:Nat}(h:B.heap[b]?= A.heap[b]?)(i:Nat):B.cell? (aD b i)=A.cell? (aD b i):=World.cell?_of_block h
theorem Ge {F:Fence}{n:Nat}{P:Program}{r:Nat}{ops:Array Oper}{b:Bool}{Q:Exit -> Act -> World -> Prop}{a:Act}{w:World}(h:(Code.region r ops b).wpIn F n P (NoPanic Q) a w):(Code.region r ops b).wpIn F n P Q a w:=wpIn_mono h NoPanic.imp
theorem KpC.t {n₀ Bs:Nat}{D:Nat -> Prop}{A B C:World}(h:KpC n₀ Bs D A B)(k:KpC n₀ Bs D B C):KpC n₀ Bs D A C:=
 ⟨h.below.trans k.below,k.box.trans h.box,Qf h.size k.size,fun b o h1 h2 r=>k.same b o (h.same b o h1 h2 r) h2 r⟩
theorem KpC.b {n₀ Bs:Nat}{D:Nat -> Prop}{w:World}(G:n₀ <= w.heap.size)(M:Bs<w.heap.size)(W:World)(l:Nat)(o o':Obj)(E:w.heap.size <= l)(h:W.heap[l]?= some o)(y:o.isCells=false)(J:o.isWalk=false):KpC n₀ Bs D W (W.putObj l o'):=by
 refine⟨belowK_b G W l o o' E h y J,World.putObj_heap_other O,(grownBy_putObj' W l o').size,fun b N h1 h2 _=>?_⟩
 by_cases r:b=l
 · subst r
   rw[h]at h1
   cases h1
   rw[y]at h2
   cases h2
 · rw[World.putObj_heap_other r]
   exact h1
theorem KpC.of {n₀ Bs:Nat}{D:Nat -> Prop}{L L':List Blk}{A B:World}(h:Turn L A L' B)(N:n₀ <= A.heap.size)(J:Bs<A.heap.size)(y:∀b∈keys L,D b)(E:∀b,D b -> n₀ <= b /\ b≠Bs):KpC n₀ Bs D A B:=
 ⟨⟨h.os,h.tape,h.output,h.size,fun b M=>h.same b (Zt M N) (fun r=>by have:=(E b (y b r)).1;omega)⟩,
  h.same Bs J (fun r=>(E Bs (y Bs r)).2 rfl),h.size,fun b o h1 _ G=>(h.same b (Qk h1) (fun r=>G (y b r))).trans h1⟩
theorem Has.one {w:World}{b:Nat}{o:Obj}(h:w.heap[b]?= some o):Has w [(b,o)]:=⟨Yu.2 ⟨by simp,List.nodup_nil⟩,fun y o' r=>by
 obtain⟨rfl,rfl⟩:=Prod.mk.inj (Qa.1 r);exact h⟩
def Mr (c:Ce):Array Value:=#[.agg #[iV c.1,yV c.2.tag,iV c.2.typ,iV c.2.len,iV c.2.size]]
structure SpAt (w:World)(sb a aw tb:Nat)(W:List Nat)(tao:Option Addr)(tcap:Nat)(L:List Ty):Prop where
 c0:w.cell? (aD sb 0)=some (pt a)
 c1:w.cell? (aD sb 1)=some (pt tb)
 ar:ArAt w a aw W
 tab:TabAt w tb tao tcap L
 fields:Fields w
theorem SpAt.below {w w':World}{sb a G tb:Nat}{W:List Nat}{E:Option Addr}{y:Nat}{L:List Ty}(h:SpAt w sb a G tb W E y L)(r:Below w.heap.size w w'):SpAt w' sb a G tb W E y L:=
 ⟨(r.cell (p:=(aD sb 0)) (c_ w _ h.c0)).trans h.c0,(r.cell (p:=(aD sb 1)) (c_ w _ h.c1)).trans h.c1,h.ar.below r,h.tab.below r,range_below h.fields r⟩
theorem RR (n:Nat)(sb:Nat)(w:World):
  CallsIn Fence.wide n prog 80 #[pt sb] w fun e w'=>e=.returned (.func (.func 133) #[] #[pt w.heap.size]) /\ w'=w.alloc (bS sb):=by
 have r:Fence.wide.fn 80:= trivial;refine Xk func80 rfl r ?_ rfl;simp only[ntmps80,Z_,B_,Qj,Nat.reduceAdd,Nat.reduceSub,S_,R_,Qc,X_,L_,Qd]
 gi_wp2
 go_ret;exact⟨rfl,rfl⟩
theorem S5 (n:Nat)(hn:2 <= n)(wb:World)(sb a aw tb:Nat)(W:List Nat)(aT:Option Addr)(au:Nat)(L:List Ty)(hA:SpAt wb sb a aw tb W aT au L)(hf:W.length <= 65536)(hu:∀v∈W,v<18446744073709551616)(aM:∀t∈L,TyIn t)(hL:L.length <= 1000)
  (cs:List Ce)(hC:Chain L W 0 cs (W.length/2))(Bs:Nat)(D:Nat -> Prop)(w:World)(aJ:∀b,D b -> b<w.heap.size)(hw:Below wb.heap.size wb w)(am:w.heap[Bs]?= some (bS sb)):
  Q7 Fence.wide n prog 133 #[pt Bs] Mr (KpC wb.heap.size Bs D) (KxC Bs sb w.heap.size) (fun pre x=>∃N,cs=pre++x::N) (fun xs=>xs=cs) w:=fun l J Jx W0 hW hJ b9 hY h0=>by
 have b7:Bs<w.heap.size:=Qk am;have aF:W0.heap[Bs]?= some (bS sb):=(hW.block Bs b7).trans am;have aS:Below wb.heap.size wb W0:=hw.trans (hW.mono hw.size);have ba:=hW.size;have a5:=uh hw.size;have a5:=uh hw.size;have a5:=uh hw.size;have a5:=uh hw.size;have b8:Fence.wide.fn 133:= trivial;have be:Fence.wide.fn 67:= trivial;have bf:Fence.wide.fn 83:= trivial;have bg:Fence.wide.fn 85:= trivial;refine Xk func133 rfl b8 ?_ rfl;simp only[ntmps133,Z_,B_,Qj,Nat.reduceAdd,Nat.reduceSub,S_,R_,Qc,X_,L_,Qd];have h1:1 <= n:=O;have y:Fence.wide.round=none:=rfl;have h2:1 <= n-1:=O;have HY:=uh hY;have HJ:=uh hJ;have ab:=Gr;have ae:=uh (fun w' (hB:Below wb.heap.size wb w')=>Rk w' (hA.below hB).c0 (hA.below hB).ar hf);have b6:=uh (fun w' (hB:Below wb.heap.size wb w') (g:Int)=>Wb w' (hA.below hB).fields (hA.below hB).ar hu g);have b5:=uh (fun w' (hB:Below wb.heap.size wb w') h hi=>ZU w' (hA.below hB).fields L aM hL tb aT au (hA.below hB).tab h hi);have HA:=uh hA;have HC:=uh hC;have aW:=hC.len;obtain⟨z,hz⟩:∃z:Nat,W.length/2=z:=⟨_,rfl⟩;have bj:z <= 32768:=O;rw[hz]at ae HC aW;have aE:=uh aS;have ay:=uh aF
 have aZ:=uh aJ;clear hY hJ b9 hW hw am aF aS hA hu aM hC aJ
 gi_wp2_with fail
 gi_loopw [3] (fun v3 wr=>∃(pre N:List Ce) (g:Nat),cs=pre++N /\ v3=iV g /\ Chain L W g N z /\ J pre wr /\ Below wb.heap.size wb wr /\ wr.heap[Bs]?= some (bS sb) /\ w.heap.size <= wr.heap.size) (fun v3 _=>z+1-(intOf v3).toNat)
 case atStart=>exact⟨[],cs,0,rfl,by go_num,HC.out,h0,aE.out,ay.out,ba⟩
 case round=>
  clear HC h0 aE ay;obtain⟨pre,N,g,a6,rfl,aP,ag,a2,a8,ah⟩:=hrel;have an:Has wr [(Bs,bS sb)]:=Has.one a8;have ap:wr.cell? (aD Bs 0)=some (pt sb):=an.cell (d_ ..) 0;have a9:=HA.out.below a2;have q0:=a9.c0
  cases N with
  | nil=>
   obtain rfl:g=z:=aP;rw[p_]at a6;have HX:=uh (⟨a6.symm,ag⟩:pre=cs /\ J pre wr);have Hg:=uh (ae.out wr a2);have bh:¬(g:Int)<(g:Int):=O;clear ag a9 an a6 a2 a8
   gi_wp2_with (gi_at_call 67;refine(N_.2 Hg.out).mono ?_;rintro e w' ⟨rfl,hw⟩;rw[hw];clear hw w')
   go_end0;exact⟨⟨_,rfl⟩,.inl ⟨pre,HX.out.1,HX.out.2⟩⟩
  | cons c N=>
   obtain⟨cg,h⟩:=c;obtain⟨aN,aa,a4⟩:=aP;simp only at aN aa a4;subst aN;have aX:=aa.pos;have ax:cg+h.size <= z:=a4.le;obtain⟨e1,e2,e3,e4⟩:=L6 aa;have aq:=aa.2.1.1;have af:=uh (b6.out wr a2 cg);rw[e1,e2]at af;simp only[Zc]at af;have az:=uh (fun w' (hB:Below wr.heap.size wr w')=>b5.out w' (a2.trans (hB.mono (Qf a5.out ah))) h (M8 aq));rw[e3]at az;have ak:=uh (fun W1=>HY.out pre (cg,h) W1 ⟨N,a6⟩);unfold Mr at ak;have aU:=uh (fun w' X (V:Turn [] wr X w')=>ae.out w' (a2.trans (V.below.mono (Qf a5.out ah))));obtain⟨xa,xb,xc,M⟩:=h;simp only at aX ax ak;have aQ:=GP ⟨xa,xb,xc,M⟩;simp only at aQ;have k1:IntKind.i64.wrap ((z:Int)-(cg:Int))=(z:Int)-(cg:Int):=i64_in _ O;have k2:decide (((z:Int)-(cg:Int))<(M:Int))=false:=b_ O;have k3:¬((z:Int)-(cg:Int))<(M:Int):=O;have k4:(cg:Int)<(z:Int):=O;have av:=uh a4;have b3:=uh a6;have b0:=uh ag;have Hg:=uh (ae.out wr a2);have aL:=uh (r_ (C_ wr))
   have HS:=uh (fun w' G (V:Turn [] wr [(G,.cells #[yV xa,iV xb,iV xc,iV M] 125)] w')=>
    (⟨(V.below.cell (p:=(aD Bs 0)) (c_ wr _ ap)).trans ap,(V.below.cell (p:=(aD sb 1)) (c_ wr _ a9.c1)).trans a9.c1,V.range1⟩:w'.cell? (aD Bs 0)=some (pt sb) /\ w'.cell? (aD sb 1)=some (pt tb) /\ w'.rangeAt G 0 [yV xa,iV xb,iV xc,iV M]))
   have aY:sb<wb.heap.size:=c_ wb _ HA.out.c0
   have aj:=uh (fun Z w' G (k:KpC wb.heap.size Bs D w' Z) (V:Turn [] wr [(G,.cells #[yV xa,iV xb,iV xc,iV M] 125)] w')=>by
    have h:=HS.out w' G V;have h9:G∉[] -> wr.heap.size <= G:=fun _=>(V.new G (by simp[keys])).resolve_left (by simp[keys]);have h8:=k.same G _ (V.has.own _ _ (d_ ..)) rfl (fun hd=>by have:=aZ.out G hd;have:=h9 (by simp);omega);exact(⟨(MW k.box 0).trans h.1,(k.below.cell (p:=(aD sb 1)) aY).trans h.2.1,(Has.one h8).range (d_ ..)⟩:Z.cell? (aD Bs 0)=some (pt sb) /\ Z.cell? (aD sb 1)=some (pt tb) /\ Z.rangeAt G 0 [yV xa,iV xb,iV xc,iV M]))
   have aB:=uh (fun Z w' G (k:KxC Bs sb w.heap.size w' Z) (V:Turn [] wr [(G,.cells #[yV xa,iV xb,iV xc,iV M] 125)] w')=>by
    have h:=HS.out w' G V;have h9:wr.heap.size <= G:=(V.new G (by simp[keys])).resolve_left (by simp[keys]);have h8:=k.same G _ (V.has.own _ _ (d_ ..)) rfl O;exact(⟨(MW k.box 0).trans h.1,(MW k.sbk 1).trans h.2.1,(Has.one h8).range (d_ ..)⟩:Z.cell? (aD Bs 0)=some (pt sb) /\ Z.cell? (aD sb 1)=some (pt tb) /\ Z.rangeAt G 0 [yV xa,iV xb,iV xc,iV M]))
   have b1:=uh (fun Z w' G (hj:J (pre++[(cg,⟨xa,xb,xc,M⟩)]) Z) (k:KpC wb.heap.size Bs D w' Z) (V:Turn [] wr [(G,.cells #[yV xa,iV xb,iV xc,iV M] 125)] w')=>
    (⟨hj,(a2.trans (V.below.mono (Qf a5.out ah))).trans k.below,k.box.trans ((V.below.block Bs (Qk a8)).trans a8),Qf ah (Qf V.size k.size)⟩:J (pre++[(cg,⟨xa,xb,xc,M⟩)]) Z /\ Below wb.heap.size wb Z /\ Z.heap[Bs]?= some (bS sb) /\ w.heap.size <= Z.heap.size))
   clear ag a9 an a6 a2 a8 a4 aa e1 e2 e3 e4 aq HY
   gi_wp2_with (first
    | (gi_at_call 67;refine(N_.2 Hg.out).mono ?_;rintro e w' ⟨rfl,hw⟩;rw[hw];clear hw w')
    | (gi_at_call 83;refine(N_.2 af.out).mono ?_;rintro e w1 ⟨rfl,aG⟩;have T2:=(aL.out.call aG).alloc zH;have aR:(w1.alloc zH).there w1.heap.size 0 4:=T2.there1;have aC:=uh (T2.laid [yV xa,iV xb,iV xc,iV M] rfl);clear aG T2)
    | (show wpListIn _ _ _ _ _ (⟨_,Op.store 125 _ _,_,_,_,_⟩::_) _ _;refine Gj (Gc _ _) rfl (by intro c h;cases h) (wp_store_mid 125 _ _ rfl _ 0 #[yV xa,iV xb,iV xc,iV M] rfl rfl aR ab aQ ?_);clear aR)
    | fail)
   generalize(w1.alloc zH).setCells w1.heap.size 0 [yV xa,iV xb,iV xc,iV M]=w5 at*;generalize w1.heap.size=G at*;have ac:=uh aC.out.drew;have a1:=HS.out _ _ ac.out;have aA:=uh (az.out _ ac.out.below);have b2:=ak;clear aC q0 ap Hg af aL;refine Ge ?_;refine Bh (S:=fun W'=>W'.cell? (aD Bs 0)=some (pt sb) /\ W'.cell? (aD sb 1)=some (pt tb) /\ W'.rangeAt G 0 [yV xa,iV xb,iV xc,iV M]) 28 ?_;refine Jr 0 19 y a1 ?_;refine Jr 1 20 y a1 ?_;refine Jr 2 21 y a1 ?_;refine N6 3 22 y a1 (fun w U=>U.1) ?_;refine Jr 4 23 y a1 ?_;refine Jr 5 24 y a1 ?_;refine N6 6 25 y a1 (fun w U=>U.2.1) ?_;refine NU 7 26 y rfl rfl (by rfl) kr kr kr (fun _ _ _ _ h=>h) a1 (fun _=>rfl) (fun w' U=>Xa 125 _ rfl G 0 rfl [yV xa,iV xb,iV xc,iV M] _ U.2.2 underlying125 rfl ab) ?_;simp only[G7,G6];refine Ga (i:=8) kr rfl (fun K hK=>?_)
   go_simp
   refine(N_.2 aA.out).mono ?_;rintro e w6 ⟨rfl,aH⟩;have a3:=uh (ac.out.call aH);have E:=HS.out _ _ a3.out;clear aH aA ac a1;refine hK.out _ _ E ?_;clear hK K;simp only[Gb,G7,G6];refine Jr 9 28 y E ?_;refine Jr 10 29 y E ?_;refine Jr 11 30 y E ?_;refine Jr 12 31 y E ?_;refine N6 13 32 y E (fun w U=>U.2.2 3 _ rfl) ?_;refine N6 14 33 y E (fun w U=>U.1) ?_;refine Jr 16 35 y E ?_;refine Ga (i:=15) kr rfl (fun K hK=>?_)
   go_simp
   refine(N_.2 (aU.out _ _ a3.out)).mono ?_;rintro e w7 ⟨rfl,bc⟩;subst bc;refine hK.out _ _ E ?_;clear hK K;simp only[Gb,G7,G6];refine Jr 17 36 y E ?_;refine Jr 18 37 y E ?_;refine Jr 19 38 y E ?_;refine Jr 20 39 y E ?_;refine Jr 21 40 y E ?_;refine Jr 22 41 y E ?_;refine NU 23 42 y rfl rfl (by rfl) kr kr kr (fun _ _ _ _ h=>h) E (fun _=>rfl) (fun w' U=>Xa 125 _ rfl G 0 rfl [yV xa,iV xb,iV xc,iV M] _ U.2.2 underlying125 rfl ab) ?_;simp only[G7,G6];refine Jr 24 43 y E ?_;obtain⟨fn,tmps,assign,body,hy,hR⟩:=b2.out _ (HJ.out pre wr _ none b0.out (Gn a3.out.below) (fun r e=>by cases e));have HR:=uh hR;clear hR;refine Ga (i:=25) kr rfl (fun K hK=>?_)
   go_simp
   refine HR.out.mono ?_;rintro e Z (⟨rfl,aK,a7⟩|⟨rfl,aV,a7⟩)
   · have a0:=aj.out _ _ _ a7 a3.out
     refine hK.out _ _ a0 ?_;clear hK K;simp only[Gb,G7,G6];refine Jr 26 45 y a0 ?_;refine Jr 27 46 y a0 ?_;refine Gx kr ?_ _;refine z_ ?_;have bd:=a0.2.2 3 _ rfl;have HN:=uh (b1.out _ _ _ aK a7 a3.out);clear a0 E a3 HS aj aK a7 HR hy
     gi_wp2_with fail
     go_roundw
     case rel=>exact⟨pre++[(cg,⟨xa,xb,xc,M⟩)],N,cg+M,by rw[b3.out];simp,by go_num,av.out,HN.out.1,HN.out.2.1,HN.out.2.2.1,HN.out.2.2.2⟩
     case measure=>simp[intOf];omega
   · have a0:=aB.out _ _ _ a7 a3.out
     refine hK.out _ _ a0 ?_;clear hK K;simp only[Gb,G7,G6];refine Jr 26 45 y a0 ?_;refine Jr 27 46 y a0 ?_;refine Gx kr ?_ _;refine z_ ?_;clear a0 E a3 HS aj aB a7 HR hy
     gi_wp2_with fail
     refine f_ (Zg rfl _ _ _) rfl ?_;exact⟨⟨_,rfl⟩,.inr ⟨_,aV⟩⟩
end
section
open Go Go.RowKit Go.IntWalk
def M4 (c:Ce)(g sz:Nat):Prop:=c.2.tag≠1 /\ c.1 <= g /\ g<c.1+c.2.size /\ g+sz <= c.1+c.2.size
theorem g4 {w0:World}(w:World){rb lcap:Nat}{lao:Option Addr}{W:List Nat}{L:List Ty}{l R:List Blk}(hI:Ks rb lao L.length lcap W l)(T:Turn [] w0 (l++R) w)(J:Src w0 lao L.length lcap 3 (tys L))(ae:∀t∈L,TyIn t)(hL:L.length <= 1000)(hf:W.length <= 65536)
  (hu:∀v∈W,v<18446744073709551616)(cs:List Ce)(hC:Chain L W 0 cs (W.length/2))(g G n sz:Nat)(he:GH L G n=0)(hs:GY L G n=sz)(hm:(Hd.mk 1 G n sz).may)(hg:g<W.length/2)(Qp:Ending -> World -> Prop)
  (HY:Hid (∀c∈cs,M4 c g sz -> ∀w' l',Ks rb lao L.length lcap (Mm W c g ⟨1,G,n,sz⟩) l' -> Turn [] w0 (l'++R) w' -> Qp (.returned (iV 0)) w'))
  (HN:Hid ((∀c∈cs,¬M4 c g sz) -> ∀w',Turn [] w0 (l++R) w' -> Qp (.returned (iV 3)) w')):
  Calls prog 151 #[pt rb,iV g,iV G,iV n] w Qp:=by
 have b2:=Gr;have aA:=LQ;have ab:=uh (fun w' (hB:Below w0.heap.size w0 w')=>jb w' L ae hL lao lcap (J.below hB) G n);unfold KB at ab;rw[he,v_ rfl,hs]at ab;have av:=uh (fun w' (X:List Blk) (V:Turn [] w0 (l++X) w')=>hI.at_ V.has (J.below V.below));obtain⟨ao,cap,lr,az,rfl⟩:=hI;have a9:=uh (fun w' (X:List Blk) (V:Turn [] w0 (X++(((rb,rN ao W cap lao L.length lcap)::lr)++R)) w')=>(az.src (R:=X++((rb,rN ao W cap lao L.length lcap)::R)) (V.has.perm po)));have an:=uh (fun w' (ao:Option Addr) (cap:Nat) (hR:RefAt w' rb ao cap W lao lcap L)=>Bc w' hR hf hu ae hL cs hC);have aa:=uh (fun w' (hB:Below w0.heap.size w0 w') (a6:Src w' ao W.length cap 1 (u64s W)) (hr:g+sz <= W.length/2)=>gA w' ao cap a6 hf L ae hL lao lcap (J.below hB) g G n sz he hs hm hr);have c1:w.cell? (aD rb 1)=some (.slice lao L.length lcap):=T.cell1 1;have b1:=GP ⟨1,G,n,sz⟩;have HT:=uh T;have au:=uh (fun c (h:c∈cs)=>hC.mem c h);have aV:((W.length:Int)).tdiv 2=((W.length/2:Nat):Int):=GC _ 2;have aE:(W.length:Int)/2=((W.length/2:Nat):Int):=O;have aW:=hC.len;obtain⟨z,hz⟩:∃z:Nat,W.length/2=z:=⟨_,rfl⟩;have bn:z <= 32768:=O;rw[hz]at aV aE hg aa au aW;have bk:1 <= sz:=hm.1;have bj:sz<16777216:=hm.2.1;have aX:¬(z:Int) <= (g:Int):=O;have b9:decide ((z:Int) <= (g:Int))=false:=b_ aX;have ba:¬z <= g:=O;have be:decide ((g:Int)<0)=false:=b_ O
 clear T J ae az he hs hm hu hC
 go_enter func151,ntmps151
 go_wp2_with fail
 refine(ab.out _ HT.out.below).mono ?_;rintro e w1 ⟨rfl,aL⟩;have T2:=(HT.out.call aL).alloc zH;have a8:(w1.alloc zH).there w1.heap.size 0 4:=T2.there1;have T3:=T2.laid [yV 1,iV G,iV n,iV sz] rfl;have c0:=T3.cell2 0;have Z:=uh T3;clear T2 T3 aL HT ab
 go_wp2_with (first
  | (show sW 125;refine h_ rfl 125 _ _ rfl _ 0 #[yV 1,iV G,iV n,iV sz] rfl rfl a8 b2 b1 ?_;clear a8)
  | fail)
 obtain⟨bd,b6,aQ⟩:=av.out _ ((w1.heap.size,.cells #[yV 1,iV G,iV n,iV sz] 125)::R) (Z.out.perm po);refine(an.out _ _ _ aQ).mono ?_;clear aQ an av;rintro e w2 ⟨bc,bp,U,rfl,a7,T4⟩;have aj:=uh (Z.out.grow T4);have aq:=uh a7;clear T4 Z a7 c0 c1
 go_wp2_with fail
 have HF:=uh (fun(h:0<cs.length)=>((aq.out.src aj.out.has).form (by rw[GW];omega)))
 go_loopw [12] (fun aB wr=>∃i:Nat,i <= cs.length /\ aB=iV i /\ Turn [] w0 (U++((w1.heap.size,.cells #[yV 1,iV G,iV n,iV sz] 125)::((rb,rN ao W cap lao L.length lcap)::lr++R))) wr /\ ∀c∈cs.take i,¬M4 c g sz) (fun aB _=>cs.length-(intOf aB).toNat)
 case atStart=>exact⟨0,u_ _,by go_num,aj.out,by simp⟩
 case round=>
  clear aj;obtain⟨i,hi,rfl,T,a3⟩:=hrel
  by_cases b0:i<cs.length
  · have b8:(i:Int)<(cs.length:Int):=O
    obtain⟨c,hc⟩:∃c,cs[i]?= some c:=⟨cs[i],a_ b0⟩;have ax:c∈cs:=q_ hc;have af:=au.out c ax;obtain⟨b,off,rfl,-⟩:=HF.out O;have aT:=(aq.out.src T.has).ce hc;have aU:cs.take (i+1)=cs.take i++[c]:=(by rw[Qr,hc];rfl);have ag:=af.2.2.2.1.1;obtain⟨r,⟨E,M,N,y⟩⟩:=c;have T1:=T.alloc (.cells #[iV 0,yV 0,iV 0,iV 0,iV 0] 127);have a8:(wr.alloc (.cells #[iV 0,yV 0,iV 0,iV 0,iV 0] 127)).there wr.heap.size 0 5:=T1.there1;have T2:=T1.laid [iV r,yV E,iV M,iV N,iV y] rfl;have a2:=uh T2;have d0:=T2.cell1 0;have d1:=T2.cell1 1;have d4:=T2.cell1 4;have e3:=T2.has.cell (b:=w1.heap.size) (c:=#[yV 1,iV G,iV n,iV sz]) (e:=125) (f:=(0,0)) (by simp) 3;have aS:=Rb (r,⟨E,M,N,y⟩);simp only at aS;have bm:y<16777216:=(by have:=ag.2.1;exact this);have b7:r <= 32768:=(by have:=af.2.1;simp only at this;omega);have bg:(i:Int) <= 65536:=O;have b3:r+y <= z:=(by have:=af.2.1;simpa using this);have ay:=uh ax;clear T T1 T2 af hc ax ag
    go_upto_region 11 with(first
     | (show lW 127;refine J_ rfl 127 _ rfl b (off+i*5) rfl [iV r,yV E,iV M,iV N,iV y] _ aT underlying127 rfl aA ?_;clear aT)
     | (show sW 127;refine h_ rfl 127 _ _ rfl _ 0 #[iV r,yV E,iV M,iV N,iV y] rfl rfl a8 aA aS ?_;clear a8)
     | fail)
    generalize(wr.alloc (.cells #[iV 0,yV 0,iV 0,iV 0,iV 0] 127)).setCells wr.heap.size 0 [iV r,yV E,iV M,iV N,iV y]=wq at*;generalize wr.heap.size=bq at*
    by_cases a1:M4 (r,⟨E,M,N,y⟩) g sz
    · have aJ:=uh (HY.out _ ay.out a1)
      obtain⟨h1,h2,h3,h4⟩:=a1;simp only at h1 h2 h3 h4;have k1:((E:Int) == 1)=false:=(by rw[j_];omega);have k2:(E == 1)=false:=(by rw[j_];exact h1);have k3:decide ((g:Int)<(r:Int))=false:=b_ O;have k4:decide (g<r)=false:=b_ O;have k5:decide ((r:Int)+(y:Int) <= (g:Int))=false:=b_ O;have k6:decide (r+y <= g)=false:=b_ O;have k7:decide ((r:Int)+(y:Int)-(g:Int)<(sz:Int))=false:=b_ O;clear h1 a3 ay HY HN au HF hi
      go_upto_region 12 with fail
      clear d0 d1 d4 e3 k1 k2 k3 k4 k5 k6 k7;have HD:=a2.out.drew;clear a2;refine J1 (fun W'=>Turn [] w0 ((bq,.cells #[iV r,yV E,iV M,iV N,iV y] 127)::(U++((w1.heap.size,.cells #[yV 1,iV G,iV n,iV sz] 125)::((rb,rN ao W cap lao L.length lcap)::lr++R)))) W'.drew) HD fun W1 T1=>?_;clear HD
      have ap:=uh (fun w' (lx:List Blk) (V:Turn [] w0 (lx++((bq,.cells #[iV r,yV E,iV M,iV N,iV y] 127)::(U++((w1.heap.size,.cells #[yV 1,iV G,iV n,iV sz] 125)::((rb,rN ao W cap lao L.length lcap)::lr++R))))) w')=>
       (⟨V.has.cell (b:=rb) (c:=#[.slice ao W.length cap,.slice lao L.length lcap]) (e:=62) (f:=(0,0)) (by simp) 0,V.has.cell (b:=rb) (c:=#[.slice ao W.length cap,.slice lao L.length lcap]) (e:=62) (f:=(0,0)) (by simp) 1⟩:w'.cell? (aD rb 0)=some (.slice ao W.length cap) /\ w'.cell? (aD rb 1)=some (.slice lao L.length lcap)))
      have J:=ap.out _ [] T1;have Hm:=uh (aa.out _ T1.below (a9.out _ ((bq,.cells #[iV r,yV E,iV M,iV N,iV y] 127)::(U++[(w1.heap.size,.cells #[yV 1,iV G,iV n,iV sz] 125)])) (T1.perm po)) O);have aH:=uh T1;clear T1 aa a9;refine F_ ?_;refine rG (S:=fun W'=>W'.cell? (aD rb 0)=some (.slice ao W.length cap) /\ W'.cell? (aD rb 1)=some (.slice lao L.length lcap)) 17 ?_;refine G2 0 87 J ?_;refine G2 1 88 J ?_;refine G2 2 89 J ?_;refine Jt 3 90 J (fun w a6=>a6.1) ?_;refine G2 4 91 J ?_;refine G2 5 92 J ?_;refine G2 6 93 J ?_;refine Jt 7 94 J (fun w a6=>a6.2) ?_;refine G2 8 95 J ?_;refine G2 9 96 J ?_;refine G2 10 97 J ?_;refine G5 11 (fun K hK=>?_)
      go_simp
      refine Hm.out.mono ?_;rintro e W3 ⟨ac,a5,l8,rfl,ah,T3⟩;have Z:=uh (aH.out.grow T3);have aK:=uh ah;have a0:=ap.out _ _ Z.out;clear T3 ah aH Hm J;refine hK.out _ _ a0 fun _=>?_;clear hK K;simp only[Gb,G7,G6];refine G2 12 86 a0 ?_;refine G2 13 99 a0 ?_;refine G2 14 100 a0 ?_;refine G2 15 14 a0 ?_;refine G2 16 15 a0 ?_;refine P_ kr ?_ _;refine z_ ?_;clear a0 ap;have T4:=Z.out.perm (l2:=(rb,rN ao W cap lao L.length lcap)::(l8++((bq,.cells #[iV r,yV E,iV M,iV N,iV y] 127)::(U++((w1.heap.size,.cells #[yV 1,iV G,iV n,iV sz] 125)::(lr++R)))))) po;clear Z;have c0:=T4.cell1 0;have f0:=T4.free1 0;have T5:=T4.setCell 0 (.slice ac W.length a5);have ak:=uh (T5.perm (l2:=((rb,.cells #[.slice ac W.length a5,.slice lao L.length lcap] 62)::l8)++((bq,.cells #[iV r,yV E,iV M,iV N,iV y] 127)::(U++((w1.heap.size,.cells #[yV 1,iV G,iV n,iV sz] 125)::(lr++R))))) po);clear T4 T5;have aM:Ks rb lao L.length lcap (mk W g ⟨1,G,n,sz⟩) ((rb,.cells #[.slice ac W.length a5,.slice lao L.length lcap] 62)::l8):=⟨ac,a5,l8,by rw[Kh];exact aK.out,by first|rw[Kh]|simp[Kh]⟩;have aF:=uh aM;clear aM aK
      have Hb:=uh (fun w' (lx:List Blk) (V:Turn [] w0 (lx++((bq,.cells #[iV r,yV E,iV M,iV N,iV y] 127)::(U++((w1.heap.size,.cells #[yV 1,iV G,iV n,iV sz] 125)::(lr++R))))) w')=>
       (⟨V.has.cell (b:=bq) (c:=#[iV r,yV E,iV M,iV N,iV y]) (e:=127) (f:=(0,0)) (by simp) 0,V.has.cell (b:=bq) (c:=#[iV r,yV E,iV M,iV N,iV y]) (e:=127) (f:=(0,0)) (by simp) 4,V.has.cell (b:=w1.heap.size) (c:=#[yV 1,iV G,iV n,iV sz]) (e:=125) (f:=(0,0)) (by simp) 3⟩:
         w'.cell? (aD bq 0)=some (iV r) /\ w'.cell? (aD bq 4)=some (iV y) /\ w'.cell? (aD w1.heap.size 3)=some (iV sz)))
      obtain⟨d0,d4,e3⟩:=Hb.out _ _ ak.out;have b4:(g:Int)-(r:Int)=((g-r:Nat):Int):=O;have b5:(r:Int)+(y:Int)-(g:Int)-(sz:Int)=((r+y-g-sz:Nat):Int):=O;have bf:g <= 32768:=O
      go_wp2_with fail
      refine(AH _ aF.out ak.out (by rw[Kh];exact hf) r (g-r) (by rw[Kh];omega)).mono ?_;rintro e W6 ⟨⟨u,rfl⟩,l6,aN,T6⟩;have am:=uh T6;have aG:=uh aN;clear T6 aN aF ak d0 d4 e3;obtain⟨d0,d4,e3⟩:=Hb.out _ _ am.out
      go_wp2_with fail
      have HL:=AH _ aG.out am.out (by rw[Gz,Kh];exact hf) (g+sz) (r+y-g-sz) (by rw[Gz,Kh];omega);rw[Int.natCast_add]at HL;refine HL.mono ?_;clear HL;rintro e W7 ⟨⟨u,rfl⟩,l7,aP,T7⟩;have aZ:=uh (aJ.out W7 l7 aP ((T7.perm (l2:=((bq,.cells #[iV r,yV E,iV M,iV N,iV y] 127)::(U++((w1.heap.size,.cells #[yV 1,iV G,iV n,iV sz] 125)::lr)))++(l7++R)) po).drop));clear T7 aP aG am d0 d4 e3 aJ
      go_wp2_with fail
      exact aZ.out
    · have a4:=uh (show ∀c∈cs.take (i+1),¬M4 c g sz by
        rw[aU];intro c hc;rcases s_.1 hc with h|h
        ·exact a3 c h
        ·rw[Qa.1 h];exact a1)
      have aC:E=1∨(E≠1 /\ g<r)∨(E≠1 /\ ¬g<r /\ r+y <= g)∨(E≠1 /\ ¬g<r /\ ¬r+y <= g /\ r+y<g+sz):=by
       by_cases h1:E=1
       ·exact .inl h1
       · by_cases h2:g<r
         ·exact .inr (.inl ⟨h1,h2⟩)
         · by_cases h3:r+y <= g
           ·exact .inr (.inr (.inl ⟨h1,h2,h3⟩))
           · exact .inr (.inr (.inr ⟨h1,h2,h3,by
               rcases Nat.lt_or_ge (r+y) (g+sz)with h4|h4
               ·exact h4
               ·exact absurd ⟨h1,by omega,by simp only;omega,by simp only;omega⟩ a1⟩))
      clear a3 aU a1 HY HN aa a9;rcases aC with h1|⟨h1,h2⟩|⟨h1,h2,h3⟩|⟨h1,h2,h3,h4⟩
      · have k1:((E:Int) == 1)=true:=by rw[Qx];omega
        have k2:(E == 1)=true:=(by rw[Qx];exact h1);clear h1
        go_wp2_with fail
        go_roundw
        case rel=>exact⟨i+1,by omega,by go_num,a2.out.tail,a4.out⟩
        case measure=>simp[intOf];omega
      · have k1:((E:Int) == 1)=false:=by rw[j_];omega
        have k2:(E == 1)=false:=(by rw[j_];exact h1);have k3:decide ((g:Int)<(r:Int))=true:=k_ O;have k4:decide (g<r)=true:=k_ h2;clear h1
        go_wp2_with fail
        go_roundw
        case rel=>exact⟨i+1,by omega,by go_num,a2.out.tail,a4.out⟩
        case measure=>simp[intOf];omega
      · have k1:((E:Int) == 1)=false:=by rw[j_];omega
        have k2:(E == 1)=false:=(by rw[j_];exact h1);have k3:decide ((g:Int)<(r:Int))=false:=b_ O;have k4:decide (g<r)=false:=b_ h2;have k5:decide ((r:Int)+(y:Int) <= (g:Int))=true:=k_ O;have k6:decide (r+y <= g)=true:=k_ h3;clear h1
        go_wp2_with fail
        go_roundw
        case rel=>exact⟨i+1,by omega,by go_num,a2.out.tail,a4.out⟩
        case measure=>simp[intOf];omega
      · have k1:((E:Int) == 1)=false:=by rw[j_];omega
        have k2:(E == 1)=false:=(by rw[j_];exact h1);have k3:decide ((g:Int)<(r:Int))=false:=b_ O;have k4:decide (g<r)=false:=b_ h2;have k5:decide ((r:Int)+(y:Int) <= (g:Int))=false:=b_ O;have k6:decide (r+y <= g)=false:=b_ h3;have k7:decide ((r:Int)+(y:Int)-(g:Int)<(sz:Int))=true:=k_ O;clear h1
        go_wp2_with fail
        go_roundw
        case rel=>exact⟨i+1,by omega,by go_num,a2.out.tail,a4.out⟩
        case measure=>simp[intOf];omega
  · have aR:i=cs.length:=O
    have bh:¬(i:Int)<(cs.length:Int):=O;have aY:=uh (HN.out (by rw[aR,D_]at a3;exact a3) wr ((T.perm (l2:=(U++[(w1.heap.size,.cells #[yV 1,iV G,iV n,iV sz] 125)])++(((rb,rN ao W cap lao L.length lcap)::lr)++R)) po).drop));clear T a3 HY HN aR
    go_wp2_with fail
    exact aY.out
end
section
open Go Go.RowKit Go.Shelf Go.IntWalk
attribute [local go_sem] Oper.semAt_some
theorem LR {F:Fence}{U:Nat}{P:Program}{ops:Array Oper}{Q:Exit -> Act -> World -> Prop}{o:Oper}{G:List Value}{r:List Deferred}{K:Act -> World -> Prop}{E:Prop}{w:World}(J:o.dst=none)(hg:o.guard=none)(ty:TypeId)(x y:Operand)(N:o.op=.store ty x y)
  (b off:Nat)(cells:Array Value)(hx:Act.eval { tmps:=G.toArray,defers:=r } x=.pointer (some (aD b off)))(hy:Act.eval { tmps:=G.toArray,defers:=r } y=.agg cells)
  (ht:w.there b off cells.size)(hi:(P.info? ty).map (·.size)=some cells.size)(h1:cells.all (·.oneCell')=true)(V:Follows F U P)(Z:K { tmps:=G.toArray,defers:=r } (w.setCells b off cells.toList)):
  if Region.wanted o (yielded ops (Act.tmps { tmps:=G.toArray,defers:=r }))=true then Oper.wpIn F U P o { tmps:=G.toArray,defers:=r } w K Q else E:=by
 have hw:Region.wanted o (yielded ops (Act.tmps { tmps:=G.toArray,defers:=r }))=true:=by simp[Region.wanted,hg]
 rw[v_ hw];refine V.op o _ w K Q (by intro c M;rw[N]at M;cases M) ?_;refine wp_store_mid ty x y N b off cells hx hy ht hi h1 ?_
 simpa [Act.put,J]using Z
theorem Un {F:Fence}{r:Nat}{P:Program}{c:Code}{Q:Exit -> Act -> World -> Prop}{a:Act}{w:World}{I:Nat -> World -> Prop}{FA:Nat -> Act}(h:c.wpIn F r P (fun e a w=>e=.normal /\ ∃b:Nat,a=FA b /\ I b w) a w)(hq:∀b w,I b w -> Q .normal (FA b) w):c.wpIn F r P Q a w:=
 wpIn_mono h fun e a w ⟨G,b,E,y⟩=>by subst G;subst E;exact hq b w y
def Gt (s sb:Nat)(g id n:Nat)(er:Value):List Blk:=
 [(s+1+1+1+1,.cells #[er] 37),(s+1+1+1,.cells #[iV n] 3),(s+1+1,.cells #[iV id] 3),(s+1,.cells #[iV g] 3),(s,bS sb)]
theorem Nc (s sb g E n:Nat)(y:Value):∀x∈Gt s sb g E n y,x.2.isCells=true:=by
 intro x r;simp only[Gt,t_,Zu,or_false]at r;rcases r with rfl|rfl|rfl|rfl|rfl<;>rfl
def U8 (sb a aw tb bb:Nat)(W B:List Nat)(lb:List Blk)(cw:Int)(cs:List Ce)(g id n sz z:Nat)(er:Int)(l':List Blk):Prop:=
 (er=3 /\ l'=G0 a aw W cw++(G1 sb a tb bb::lb) /\ ∀c∈cs,¬M4 c g sz)∨
 (er=0 /\ ∃c∈cs,M4 c g sz /\ ∃(B':List Nat) (lb':List Blk) (cw':Int),Lg B B' g 1 /\ GD bb B' z lb' /\ l'=G0 a aw (Mm W c g ⟨1,id,n,sz⟩) cw'++(G1 sb a tb bb::lb'))
theorem Lf (a y:Nat)(W:List Nat)(n:Int):∀x∈G0 a y W n,x.2.isCells=true:=by
 intro x r;simp only[G0,t_,Zu,or_false]at r;rcases r with rfl|rfl<;>rfl
theorem U8.cells {sb a G tb bb:Nat}{W B:List Nat}{lb:List Blk}{J:Int}{cs:List Ce}{g U n sz z:Nat}{M:Int}{l':List Blk}(N:GD bb B z lb)(h:U8 sb a G tb bb W B lb J cs g U n sz z M l'):∀x∈l',x.2.isCells=true:=by
 have go:∀{W':List Nat} {c:Int} {B':List Nat} {y:List Blk},GD bb B' z y -> ∀x∈G0 a G W' c++(G1 sb a tb bb::y),x.2.isCells=true:=by
  intro W' c B' y E x r;rcases s_.1 r with r|r
  ·exact Lf _ _ _ _ x r
  · rcases t_.1 r with rfl|r
    ·rfl
    ·exact E.cells x r
 rcases h with⟨-,rfl,-⟩|⟨-,c,-,-,B',y,V,-,E,rfl⟩
 ·exact go N
 ·exact go E
theorem KxC.of {Bs sb m G:Nat}{y V Z:Obj}{X X':List Blk}{A B:World}(h:Turn ((G,y)::X) A ((G,y)::X') B)(J:Has A ((G,y)::X))(hX:∀b∈keys X,b<m)(h1:(Bs,V)∈X)(M:(Bs,V)∈X')(h2:(sb,Z)∈X)(N:(sb,Z)∈X'):KxC Bs sb m A B:=by
 refine⟨(h.has.own _ _ (V_ _ M)).trans (J.own _ _ (V_ _ h1)).symm,(h.has.own _ _ (V_ _ N)).trans (J.own _ _ (V_ _ h2)).symm,fun b o E _ e3=>?_⟩
 by_cases U:b=G
 · subst U
   rw[J.own _ _ (d_ ..)]at E
   cases E
   exact h.has.own _ _ (d_ ..)
 · refine(h.same b (Qk E) (fun r=>?_)).trans E
   simp only[keys,Zn,t_]at r;rcases r with r|r
   ·exact U r
   · have:=hX b r
     omega
theorem KpC.refl (n₀ Bs:Nat)(D:Nat -> Prop)(A:World):KpC n₀ Bs D A A:=⟨T_ _ _,rfl,g_ _,fun _ _ h _ _=>h⟩
theorem TY {L:List Ty}{W:List Nat}{g:Nat}:∀{cs:List Ce} {a e:Nat},Chain L W a cs e -> a <= g -> (∀c∈cs,c.1+c.2.size <= g) -> e <= g
 | [],_,_,h,ha,_=>by cases h;exact ha
 | c::cs,a,e,h,_,hc=>TY h.2.2 (by have:=hc c (d_ ..);have:=h.1;omega) (fun d hd=>hc d (V_ _ hd))
def GQ (x:Ce):Obj:=.cells #[iV x.1,yV x.2.tag,iV x.2.typ,iV x.2.len,iV x.2.size] 127
theorem ZG (nn:Nat)(hn:5 <= nn){w0:World}(w:World)(sb a aw tb bb:Nat){W B:List Nat}{lb R:List Blk}{cw:Int}(ae:Option Addr)(a2:Nat)(L:List Ty)(hA:SpAt w sb a aw tb W ae a2 L)(hB:GD bb B (W.length/2) lb)(bF:u64ok B)(bj:(W.length/2+63)/64 <= B.length)(aU:∀x∈R,x.2.isCells=true)
  (T:Turn [] w0 (G0 a aw W cw++(G1 sb a tb bb::lb)++R) w)(aW:TabAt w0 tb ae a2 L)(bk:Fields w0)(hf:W.length <= 65536)(hu:∀v∈W,v<18446744073709551616)(aX:∀t∈L,TyIn t)(hL:L.length <= 1000)
  (cs:List Ce)(hC:Chain L W 0 cs (W.length/2))(g E n sz:Nat)(he:GH L E n=0)(hs:GY L E n=sz)(hm:(Hd.mk 1 E n sz).may)(hg:g<W.length/2):
  CallsIn Fence.wide nn prog 25 #[pt sb,iV g,iV E,iV n] w fun e w'=>∃(er:Int) (l':List Blk),e=.returned (iV er) /\ Turn [] w0 (l'++R) w' /\ U8 sb a aw tb bb W B lb cw cs g E n sz (W.length/2) er l':=by
 have h1:1 <= nn:=O;have h2:1 <= nn-1-1:=O;have h3:Fence.wide.fn 25:= trivial;have h5:Fence.wide.fn 80:= trivial;have h6:Fence.wide.fn 79:= trivial;have h7:Fence.wide.fn 133:= trivial;have h8:Fence.wide.fn 67:= trivial;have N:Fence.wide.round=none:=rfl;have b1:=Gr;have aY:=GP ⟨1,E,n,sz⟩;simp only at aY;have aB:=uh (fun w' (hB:Below w.heap.size w w')=>FD w' L aX hL tb ae a2 (hA.below hB).tab E n);unfold KB at aB;rw[he,v_ rfl,hs]at aB;have ba:=uh (fun w' (hB:Below w.heap.size w w')=>Rk w' (hA.below hB).c0 (hA.below hB).ar hf);have T0:=(((((r_ (C_ w)).alloc (bS sb)).alloc (.cells #[iV g] 3)).alloc (.cells #[iV E] 3)).alloc (.cells #[iV n] 3)).alloc (.cells #[iV 0] 37);simp only[Y_]at T0;have aK:Hid (Turn [] w (Gt w.heap.size sb g E n (iV 0)) (((((w.alloc (bS sb)).alloc (.cells #[iV g] 3)).alloc (.cells #[iV E] 3)).alloc (.cells #[iV n] 3)).alloc (.cells #[iV 0] 37))):=uh T0
 have aG:∀w' (Y:List Blk),Turn [] w (Y++Gt w.heap.size sb g E n (iV 0)) w' -> w'.cell? (aD w.heap.size 0)=some (pt sb):=fun w' Y V=>V.has.cell (b:=w.heap.size) (c:=#[pt sb]) (e:=53) (f:=(0,0)) (by simp[Gt]) 0;have hq:=aG _ [] aK.out
 have HS:=uh (fun w' (Y:List Blk) (V:Turn [] w (Y++Gt w.heap.size sb g E n (iV 0)) w')=>(⟨aG w' Y V,(hA.below V.below).c1,
    V.has.cell (b:=w.heap.size+1+1) (c:=#[iV E]) (e:=3) (f:=(0,0)) (by simp[Gt]) 0,V.has.cell (b:=w.heap.size+1+1+1) (c:=#[iV n]) (e:=3) (f:=(0,0)) (by simp[Gt]) 0⟩:
    w'.cell? (aD w.heap.size 0)=some (pt sb) /\ w'.cell? (aD sb 1)=some (pt tb) /\ w'.cell? (aD (w.heap.size+1+1) 0)=some (iV E) /\ w'.cell? (aD (w.heap.size+1+1+1) 0)=some (iV n)))
 have b5:=uh (fun w' (Y:List Blk) (V:Turn [] w (Y++Gt w.heap.size sb g E n (iV 0)) w')=>(⟨aG w' Y V,V.has.cell (b:=w.heap.size+1) (c:=#[iV g]) (e:=3) (f:=(0,0)) (by simp[Gt]) 0⟩:
    w'.cell? (aD w.heap.size 0)=some (pt sb) /\ w'.cell? (aD (w.heap.size+1) 0)=some (iV g)))
 have b2:=uh (fun(l0 Lr:List Blk) (wa w':World) (c:Int) (V:Turn l0 wa (G0 a aw W c++Lr) w') (hF:Fields w') (hT:TabAt w' tb ae a2 L) (hr:g+sz <= W.length/2)=>QZ w' hF V hf L aX hL ae a2 hT g E n sz he hs hm hr);have HA:=uh hA;have HT:=uh T;have HB:=uh hB;have bt:=uh aW;have bx:=uh bk;have HC:=uh hC;have bM:W.length/2 <= 32768:=O;obtain⟨z,hz⟩:∃z:Nat,W.length/2=z:=⟨_,rfl⟩;rw[hz]at ba HB hg HC bj bM ⊢;have HZ:=uh hz;have k0:decide ((g:Int)<0)=false:=b_ O;have k1:decide ((z:Int) <= (g:Int))=false:=b_ O;have k2:decide (z <= g)=false:=b_ O;clear T0 hA T hB aW bk hC hz he hs aG;refine callsIn_of_wp_marks func25 rfl h3 ?_ N;simp only[ntmps25,Z_,B_,Qj,Nat.reduceAdd,Nat.reduceSub,S_,R_,Qc,X_,L_,Qd]
 gi_wp2_with fail
 have bA:=uh aK.out.drew;generalize((((w.alloc (bS sb)).alloc (.cells #[iV g] 3)).alloc (.cells #[iV E] 3)).alloc (.cells #[iV n] 3)).alloc (.cells #[iV 0] 37)=W1 at*;clear aK hq
 apply Un (I:=fun J w'=>Turn [] w ((J,.cells #[yV 1,iV E,iV n,iV sz] 125)::Gt w.heap.size sb g E n (iV 0)) w')
 case h=>
  have T1:=bA.out;have ac:=HS.out _ [] T1;refine Ge ?_;refine Bh (S:=fun W'=>W'.cell? (aD w.heap.size 0)=some (pt sb) /\ W'.cell? (aD sb 1)=some (pt tb) /\ W'.cell? (aD (w.heap.size+1+1) 0)=some (iV E) /\ W'.cell? (aD (w.heap.size+1+1+1) 0)=some (iV n)) 13 ?_;refine N6 0 17 N ac (fun w G=>G.1) ?_;refine Jr 1 18 N ac ?_;refine Jr 2 19 N ac ?_;refine N6 3 20 N ac (fun w G=>G.2.1) ?_;refine N6 4 21 N ac (fun w G=>G.2.2.1) ?_;refine N6 5 22 N ac (fun w G=>G.2.2.2) ?_;clear ac;generalize W1.drew=V0 at T1 ⊢;refine S3 (i:=6) (j:=10) kr rfl rfl (fun K Z=>?_) (fun K Z=>?_)
  · go_simp
    refine(N_.2 (aB.out _ T1.below)).mono ?_;rintro e V1 ⟨rfl,hB⟩;have T2:=T1.call hB;have a6:=HS.out _ [] T2;refine Z.out _ _ a6 ?_;clear Z K;simp only[Gb,G7,G6];refine Jr 7 16 N a6 ?_;refine Jr 8 24 N a6 ?_;refine Jr 9 25 N a6 ?_;refine Ga (i:=10) kr rfl (fun K Z=>?_)
    go_simp
    have T3:Turn [] w ([(V1.heap.size,zH)]++Gt w.heap.size sb g E n (iV 0)) (V1.alloc zH):=T2.alloc zH;have a7:=HS.out _ _ T3;refine Z.out _ _ a7 ?_;clear Z K;simp only[Gb,G7,G6];clear a7 a6 T2;generalize V1.alloc zH=V3 at*;generalize V1.heap.size=J at*;have af:=T3.there1;have U:=T3.laid [yV 1,iV E,iV n,iV sz] rfl;refine Ga (i:=11) kr rfl (fun K Z=>?_);refine LR rfl rfl 125 _ _ rfl _ 0 #[yV 1,iV E,iV n,iV sz] rfl rfl af b1 aY (Gc _ _) ?_;have aj:=HS.out _ [_] U;refine Z.out _ _ aj ?_;clear Z K;simp only[Gb,G7,G6];refine Jr 12 10 N aj ?_;refine Gx kr ?_ _;refine z_ ?_;exact⟨rfl,J,rfl,U⟩
  · go_simp
    have T2:Turn [] w ([(V0.heap.size,zH)]++Gt w.heap.size sb g E n (iV 0)) (V0.alloc zH):=T1.alloc zH;have a6:=HS.out _ _ T2;refine Z.out _ _ a6 ?_;clear Z K;simp only[Gb,G7,G6];clear a6;generalize V0.alloc zH=V2 at T2 ⊢;generalize V0.heap.size=J at T2 ⊢;refine Ga (i:=6) kr rfl (fun K Z=>?_)
    go_simp
    refine(N_.2 (aB.out _ T2.below)).mono ?_;rintro e V3 ⟨rfl,hB⟩;have T3:=T2.call hB;have a7:=HS.out _ [_] T3;refine Z.out _ _ a7 ?_;clear Z K;simp only[Gb,G7,G6];refine Jr 7 16 N a7 ?_;refine Jr 8 24 N a7 ?_;refine Jr 9 25 N a7 ?_;clear a7;have af:=T3.there1;have U:=T3.laid [yV 1,iV E,iV n,iV sz] rfl;refine Ga (i:=11) kr rfl (fun K Z=>?_);refine LR rfl rfl 125 _ _ rfl _ 0 #[yV 1,iV E,iV n,iV sz] rfl rfl af b1 aY (Gc _ _) ?_;have aj:=HS.out _ [_] U;refine Z.out _ _ aj ?_;clear Z K;simp only[Gb,G7,G6];refine Jr 12 10 N aj ?_;refine Gx kr ?_ _;refine z_ ?_;exact⟨rfl,J,rfl,U⟩
 case hq=>
  intro J w6 T5;have bC:=uh T5;have T6:Turn [] w ([(J,.cells #[yV 1,iV E,iV n,iV sz] 125)]++Gt w.heap.size sb g E n (iV 0)) w6.drew:=T5.drew;have a1:=b5.out _ _ T6;clear T5
  gi_wp2_with fail
  refine Ge ?_;refine Bh (S:=fun W'=>W'.cell? (aD w.heap.size 0)=some (pt sb) /\ W'.cell? (aD (w.heap.size+1) 0)=some (iV g)) 8 ?_;refine N6 0 29 N a1 (fun w G=>G.2) ?_;refine Jr 1 30 N a1 ?_;refine Jr 2 31 N a1 ?_;refine N6 3 32 N a1 (fun w G=>G.2) ?_;refine N6 4 33 N a1 (fun w G=>G.1) ?_;refine Ga (i:=5) kr rfl (fun K Z=>?_)
  go_simp
  refine(N_.2 (ba.out _ T6.below)).mono ?_;rintro e V6 ⟨rfl,bs⟩;rw[bs];clear bs V6;refine Z.out _ _ a1 ?_;clear Z K;simp only[Gb,G7,G6];refine Jr 6 35 N a1 ?_;refine Jr 7 36 N a1 ?_;refine Gx kr ?_ _;refine z_ ?_;have bJ:=a1.1;have T7:=(bC.out.alloc (bS sb)).drew;have bu:w6.heap.size<(w6.alloc (bS sb)).drew.heap.size:=by simp
  have b0:=T6.size;clear a1 HS b5 T6
  gi_wp2_with (first
   | (gi_at_call 80;refine(RR (nn-1) sb _).mono ?_;rintro e w' ⟨rfl,hw⟩;rw[hw];clear hw w')
   | fail)
  generalize(w6.alloc (bS sb)).drew=W0 at*;have T8:Turn [] w ((w6.heap.size,bS sb)::(J,.cells #[yV 1,iV E,iV n,iV sz] 125)::Gt w.heap.size sb g E n (iV 0)) W0:=T7;have bQ:w.heap.size <= w6.heap.size:=b0;clear T7 b0 bJ;generalize w6.heap.size=Bs at*;have bE:W0.heap[Bs]?= some (bS sb):=T8.has.own _ _ (d_ ..);have aZ:sb<w.heap.size:=c_ w _ HA.out.c0
  have ay:∀x∈(Bs,bS sb)::(J,.cells #[yV 1,iV E,iV n,iV sz] 125)::Gt w.heap.size sb g E n (iV 0),x.2.isCells=true:=by
   intro x hx;rcases t_.1 hx with rfl|hx
   ·rfl
   rcases t_.1 hx with rfl|hx
   ·rfl
   ·exact Nc _ _ _ _ _ _ x hx
  apply Mu (β:=Nat) N h1 (gf:=133) (lb:=#[pt Bs]) rfl h7 (enters_of func133 kr rfl)
   (S5 (nn-1) O w sb a aw tb W ae a2 L HA.out hf hu aX hL cs (by rw[HZ.out];exact HC.out) Bs (fun b=>w.heap.size <= b /\ b<W0.heap.size /\ b≠Bs) W0 (fun b h=>h.2.1) T8.below bE)
   (fun h k=>h.t k) (KpC.b T8.size bu) (fun h k=>h.x aZ (fun b hb=>hb.2.1) k) (fun h k=>h.p aZ (fun b hb=>hb.2.1) k) (T_ _ _) (fun _=>rfl)
   (fun pre W'=>(∀c∈pre,c.1+c.2.size <= g) /\ Turn [] w ((Bs,bS sb)::(J,.cells #[yV 1,iV E,iV n,iV sz] 125)::Gt w.heap.size sb g E n (iV 0)) W')
   (fun c pre W'=>c=.ret /\ ∃(er:Int) (l':List Blk),U8 sb a aw tb bb W B lb cw cs g E n sz z er l' /\ Turn [] w0 (Gt w.heap.size sb g E n (iV er)++(l'++R)) W')
   (fun x nb pre W'=>(∀c∈pre,c.1+c.2.size <= g) /\ Turn [] w ((nb,GQ x)::(Bs,bS sb)::(J,.cells #[yV 1,iV E,iV n,iV sz] 125)::Gt w.heap.size sb g E n (iV 0)) W')
   (fun s A D row ⟨e1,hT⟩ hg hr=>⟨e1,hT.grownB T8.size ay hg hr⟩)
   (fun c s A D row ⟨e0,er,l',e1,hT⟩ hg hr=>⟨e0,er,l',e1,hT.grownB (Qf HT.out.size T8.size) (fun x hx=>(s_.1 hx).elim (Nc _ _ _ _ _ _ x) (fun hx=>(s_.1 hx).elim (e1.cells HB.out x) (aU x))) hg hr⟩)
   (fun x nb s A D row ⟨e1,hT⟩ hg hr=>⟨e1,hT.grownB T8.size (by
     intro y hy;rcases t_.1 hy with rfl|hy
     ·rfl
     ·exact ay y hy) hg hr⟩)
   ⟨fun c hc=>(by cases hc),T8⟩
  case hassign=>
   rintro l1 pre x M bH ⟨e1,hT⟩;have T2:=hT.alloc (.cells #[iV 0,yV 0,iV 0,iV 0,iV 0] 127);have af:(M.alloc (.cells #[iV 0,yV 0,iV 0,iV 0,iV 0] 127)).there M.heap.size 0 5:=T2.there1;have bB:=uh (T2.laid [iV x.1,yV x.2.tag,iV x.2.typ,iV x.2.len,iV x.2.size] rfl);have HX:=uh (((r_ (C_ M)).alloc (.cells #[iV 0,yV 0,iV 0,iV 0,iV 0] 127)).laid [iV x.1,yV x.2.tag,iV x.2.typ,iV x.2.len,iV x.2.size] rfl);have bv:=LQ;have bq:=Rb x;have bn:w.heap.size <= M.heap.size:=hT.size;have bh:Bs<M.heap.size:=hT.has.lt (by simp[keys]);unfold Mr;clear T2 bH hT
   gi_wp2_with (first
    | (show wpListIn _ _ _ _ _ (⟨_,Op.store 127 _ _,_,_,_,_⟩::_) _ _;refine Gj (Gu _ _ _) rfl (by intro c h;cases h) (wp_store_mid 127 _ _ rfl _ 0 #[iV x.1,yV x.2.tag,iV x.2.typ,iV x.2.len,iV x.2.size] rfl rfl af bv bq ?_);clear af)
    | fail)
   have HK:=uh (⟨((KeepsOthers.alloc _ _).trans (GT _ _ _)).from _,KpC.of HX.out bn bh (fun b hb=>by cases hb) (fun b hb=>⟨hb.1,hb.2.2⟩)⟩:
    KeepsFrom W0.heap.size M ((M.alloc (.cells #[iV 0,yV 0,iV 0,iV 0,iV 0] 127)).setCells M.heap.size 0 [iV x.1,yV x.2.tag,iV x.2.typ,iV x.2.len,iV x.2.size]) /\
    KpC w.heap.size Bs (fun b=>w.heap.size <= b /\ b<W0.heap.size /\ b≠Bs) M ((M.alloc (.cells #[iV 0,yV 0,iV 0,iV 0,iV 0] 127)).setCells M.heap.size 0 [iV x.1,yV x.2.tag,iV x.2.typ,iV x.2.len,iV x.2.size]))
   clear HX bn bh bq;generalize(M.alloc (.cells #[iV 0,yV 0,iV 0,iV 0,iV 0] 127)).setCells M.heap.size 0 [iV x.1,yV x.2.tag,iV x.2.typ,iV x.2.len,iV x.2.size]=W3 at*;generalize M.heap.size=nb at*;exact⟨HK.out.1,HK.out.2,nb,rfl,e1,bB.out⟩
  case hbody=>
   rintro l1 pre x nb M ⟨bV,a8⟩ ⟨e1,hT⟩;have am:=HC.out;rw[a8]at am;obtain⟨aF,aH,ak⟩:=am.split;have bG:=TY aF (u_ _) e1;have bR:=ak.le;have bT:=aH.2.2;have q0:M.cell? (aD nb 0)=some (iV x.1):=hT.cell1 0;have q1:M.cell? (aD nb 1)=some (yV x.2.tag):=hT.cell1 1;have q4:M.cell? (aD nb 4)=some (iV x.2.size):=hT.cell1 4;have qg:M.cell? (aD (w.heap.size+1) 0)=some (iV g):=hT.has.cell (b:=w.heap.size+1) (c:=#[iV g]) (e:=3) (f:=(0,0)) (by simp[Gt]) 0;have q9:M.cell? (aD J 3)=some (iV sz):=hT.has.cell (b:=J) (c:=#[yV 1,iV E,iV n,iV sz]) (e:=125) (f:=(0,0)) (by simp) 3;have bL:x∈cs:=by rw[a8];simp
   by_cases aa:x.1+x.2.size <= g
   · have k3:decide ((x.1:Int)+(x.2.size:Int) <= (g:Int))=true:=k_ O
     have k4:decide (x.1+x.2.size <= g)=true:=k_ aa;have HX:=uh (⟨fun c hc=>(s_.1 hc).elim (e1 c) (fun h=>by rw[Qa.1 h];exact aa),hT.tail⟩:(∀c∈pre++[x],c.1+c.2.size <= g) /\ Turn [] w ((Bs,bS sb)::(J,.cells #[yV 1,iV E,iV n,iV sz] 125)::Gt w.heap.size sb g E n (iV 0)) M);have bK:x.1+x.2.size <= 32768:=O;clear hT e1 am aF aH ak a8 HC aa
     gi_wp2_with fail
     exact⟨KeepsFrom.refl _ _,KpC.refl _ _ _ _,HX.out.1,HX.out.2⟩
   · have k3:decide ((x.1:Int)+(x.2.size:Int) <= (g:Int))=false:=b_ O
     have k4:decide (x.1+x.2.size <= g)=false:=b_ aa;have bK:x.1+x.2.size <= 32768:=O;have ax:=(HT.out.grow hT);have TX:Turn ((nb,GQ x)::(((Bs,bS sb)::(J,.cells #[yV 1,iV E,iV n,iV sz] 125)::Gt w.heap.size sb g E n (iV 0))++(G0 a aw W cw++(G1 sb a tb bb::lb)++R))) M ((nb,GQ x)::(((Bs,bS sb)::(J,.cells #[yV 1,iV E,iV n,iV sz] 125)::Gt w.heap.size sb g E n (iV 0))++(G0 a aw W cw++(G1 sb a tb bb::lb)++R))) M:=r_ ax.has;have bc:=uh (fun b (hb:b∈keys (((Bs,bS sb)::(J,.cells #[yV 1,iV E,iV n,iV sz] 125)::Gt w.heap.size sb g E n (iV 0))++(G0 a aw W cw++(G1 sb a tb bb::lb)++R)))=>(HT.out.grow T8).has.lt hb);have aJ:=uh TX.has;have a9:=uh ax;have b7:=uh TX;clear TX ax
     by_cases a5:M4 x g sz
     · have⟨t1,t2,t3,t4⟩:=a5
       have k5:((x.2.tag:Int) == 1)=false:=(by rw[j_];omega);have k6:(x.2.tag == 1)=false:=(by rw[j_];exact t1);have k7:decide ((x.1:Int)+(x.2.size:Int)-(g:Int)<(sz:Int))=false:=b_ O;have aA:=uh (fun w' X (V:Turn ((nb,GQ x)::(((Bs,bS sb)::(J,.cells #[yV 1,iV E,iV n,iV sz] 125)::Gt w.heap.size sb g E n (iV 0))++(G0 a aw W cw++(G1 sb a tb bb::lb)++R))) M X w')=>(⟨range_below bx.out (a9.out.trans V).below,bt.out.below (a9.out.trans V).below⟩:Fields w' /\ TabAt w' tb ae a2 L));have ab:=uh ((b7.out.perm (l2:=G0 a aw W cw++((nb,GQ x)::(((Bs,bS sb)::(J,.cells #[yV 1,iV E,iV n,iV sz] 125)::Gt w.heap.size sb g E n (iV 0))++((G1 sb a tb bb::lb)++R)))) po).drew)
       have an:=uh (fun w' (W':List Nat) (c':Int) (V:Turn ((nb,GQ x)::(((Bs,bS sb)::(J,.cells #[yV 1,iV E,iV n,iV sz] 125)::Gt w.heap.size sb g E n (iV 0))++(G0 a aw W cw++(G1 sb a tb bb::lb)++R))) M (G0 a aw W' c'++((nb,GQ x)::(((Bs,bS sb)::(J,.cells #[yV 1,iV E,iV n,iV sz] 125)::Gt w.heap.size sb g E n (iV 0))++((G1 sb a tb bb::lb)++R)))) w')=>(⟨V.has.cell (b:=w.heap.size) (c:=#[pt sb]) (e:=53) (f:=(0,0)) (by simp[Gt,G1]) 0,V.has.cell (b:=sb) (c:=#[pt a,pt tb,pt bb]) (e:=129) (f:=(0,0)) (by simp[Gt,G1]) 0,V.has.cell (b:=sb) (c:=#[pt a,pt tb,pt bb]) (e:=129) (f:=(0,0)) (by simp[Gt,G1]) 1,V.has.cell (b:=w.heap.size+1) (c:=#[iV g]) (e:=3) (f:=(0,0)) (by simp[Gt,G1]) 0,V.has.cell (b:=w.heap.size+1+1) (c:=#[iV E]) (e:=3) (f:=(0,0)) (by simp[Gt,G1]) 0,V.has.cell (b:=w.heap.size+1+1+1) (c:=#[iV n]) (e:=3) (f:=(0,0)) (by simp[Gt,G1]) 0⟩:
        w'.cell? (aD w.heap.size 0)=some (pt sb) /\ w'.cell? (aD sb 0)=some (pt a) /\ w'.cell? (aD sb 1)=some (pt tb) /\ w'.cell? (aD (w.heap.size+1) 0)=some (iV g) /\ w'.cell? (aD (w.heap.size+1+1) 0)=some (iV E) /\ w'.cell? (aD (w.heap.size+1+1+1) 0)=some (iV n)))
       have aQ:=uh (b2.out _ _ _ _ _ ab.out (aA.out _ _ ab.out).1 (aA.out _ _ ab.out).2 (by rw[HZ.out];omega));have a0:=an.out _ _ _ ab.out;have b8:=uh (⟨bL,a5⟩:x∈cs /\ M4 x g sz);clear am aF aH ak a8 HC a5 hT e1 t1
       gi_wp2_with fail
       refine Jq (S:=fun W'=>W'.cell? (aD w.heap.size 0)=some (pt sb) /\ W'.cell? (aD sb 0)=some (pt a) /\ W'.cell? (aD sb 1)=some (pt tb) /\ W'.cell? (aD (w.heap.size+1) 0)=some (iV g) /\ W'.cell? (aD (w.heap.size+1+1) 0)=some (iV E) /\ W'.cell? (aD (w.heap.size+1+1+1) 0)=some (iV n)) 13 [false,false,false,false,false,false,false,false,false,false,false,false,false] rfl rfl kr (by rfl) (by rintro⟨a,w,h⟩;exact h) ?_;refine Jt 0 61 a0 (fun w G=>G.1) ?_;refine G2 1 62 a0 ?_;refine G2 2 63 a0 ?_;refine Jt 3 64 a0 (fun w G=>G.2.1) ?_;refine Jt 4 65 a0 (fun w G=>G.1) ?_;refine G2 5 66 a0 ?_;refine G2 6 67 a0 ?_;refine Jt 7 68 a0 (fun w G=>G.2.2.1) ?_;refine Jt 8 69 a0 (fun w G=>G.2.2.2.1) ?_;refine Jt 9 70 a0 (fun w G=>G.2.2.2.2.1) ?_;refine Jt 10 71 a0 (fun w G=>G.2.2.2.2.2) ?_;refine G5 11 (fun K Z=>?_)
       go_simp
       refine aQ.out.mono ?_;rintro e w3 ⟨rfl,c3,aR⟩;have az:=an.out _ _ _ aR;have aM:=uh aR;refine Z.out _ _ az fun _=>?_;clear Z K aR aQ a0 ab;simp only[Gb,G7,G6];refine G2 12 13 az ?_;refine P_ kr ?_ _;clear az;have au:=uh ((aM.out.perm (l2:=lb++(G0 a aw (mk W g ⟨1,E,n,sz⟩) c3++((nb,GQ x)::(((Bs,bS sb)::(J,.cells #[yV 1,iV E,iV n,iV sz] 125)::Gt w.heap.size sb g E n (iV 0))++(G1 sb a tb bb::R))))) po).drew)
       have ap:=uh (fun w' (a3:List Blk) (V:Turn ((nb,GQ x)::(((Bs,bS sb)::(J,.cells #[yV 1,iV E,iV n,iV sz] 125)::Gt w.heap.size sb g E n (iV 0))++(G0 a aw W cw++(G1 sb a tb bb::lb)++R))) M (a3++(G0 a aw (mk W g ⟨1,E,n,sz⟩) c3++((nb,GQ x)::(((Bs,bS sb)::(J,.cells #[yV 1,iV E,iV n,iV sz] 125)::Gt w.heap.size sb g E n (iV 0))++(G1 sb a tb bb::R))))) w')=>(⟨V.has.cell (b:=w.heap.size) (c:=#[pt sb]) (e:=53) (f:=(0,0)) (by simp[Gt,G1]) 0,V.has.cell (b:=sb) (c:=#[pt a,pt tb,pt bb]) (e:=129) (f:=(0,0)) (by simp[Gt,G1]) 2,V.has.cell (b:=w.heap.size+1) (c:=#[iV g]) (e:=3) (f:=(0,0)) (by simp[Gt,G1]) 0⟩:
        w'.cell? (aD w.heap.size 0)=some (pt sb) /\ w'.cell? (aD sb 2)=some (pt bb) /\ w'.cell? (aD (w.heap.size+1) 0)=some (iV g)))
       have aP:=uh (gR _ bb z g B lb (G0 a aw (mk W g ⟨1,E,n,sz⟩) c3++((nb,GQ x)::(((Bs,bS sb)::(J,.cells #[yV 1,iV E,iV n,iV sz] 125)::Gt w.heap.size sb g E n (iV 0))++(G1 sb a tb bb::R)))) HB.out bF bj hg O au.out);have a4:=ap.out _ _ au.out;clear aM an
       gi_wp2_with fail
       refine Jq (S:=fun W'=>W'.cell? (aD w.heap.size 0)=some (pt sb) /\ W'.cell? (aD sb 2)=some (pt bb) /\ W'.cell? (aD (w.heap.size+1) 0)=some (iV g)) 6 [false,false,false,false,false,false] rfl rfl kr (by rfl) (by rintro⟨a,w,h⟩;exact h) ?_;refine Jt 0 76 a4 (fun w G=>G.1) ?_;refine G2 1 77 a4 ?_;refine G2 2 78 a4 ?_;refine Jt 3 79 a4 (fun w G=>G.2.1) ?_;refine Jt 4 80 a4 (fun w G=>G.2.2) ?_;refine G5 5 (fun K Z=>?_)
       go_simp
       refine aP.out.mono ?_;rintro e w4 ⟨rfl,B',a3,br,bm,aS⟩;have aV:=ap.out _ _ aS;have aN:=uh aS;have b6:=uh (⟨br,bm⟩:Lg B B' g 1 /\ GD bb B' z a3);refine Z.out _ _ aV fun _=>?_;clear Z K aS aP a4 au br bm;simp only[Gb,G7,G6];refine P_ kr ?_ _;clear aV
       have aq:=uh (fun w' (W':List Nat) (c':Int) (V:Turn ((nb,GQ x)::(((Bs,bS sb)::(J,.cells #[yV 1,iV E,iV n,iV sz] 125)::Gt w.heap.size sb g E n (iV 0))++(G0 a aw W cw++(G1 sb a tb bb::lb)++R))) M (G0 a aw W' c'++((nb,GQ x)::(((Bs,bS sb)::(J,.cells #[yV 1,iV E,iV n,iV sz] 125)::Gt w.heap.size sb g E n (iV 0))++(G1 sb a tb bb::(a3++R))))) w')=>(⟨V.has.cell (b:=w.heap.size) (c:=#[pt sb]) (e:=53) (f:=(0,0)) (by simp[Gt,G1]) 0,V.has.cell (b:=w.heap.size+1) (c:=#[iV g]) (e:=3) (f:=(0,0)) (by simp[Gt,G1]) 0,V.has.cell (b:=nb) (c:=#[iV x.1,yV x.2.tag,iV x.2.typ,iV x.2.len,iV x.2.size]) (e:=127) (f:=(0,0)) (by simp[GQ]) 0,V.has.cell (b:=J) (c:=#[yV 1,iV E,iV n,iV sz]) (e:=125) (f:=(0,0)) (by simp) 3⟩:
        w'.cell? (aD w.heap.size 0)=some (pt sb) /\ w'.cell? (aD (w.heap.size+1) 0)=some (iV g) /\ w'.cell? (aD nb 0)=some (iV x.1) /\ w'.cell? (aD J 3)=some (iV sz)))
       have aC:=aN.out.perm (l2:=G0 a aw (mk W g ⟨1,E,n,sz⟩) c3++((nb,GQ x)::(((Bs,bS sb)::(J,.cells #[yV 1,iV E,iV n,iV sz] 125)::Gt w.heap.size sb g E n (iV 0))++(G1 sb a tb bb::(a3++R))))) po;have b4:=uh (XT _ (aA.out _ _ aC).1 aC (s:=sb) (tb:=tb) (bb:=bb) (by simp) (by rw[Kh];exact hf) x.1 (g-x.1) (by rw[Kh,HZ.out];omega));obtain⟨u1,u2,u3,u4⟩:=aq.out _ _ _ aC;have bN:(g:Int)-(x.1:Int)=((g-x.1:Nat):Int):=O;have bP:(x.1:Int)+(x.2.size:Int)-(g:Int)-(sz:Int)=((x.1+x.2.size-g-sz:Nat):Int):=O;clear aC aN ap
       gi_wp2_with fail
       refine⟨trivial,(CallsIn.inRound _ (N_.2 b4.out)).mono ?_⟩;rintro e w5 ⟨⟨u,rfl⟩,c5,be⟩;have ag:=uh be;clear u1 u2 u3 u4 b4 be;obtain⟨u1,u2,u3,u4⟩:=aq.out _ _ _ ag.out;have ah:=XT _ (aA.out _ _ ag.out).1 ag.out (s:=sb) (tb:=tb) (bb:=bb) (by simp) (by rw[Gz,Kh];exact hf) (g+sz) (x.1+x.2.size-g-sz) (by rw[Gz,Kh,HZ.out];omega);rw[Int.natCast_add]at ah;have ah:=uh ah;have bX:g <= 32768:=O;have bU:sz <= 32768:=O
       gi_wp2_with fail
       refine⟨trivial,(CallsIn.inRound _ (N_.2 ah.out)).mono ?_⟩;rintro e w6 ⟨⟨u,rfl⟩,c6,bf⟩;have aT:Turn ((nb,GQ x)::(((Bs,bS sb)::(J,.cells #[yV 1,iV E,iV n,iV sz] 125)::Gt w.heap.size sb g E n (iV 0))++(G0 a aw W cw++(G1 sb a tb bb::lb)++R))) M (G0 a aw (Mm W x g ⟨1,E,n,sz⟩) c6++((nb,GQ x)::(((Bs,bS sb)::(J,.cells #[yV 1,iV E,iV n,iV sz] 125)::Gt w.heap.size sb g E n (iV 0))++(G1 sb a tb bb::(a3++R))))) w6:=bf;have aE:=aT.perm (l2:=(w.heap.size+1+1+1+1,.cells #[iV 0] 37)::((nb,GQ x)::(Bs,bS sb)::(J,.cells #[yV 1,iV E,iV n,iV sz] 125)::((w.heap.size+1+1+1,.cells #[iV n] 3)::(w.heap.size+1+1,.cells #[iV E] 3)::(w.heap.size+1,.cells #[iV g] 3)::(w.heap.size,bS sb)::(G0 a aw (Mm W x g ⟨1,E,n,sz⟩) c6++(G1 sb a tb bb::a3)++R)))) (Yh fun c=>by simp[Gt];omega);have c8:w6.cell? (aD (w.heap.size+1+1+1+1) 0)=some (iV 0):=aE.cell1 0;have f8:w6.frozen? (aD (w.heap.size+1+1+1+1) 0)=false:=aE.free1 0
       have bg:=(aE.setCell 0 (iV 0)).perm (l2:=(nb,GQ x)::(((Bs,bS sb)::(J,.cells #[yV 1,iV E,iV n,iV sz] 125)::Gt w.heap.size sb g E n (iV 0))++(G0 a aw (Mm W x g ⟨1,E,n,sz⟩) c6++(G1 sb a tb bb::a3)++R))) (Yh fun c=>by simp[Gt];omega);have av:=uh bg;clear bf aT aE bg ah ag u1 u2 u3 u4 aq
       gi_wp2_with fail
       have bz:=uh (Turn.keepsOthers av.out aJ.out (fun y hy=>by
        rcases t_.1 hy with rfl|hy
        ·rfl
        rcases s_.1 hy with hy|hy
        ·exact ay y hy
        rcases s_.1 hy with hy|hy
        · rcases s_.1 hy with hy|hy
          ·exact Lf _ _ _ _ y hy
          · rcases t_.1 hy with rfl|hy
            ·rfl
            ·exact HB.out.cells y hy
        ·exact aU y hy))
       exact⟨bz.out.from _,KxC.of av.out aJ.out bc.out (Zr _ (d_ ..)) (Zr _ (d_ ..)) (Qt _ (Zr _ (Qt _ (d_ ..)))) (Qt _ (Zr _ (Qt _ (d_ ..)))),rfl,0,_,.inr ⟨rfl,x,b8.out.1,b8.out.2,B',a3,c6,b6.out.1,b6.out.2,rfl⟩,((a9.out.trans av.out).tail.tail.tail)⟩
     · have bp:∀c∈cs,¬M4 c g sz:=by
         intro c hc;rw[a8]at hc;rcases s_.1 hc with h|h
         · intro ht
           have:=e1 c h;have:=ht.2.2.1;omega
         · rcases t_.1 h with rfl|h
           ·exact a5
           · intro ht
             have:=(ak.mem c h).1;have:=ht.2.1;omega
       have b3:x.2.tag=1∨(x.2.tag≠1 /\ x.1+x.2.size<g+sz):=by
        by_cases h9:x.2.tag=1
        ·exact .inl h9
        · refine .inr ⟨h9,?_⟩
          rcases Nat.lt_or_ge (x.1+x.2.size) (g+sz)with h|h
          ·exact h
          ·exact absurd ⟨h9,bG,by omega,h⟩ a5
       have T9:=b7.out.perm (l2:=(w.heap.size+1+1+1+1,.cells #[iV 0] 37)::((nb,GQ x)::(Bs,bS sb)::(J,.cells #[yV 1,iV E,iV n,iV sz] 125)::((w.heap.size+1+1+1,.cells #[iV n] 3)::(w.heap.size+1+1,.cells #[iV E] 3)::(w.heap.size+1,.cells #[iV g] 3)::(w.heap.size,bS sb)::(G0 a aw W cw++(G1 sb a tb bb::lb)++R)))) (Yh fun c=>by simp[Gt];omega);have c8:M.cell? (aD (w.heap.size+1+1+1+1) 0)=some (iV 0):=T9.cell1 0;have f8:M.frozen? (aD (w.heap.size+1+1+1+1) 0)=false:=T9.free1 0;have bd:=(T9.setCell 0 (iV 3)).perm (l2:=(nb,GQ x)::(((Bs,bS sb)::(J,.cells #[yV 1,iV E,iV n,iV sz] 125)::Gt w.heap.size sb g E n (iV 3))++(G0 a aw W cw++(G1 sb a tb bb::lb)++R))) (Yh fun c=>by simp[Gt];omega);have aL:=uh bd;have bD:=uh bp;clear T9 bd bp am aF aH ak a8 HC a5 hT e1;rcases b3 with h9|⟨h9,bW⟩
       case' inl=>(
        have k5:((x.2.tag:Int) == 1)=true:=(by rw[Qx];omega);have k6:(x.2.tag == 1)=true:=(by rw[Qx];exact h9);clear h9
        gi_wp2_with fail)
       case' inr=>(
        have k5:((x.2.tag:Int) == 1)=false:=(by rw[j_];omega);have k6:(x.2.tag == 1)=false:=(by rw[j_];exact h9);have k7:decide ((x.1:Int)+(x.2.size:Int)-(g:Int)<(sz:Int))=true:=k_ O;clear h9
        gi_wp2_with fail)
       all_goals exact⟨(KeepsOthers.setCell _ _ _).from _,KxC.of aL.out aJ.out bc.out (Zr _ (d_ ..)) (Zr _ (d_ ..)) (Qt _ (Zr _ (Qt _ (d_ ..)))) (Qt _ (Zr _ (Qt _ (d_ ..)))),rfl,3,_,.inl ⟨rfl,rfl,bD.out⟩,((a9.out.trans aL.out).tail.tail.tail)⟩
  case hdone=>
   rintro D xs M hD rfl ⟨e1,hT⟩ Z
   exfalso
   obtain⟨pa,c,pb,a8,h8,h9,-,-⟩:=HC.out.find g (u_ _) hg;have:=e1 c (by rw[a8];simp);omega
  case hstop=>
   rintro D c pre M hD ⟨rfl,er,l',e1,hT⟩ Z;have T5:=hT.grownB (B:=W0.heap.size) (Qf HT.out.size T8.size) (fun x hx=>(s_.1 hx).elim (Nc _ _ _ _ _ _ x) (fun hx=>(s_.1 hx).elim (e1.cells HB.out x) (aU x))) (grownBy_putObj' M D (.deferred none)) (fun r e=>by cases e;exact⟨hD,_,Z,rfl⟩);have c8:(M.putObj D (.deferred none)).cell? (aD (w.heap.size+1+1+1+1) 0)=some (iV er):=T5.cell1 0;have HX:=uh (⟨T5.drop,e1⟩:Turn [] w0 (l'++R) (M.putObj D (.deferred none)) /\ U8 sb a aw tb bb W B lb cw cs g E n sz z er l');clear T5 hT e1
   gi_wp2_with fail
   refine⟨by simp,.inl ⟨_,_,rfl,run_takeDeferred Z,?_⟩⟩;refine⟨iV er,?_,er,l',rfl,HX.out.1,HX.out.2⟩;simp[results,results25,go_sem,c8]
end
section
open Go Go.RowKit Go.IntWalk
def Jp (gb ob fb tb:Nat)(g:Nat)(ov:Bool)(f t:Nat):List Blk:=
 [(gb,.cells #[iV g] 3),(ob,.cells #[.bool ov] 4),(fb,.cells #[iV f] 3),(tb,.cells #[iV t] 3)]
theorem gL {l0 R:List Blk}{w0:World}(w:World)(gb ob N tb g f t:Nat)(Z:Bool)(x:Ce)(T:Turn l0 w0 (Jp gb ob N tb g Z f t++R) w)(hx:x.1+x.2.size <= 65536):
  Calls prog 204 #[.agg #[iV x.1,yV x.2.tag,iV x.2.typ,iV x.2.len,iV x.2.size],pt gb,pt ob,pt N,pt tb] w fun e w'=>(∃v,e=.returned v) /\
   Turn l0 w0 (Jp gb ob N tb g Z (if x.2.tag=1 /\ x.1≠g /\ Z=false then x.1+x.2.size else f) (if x.2.tag=1 /\ x.1≠g then t else x.1+x.2.size)++R) w':=by
 obtain⟨r,⟨E,G,J,y⟩⟩:=x;simp only at hx ⊢;have M:=T.alloc (.cells #[iV r,yV E,iV G,iV J,iV y] 127);have d0:(w.alloc (.cells #[iV r,yV E,iV G,iV J,iV y] 127)).cell? (aD w.heap.size 0)=some (iV r):=M.cell1 0;have d1:(w.alloc (.cells #[iV r,yV E,iV G,iV J,iV y] 127)).cell? (aD w.heap.size 1)=some (yV E):=M.cell1 1;have d4:(w.alloc (.cells #[iV r,yV E,iV G,iV J,iV y] 127)).cell? (aD w.heap.size 4)=some (iV y):=M.cell1 4;have qg:(w.alloc (.cells #[iV r,yV E,iV G,iV J,iV y] 127)).cell? (aD gb 0)=some (iV g):=M.has.cell (b:=gb) (c:=#[iV g]) (e:=3) (f:=(0,0)) (by simp[Jp]) 0;have qo:(w.alloc (.cells #[iV r,yV E,iV G,iV J,iV y] 127)).cell? (aD ob 0)=some (.bool Z):=M.has.cell (b:=ob) (c:=#[.bool Z]) (e:=4) (f:=(0,0)) (by simp[Jp]) 0;have qf:(w.alloc (.cells #[iV r,yV E,iV G,iV J,iV y] 127)).cell? (aD N 0)=some (iV f):=M.has.cell (b:=N) (c:=#[iV f]) (e:=3) (f:=(0,0)) (by simp[Jp]) 0;have ff:(w.alloc (.cells #[iV r,yV E,iV G,iV J,iV y] 127)).frozen? (aD N 0)=false:=M.has.free (b:=N) (c:=#[iV f]) (e:=3) (by simp[Jp]) 0
 have qt:(w.alloc (.cells #[iV r,yV E,iV G,iV J,iV y] 127)).cell? (aD tb 0)=some (iV t):=M.has.cell (b:=tb) (c:=#[iV t]) (e:=3) (f:=(0,0)) (by simp[Jp]) 0;have ft:(w.alloc (.cells #[iV r,yV E,iV G,iV J,iV y] 127)).frozen? (aD tb 0)=false:=M.has.free (b:=tb) (c:=#[iV t]) (e:=3) (by simp[Jp]) 0;have a3:=uh (((M.perm (l2:=(N,.cells #[iV f] 3)::((w.heap.size,.cells #[iV r,yV E,iV G,iV J,iV y] 127)::(gb,.cells #[iV g] 3)::(ob,.cells #[.bool Z] 4)::(tb,.cells #[iV t] 3)::R)) (Yh fun c=>by simp[Jp];omega)).setCell 0 (iV ((r:Int)+(y:Int)))).perm (l2:=(w.heap.size,.cells #[iV r,yV E,iV G,iV J,iV y] 127)::((gb,.cells #[iV g] 3)::(ob,.cells #[.bool Z] 4)::(N,.cells #[iV ((r:Int)+(y:Int))] 3)::(tb,.cells #[iV t] 3)::R)) po)
 have a1:=uh (((M.perm (l2:=(tb,.cells #[iV t] 3)::((w.heap.size,.cells #[iV r,yV E,iV G,iV J,iV y] 127)::(gb,.cells #[iV g] 3)::(ob,.cells #[.bool Z] 4)::(N,.cells #[iV f] 3)::R)) (Yh fun c=>by simp[Jp];omega)).setCell 0 (iV ((r:Int)+(y:Int)))).perm (l2:=(w.heap.size,.cells #[iV r,yV E,iV G,iV J,iV y] 127)::((gb,.cells #[iV g] 3)::(ob,.cells #[.bool Z] 4)::(N,.cells #[iV f] 3)::(tb,.cells #[iV ((r:Int)+(y:Int))] 3)::R)) po);have a2:=uh M.tail;have a0:((r+y:Nat):Int)=(r:Int)+(y:Int):=Int.natCast_add ..;have Hc:=uh a0;clear T M a0
 by_cases U:E=1
 · have k1:((E:Int) == 1)=true:=by rw[Qx];omega
   have k2:(E == 1)=true:=by rw[Qx];exact U
   by_cases V:r=g
   · rw[y_ (fun h=>h.2.1 V),y_ (fun h=>h.2 V)]
     have k3:((r:Int) != (g:Int))=false:=(by rw[Xm];omega);have k4:(r != g)=false:=(by rw[Xm];exact V);clear U V
     go_enter func204,ntmps204
     go_wp2_with fail
     go_end0;exact⟨⟨_,rfl⟩,by unfold Jp;rw[Hc.out];exact a1.out.tail⟩
   · have k3:((r:Int) != (g:Int))=true:=by rw[Qe];omega
     have k4:(r != g)=true:=by rw[Qe];exact V
     cases Z with
     | false=>
      rw[v_ ⟨U,V,rfl⟩,v_ ⟨U,V⟩];clear U V
      go_enter func204,ntmps204
      go_wp2_with fail
      go_end0;exact⟨⟨_,rfl⟩,by unfold Jp;rw[Hc.out];exact a3.out.tail⟩
     | true=>
      rw[y_ (fun h=>absurd h.2.2 (by decide)),v_ ⟨U,V⟩];clear U V
      go_enter func204,ntmps204
      go_wp2_with fail
      go_end0;exact⟨⟨_,rfl⟩,a2.out⟩
 · rw[y_ (fun h=>U h.1),y_ (fun h=>U h.1)]
   have k1:((E:Int) == 1)=false:=(by rw[j_];omega);have k2:(E == 1)=false:=(by rw[j_];exact U);clear U
   go_enter func204,ntmps204
   go_wp2_with fail
   go_end0;exact⟨⟨_,rfl⟩,by unfold Jp;rw[Hc.out];exact a1.out.tail⟩
end
section
def Mt (P:List Ce)(c0:Ce)(Q:List Ce)(pre:List Ce)(f t:Nat)(ov:Bool):Prop:=
 (ov=false /\ f=GA 0 pre /\ ∃rest,P=pre++rest)∨
 (ov=true /\ f=GA 0 P /\ ∃Q1 Q2,pre=P++c0::Q1 /\ Q=Q1++Q2 /\ Gq (c0.1+c0.2.size) Q=Gq t Q2)
theorem Mt.step {L:List Ty}{W:List Nat}{P Q pre E:List Ce}{c0 x:Ce}{f t e:Nat}{Z:Bool}(hC:Chain L W 0 (P++c0::Q) e)(h:Mt P c0 Q pre f t Z)(J:P++c0::Q=pre++x::E):
  (c0.1<x.1 /\ x.2.tag=1 /\ f=GA 0 P /\ t=Gq (c0.1+c0.2.size) Q)∨
  (¬(c0.1<x.1 /\ x.2.tag=1) /\ Mt P c0 Q (pre++[x]) (if x.2.tag=1 /\ x.1≠c0.1 /\ Z=false then x.1+x.2.size else f) (if x.2.tag=1 /\ x.1≠c0.1 then t else x.1+x.2.size) (Z || x.1 == c0.1)):=by
 obtain⟨h1,h2,h3⟩:=hC.split;rcases h with⟨rfl,M,rest,rfl⟩|⟨rfl,M,U,V,rfl,rfl,G⟩
 · cases rest with
   | nil=>
    rw[p_]at J h1;rw[p_]
    have a0:c0=x /\ Q=E:=by
     have:=List.append_cancel_left J;exact⟨(List.cons.inj this).1,(List.cons.inj this).2⟩
    obtain⟨rfl,rfl⟩:=a0;refine .inr ⟨fun h=>by omega,.inr ⟨by simp,?_,[],Q,rfl,rfl,?_⟩⟩
    · rw[y_ (fun h=>h.2.1 rfl)]
      exact M
    ·rw[y_ (fun h=>h.2 rfl)]
   | cons y ys=>
    have a2:y=x:=by
     rw[Qq]at J;have:=List.append_cancel_left J;exact(List.cons.inj this).1
    subst a2;have hm:=h1.mem y (by simp);have hp:=hm.2.2.pos;have N:y.1<c0.1:=O;refine .inr ⟨fun h=>by omega,.inl ⟨?_,?_,ys,by simp⟩⟩
    · simp
      omega
    · rw[Kb,GA,GA,←M]
      by_cases G:y.2.tag=1
      ·rw[v_ ⟨G,by omega,rfl⟩,v_ G]
      ·rw[y_ (fun h=>G h.1),y_ G]
 · have a1:V=x::E:=by
     have h9:P++c0::(U++V)=(P++c0::U)++V:=(by simp);rw[h9]at J;exact List.append_cancel_left J
   subst a1;have hm:=h3.mem x (by simp);have hp:=h2.pos;have N:c0.1<x.1:=O
   by_cases r:x.2.tag=1
   · refine .inl ⟨N,r,M,?_⟩
     rw[G,Gq,v_ r]
   · refine .inr ⟨fun h=>r h.2,.inr ⟨by simp,?_,U++[x],E,by simp,by simp,?_⟩⟩
     · rw[y_ (fun h=>r h.1)]
       exact M
     ·rw[y_ (fun h=>r h.1),G,Gq,y_ r]
theorem Mt.done {P Q:List Ce}{c0:Ce}{f t:Nat}{N:Bool}(h:Mt P c0 Q (P++c0::Q) f t N):f=GA 0 P /\ t=Gq (c0.1+c0.2.size) Q:=by
 rcases h with⟨-,-,rest,J⟩|⟨-,E,r,y,G,hq,M⟩
 · have:=Qu List.length J
   simp at this
 · have h1:Q=r:=by
     have:=List.append_cancel_left G;exact(List.cons.inj this).2
   subst h1
   have h2:y=[]:=by
    have:=Qu List.length hq;simp at this;exact this
   subst h2;exact⟨E,M.symm⟩
theorem Mt.start (P:List Ce)(c0:Ce)(Q:List Ce):Mt P c0 Q [] 0 0 false:=.inl ⟨rfl,rfl,P,rfl⟩
end
section
open Go Go.RowKit Go.Shelf Go.IntWalk
attribute [local go_sem] Oper.semAt_some
theorem Turn.unless {C G Y:List Blk}{A B:World}(h:Turn (C++Y) A (G++Y) B)(J:Has A (C++Y)){b:Nat}(M:b<A.heap.size)(N:b∉keys C):B.heap[b]?= A.heap[b]? :=by
 by_cases r:b∈keys Y
 · obtain⟨o,E⟩:=GE.1 r
   exact(h.has.own b o (Qt _ E)).trans (J.own b o (Qt _ E)).symm
 · exact h.same b M (fun y=>by
     rw[GN]at y;exact(s_.1 y).elim N r)
theorem KpC.un {n₀ Bs:Nat}{D:Nat -> Prop}{C J Y:List Blk}{A B:World}(h:Turn (C++Y) A (J++Y) B)(y:Has A (C++Y))(V:n₀ <= A.heap.size)(N:Bs<A.heap.size)(E:∀b∈keys C,D b)(G:∀b,D b -> n₀ <= b /\ b≠Bs):KpC n₀ Bs D A B:=
 ⟨⟨h.os,h.tape,h.output,h.size,fun b U=>h.unless y (Zt U V) (fun r=>by have:=(G b (E b r)).1;omega)⟩,
  h.unless y N (fun r=>(G Bs (E Bs r)).2 rfl),h.size,fun b o h1 _ M=>(h.unless y (Qk h1) (fun r=>M (E b r))).trans h1⟩
def D4 (ob fb tb:Nat)(ov:Bool)(f t:Nat):List Blk:=[(ob,.cells #[.bool ov] 4),(fb,.cells #[iV f] 3),(tb,.cells #[iV t] 3)]
theorem Tz (E ob y tb g f t:Nat)(G:Bool):∀x∈Jp E ob y tb g G f t,x.2.isCells=true:=by
 intro x r;simp only[Jp,t_,Zu,or_false]at r;rcases r with rfl|rfl|rfl|rfl<;>rfl
theorem C0 (nn:Nat)(hn:5 <= nn){w0:World}(w:World)(sb a N tb bb:Nat){W B:List Nat}{lb R:List Blk}{Z:Int}(aX:Option Addr)(aq:Nat)(L:List Ty)(hB:GD bb B (W.length/2) lb)(b5:u64ok B)(b4:(W.length/2+63)/64 <= B.length)(aL:∀x∈R,x.2.isCells=true)
  (T:Turn [] w0 (G0 a N W Z++(G1 sb a tb bb::lb)++R) w)(aN:TabAt w0 tb aX aq L)(b7:Fields w0)(hf:W.length <= 65536)(hu:∀v∈W,v<18446744073709551616)(bp:∀t∈L,TyIn t)(hL:L.length <= 1000)
  (P Q:List Ce)(c0:Ce)(hC:Chain L W 0 (P++c0::Q) (W.length/2))(aR:Gv B c0.1=true):
  CallsIn Fence.wide nn prog 152 #[pt sb,iV c0.1] w fun e w'=>∃(B':List Nat) (J:List Blk) (bk:Int),e=.returned (iV 0) /\ Lh B B' c0.1 1 /\ GD bb B' (W.length/2) J /\ Turn [] w0 (G0 a N (MM W P c0 Q) bk++(G1 sb a tb bb::J)++R) w':=by
 have h1:1 <= nn:=O;have h2:1 <= nn-1-1:=O;have h3:Fence.wide.fn 152:= trivial;have h5:Fence.wide.fn 80:= trivial;have h6:Fence.wide.fn 160:= trivial;have h7:Fence.wide.fn 133:= trivial;have h8:Fence.wide.fn 203:= trivial;have h9:Fence.wide.fn 78:= trivial;have a1:Fence.wide.round=none:=rfl;have bz:W.length/2 <= 32768:=O;have aV:=hC.split.2.1;have bt:=aV.pos;have hg:c0.1<W.length/2:=by have:=aV.2.2;omega
 have T0:=T.alloc (.cells #[iV c0.1] 3);have au:=uh (show Turn [] w0 (((w.heap.size,.cells #[iV c0.1] 3)::lb)++(G0 a N W Z++(G1 sb a tb bb::R))) (w.alloc (.cells #[iV c0.1] 3)).drew from(T0.perm po).drew)
 have HS:=uh (fun w' (J:List Blk) (W':List Nat×Int) (V:Turn [] w0 (((w.heap.size,.cells #[iV c0.1] 3)::J)++(G0 a N W'.1 W'.2++(G1 sb a tb bb::R))) w')=>(⟨V.has.cell (b:=sb) (c:=#[pt a,pt tb,pt bb]) (e:=129) (f:=(0,0)) (by simp[G1]) 2,V.cell1 0⟩:
  w'.cell? (aD sb 2)=some (pt bb) /\ w'.cell? (aD w.heap.size 0)=some (iV c0.1)))
 have aJ:=uh (fun w' (X:List Blk) (V:Turn [] w0 (((w.heap.size,.cells #[iV c0.1] 3)::lb)++X) w')=>by
  obtain⟨bo,cap,hA⟩:=hB.at_ (R:=(w.heap.size,.cells #[iV c0.1] 3)::X) (V.has.perm po);exact PX w' bb _ B bo cap hA b5 b4 c0.1 hg O)
 rw[aR]at aJ;have a6:=HS.out _ lb (W,Z) au.out;have HB:=uh hB;have HC:=uh hC;have bf:=uh aN;have aC:=uh b7;have HT:=uh T;have aY:=uh (fun w' (X:List Blk) (V:Turn [] w0 (lb++X) w')=>PY w' bb _ c0.1 B lb X hB b5 b4 hg O V);clear T0 T hB aR hC aN b7 aV;refine callsIn_of_wp_marks func152 rfl h3 ?_ a1;simp only[ntmps152,Z_,B_,Qj,Nat.reduceAdd,Nat.reduceSub,S_,R_,Qc,X_,L_,Qd]
 gi_wp2_with fail
 refine Ge ?_;refine Bh (S:=fun W'=>W'.cell? (aD sb 2)=some (pt bb) /\ W'.cell? (aD w.heap.size 0)=some (iV c0.1)) 7 ?_;refine Jr 0 12 a1 a6 ?_;refine Jr 1 13 a1 a6 ?_;refine Jr 2 14 a1 a6 ?_;refine N6 3 15 a1 a6 (fun w a4=>a4.1) ?_;refine N6 4 16 a1 a6 (fun w a4=>a4.2) ?_;refine Ga (i:=5) kr rfl (fun K hK=>?_)
 go_simp
 refine(N_.2 (aJ.out _ _ au.out)).mono ?_;rintro e w2 ⟨rfl,b2⟩;have aa:=uh (au.out.call b2);have aM:=HS.out _ lb (W,Z) aa.out;refine hK.out _ _ aM ?_;clear hK K;simp only[Gb,G7,G6];refine Jr 6 18 a1 aM ?_;refine Gx kr ?_ _;refine z_ ?_;clear a6 aM au b2;have aE:=uh aa.out.drew;have a7:=HS.out _ lb (W,Z) aE.out;have aH:=uh (aY.out _ _ (aE.out.perm (l2:=lb++((w.heap.size,.cells #[iV c0.1] 3)::(G0 a N W Z++(G1 sb a tb bb::R)))) po));clear aa
 gi_wp2_with fail
 refine Ge ?_;refine Bh (S:=fun W'=>W'.cell? (aD sb 2)=some (pt bb) /\ W'.cell? (aD w.heap.size 0)=some (iV c0.1)) 6 ?_;refine Jr 0 19 a1 a7 ?_;refine Jr 1 20 a1 a7 ?_;refine Jr 2 21 a1 a7 ?_;refine N6 3 22 a1 a7 (fun w a4=>a4.1) ?_;refine N6 4 23 a1 a7 (fun w a4=>a4.2) ?_;refine Ga (i:=5) kr rfl (fun K hK=>?_)
 go_simp
 refine(N_.2 aH.out).mono ?_;rintro e w4 ⟨rfl,B',J,ba,ag,T4⟩;have aK:=T4.perm (l2:=((w.heap.size,.cells #[iV c0.1] 3)::J)++(G0 a N W Z++(G1 sb a tb bb::R))) po;have b8:=HS.out _ J (W,Z) aK;have aF:=uh aK;refine hK.out _ _ b8 ?_;clear hK K;simp only[Gb,G7,G6];refine Gx kr ?_ _;refine z_ ?_;clear a7 b8 aE T4 aK aH
 gi_wp2_with (first
  | (gi_at_call 80;refine(RR (nn-1) sb _).mono ?_;rintro e w' ⟨rfl,hw⟩;rw[hw];clear hw w')
  | fail)
 obtain⟨E,aS⟩:∃E,w4.heap.size=E:=⟨_,rfl⟩;have T5:=((((aF.out.alloc (.cells #[iV 0] 3)).alloc (.cells #[iV 0] 3)).alloc (.cells #[.bool false] 4)).alloc (.cells #[.func (.func 204) #[] #[pt w.heap.size,pt (w4.heap.size+1+1),pt w4.heap.size,pt (w4.heap.size+1)]] 332)).alloc (bS sb);have R5:=(((((r_ (C_ w4)).alloc (.cells #[iV 0] 3)).alloc (.cells #[iV 0] 3)).alloc (.cells #[.bool false] 4)).alloc (.cells #[.func (.func 204) #[] #[pt w.heap.size,pt (w4.heap.size+1+1),pt w4.heap.size,pt (w4.heap.size+1)]] 332)).alloc (bS sb);have bj:(((((w4.alloc (.cells #[iV 0] 3)).alloc (.cells #[iV 0] 3)).alloc (.cells #[.bool false] 4)).alloc (.cells #[.func (.func 204) #[] #[pt w.heap.size,pt (w4.heap.size+1+1),pt w4.heap.size,pt (w4.heap.size+1)]] 332)).alloc (bS sb)).heap.size=w4.heap.size+5:=by simp
 simp only[Y_]at T5;have br:w.heap.size<w4.heap.size:=aF.out.has.lt (by simp[keys])
 have b1:SpAt w4 sb a N tb W aX aq L:=by
  have T6:=aF.out.perm (l2:=G0 a N W Z++(G1 sb a tb bb::((w.heap.size,.cells #[iV c0.1] 3)::J++R))) po;exact⟨T6.has.cell (b:=sb) (c:=#[pt a,pt tb,pt bb]) (e:=129) (f:=(0,0)) (by simp[G1]) 0,T6.has.cell (b:=sb) (c:=#[pt a,pt tb,pt bb]) (e:=129) (f:=(0,0)) (by simp[G1]) 1,JQ T6.has hf,bf.out.below T6.below,range_below aC.out T6.below⟩
 generalize((((w4.alloc (.cells #[iV 0] 3)).alloc (.cells #[iV 0] 3)).alloc (.cells #[.bool false] 4)).alloc (.cells #[.func (.func 204) #[] #[pt w.heap.size,pt (w4.heap.size+1+1),pt w4.heap.size,pt (w4.heap.size+1)]] 332)).alloc (bS sb)=W0 at*;rw[aS]at T5 bj br ⊢;have T8:Turn [] w0 (Jp w.heap.size (E+1+1) E (E+1) c0.1 false 0 0++((E+1+1+1,.cells #[.func (.func 204) #[] #[pt w.heap.size,pt (E+1+1),pt E,pt (E+1)]] 332)::(E+1+1+1+1,bS sb)::(G0 a N W Z++(G1 sb a tb bb::J)++R))) W0:=T5.perm (Yh fun c=>by simp[Jp];omega);have R8:Below w4.heap.size w4 W0:=R5.below;have bn:=R5.size;rw[aS]at bn;clear T5 R5;have bu:sb<E:=by rw[←aS];exact c_ w4 _ b1.c0
 have bm:W0.heap[E+1+1+1+1]?= some (bS sb):=T8.has.own _ _ (by simp)
 have b9:∀x∈(E+1+1+1,.cells #[.func (.func 204) #[] #[pt w.heap.size,pt (E+1+1),pt E,pt (E+1)]] 332)::(E+1+1+1+1,bS sb)::(G0 a N W Z++(G1 sb a tb bb::J)++R),x.2.isCells=true:=by
  intro y M;rcases t_.1 M with rfl|M
  ·rfl
  rcases t_.1 M with rfl|M
  ·rfl
  rcases s_.1 M with M|M
  · rcases s_.1 M with M|M
    ·exact Lf _ _ _ _ y M
    · rcases t_.1 M with rfl|M
      ·rfl
      ·exact ag.cells y M
  ·exact aL y M
 have ac:∀(f t:Nat) (G:Bool),∀x∈Jp w.heap.size (E+1+1) E (E+1) c0.1 G f t++((E+1+1+1,.cells #[.func (.func 204) #[] #[pt w.heap.size,pt (E+1+1),pt E,pt (E+1)]] 332)::(E+1+1+1+1,bS sb)::(G0 a N W Z++(G1 sb a tb bb::J)++R)),x.2.isCells=true:=fun f t G x hx=>(s_.1 hx).elim (Tz _ _ _ _ _ _ _ _ x) (b9 x);have a5:w0.heap.size <= W0.heap.size:=T8.size;have b6:∀b,(E <= b /\ b<W0.heap.size /\ b≠E+1+1+1+1) -> w4.heap.size <= b /\ b≠E+1+1+1+1:=fun b h=>⟨by have:=h.1;omega,h.2.2⟩
 apply Mu (β:=Nat) a1 h1 (gf:=133) (lb:=#[pt (E+1+1+1+1)]) rfl h7 (enters_of func133 kr rfl)
  (S5 (nn-1) O w4 sb a N tb W aX aq L b1 hf hu bp hL _ HC.out (E+1+1+1+1) (fun b=>E <= b /\ b<W0.heap.size /\ b≠E+1+1+1+1) W0 (fun b h=>h.2.1) R8 bm)
  (fun h k=>h.t k) (KpC.b O O) (fun h k=>h.x O (fun b hb=>hb.2.1) k) (fun h k=>h.p O (fun b hb=>hb.2.1) k) (T_ _ _) (fun _=>rfl)
  (fun pre W'=>∃f t G,Mt P c0 Q pre f t G /\ f <= W.length/2 /\ t <= W.length/2 /\ Turn [] w0 (Jp w.heap.size (E+1+1) E (E+1) c0.1 G f t++((E+1+1+1,.cells #[.func (.func 204) #[] #[pt w.heap.size,pt (E+1+1),pt E,pt (E+1)]] 332)::(E+1+1+1+1,bS sb)::(G0 a N W Z++(G1 sb a tb bb::J)++R))) W')
  (fun c pre W'=>c=.exit 0 /\ ∃f t G,f=GA 0 P /\ t=Gq (c0.1+c0.2.size) Q /\ Turn [] w0 (Jp w.heap.size (E+1+1) E (E+1) c0.1 G f t++((E+1+1+1,.cells #[.func (.func 204) #[] #[pt w.heap.size,pt (E+1+1),pt E,pt (E+1)]] 332)::(E+1+1+1+1,bS sb)::(G0 a N W Z++(G1 sb a tb bb::J)++R))) W')
  (fun x nb pre W'=>∃f t G,Mt P c0 Q pre f t G /\ f <= W.length/2 /\ t <= W.length/2 /\ Turn [] w0 ((nb,GQ x)::(Jp w.heap.size (E+1+1) E (E+1) c0.1 G f t++((E+1+1+1,.cells #[.func (.func 204) #[] #[pt w.heap.size,pt (E+1+1),pt E,pt (E+1)]] 332)::(E+1+1+1+1,bS sb)::(G0 a N W Z++(G1 sb a tb bb::J)++R)))) W')
  (fun s A D row ⟨f,t,G,e1,e2,e3,hT⟩ hg hr=>⟨f,t,G,e1,e2,e3,hT.grownB a5 (ac f t G) hg hr⟩)
  (fun c s A D row ⟨e0,f,t,G,e1,e2,hT⟩ hg hr=>⟨e0,f,t,G,e1,e2,hT.grownB a5 (ac f t G) hg hr⟩)
  (fun x nb s A D row ⟨f,t,G,e1,e2,e3,hT⟩ hg hr=>⟨f,t,G,e1,e2,e3,hT.grownB a5 (by
    intro y M;rcases t_.1 M with rfl|M
    ·rfl
    ·exact ac f t G y M) hg hr⟩)
  ⟨0,0,false,Mt.start _ _ _,u_ _,u_ _,T8⟩
 case hassign=>
  rintro l1 pre x U bq ⟨f,t,G,e1,e2,e3,hT⟩;have T2:=hT.alloc (.cells #[iV 0,yV 0,iV 0,iV 0,iV 0] 127);have be:(U.alloc (.cells #[iV 0,yV 0,iV 0,iV 0,iV 0] 127)).there U.heap.size 0 5:=T2.there1;have aa:=uh (T2.laid [iV x.1,yV x.2.tag,iV x.2.typ,iV x.2.len,iV x.2.size] rfl);have HX:=uh (((r_ (C_ U)).alloc (.cells #[iV 0,yV 0,iV 0,iV 0,iV 0] 127)).laid [iV x.1,yV x.2.tag,iV x.2.typ,iV x.2.len,iV x.2.size] rfl);have a8:=LQ;have bc:=Rb x;have b3:E+1+1+1+1<U.heap.size:=hT.has.lt (by simp[keys]);unfold Mr;clear T2 bq hT
  gi_wp2_with (first
   | (show wpListIn _ _ _ _ _ (⟨_,Op.store 127 _ _,_,_,_,_⟩::_) _ _;refine Gj (Gu _ _ _) rfl (by intro c h;cases h) (wp_store_mid 127 _ _ rfl _ 0 #[iV x.1,yV x.2.tag,iV x.2.typ,iV x.2.len,iV x.2.size] rfl rfl be a8 bc ?_);clear be)
   | fail)
  have HK:=uh (⟨((KeepsOthers.alloc _ _).trans (GT _ _ _)).from _,KpC.of HX.out O b3 (fun b hb=>by cases hb) b6⟩:
   KeepsFrom W0.heap.size U ((U.alloc (.cells #[iV 0,yV 0,iV 0,iV 0,iV 0] 127)).setCells U.heap.size 0 [iV x.1,yV x.2.tag,iV x.2.typ,iV x.2.len,iV x.2.size]) /\
   KpC w4.heap.size (E+1+1+1+1) (fun b=>E <= b /\ b<W0.heap.size /\ b≠E+1+1+1+1) U ((U.alloc (.cells #[iV 0,yV 0,iV 0,iV 0,iV 0] 127)).setCells U.heap.size 0 [iV x.1,yV x.2.tag,iV x.2.typ,iV x.2.len,iV x.2.size]))
  clear HX b3 bc;generalize(U.alloc (.cells #[iV 0,yV 0,iV 0,iV 0,iV 0] 127)).setCells U.heap.size 0 [iV x.1,yV x.2.tag,iV x.2.typ,iV x.2.len,iV x.2.size]=W3 at*;generalize U.heap.size=nb at*;exact⟨HK.out.1,HK.out.2,nb,rfl,f,t,G,e1,e2,e3,aa.out⟩
 case hbody=>
  rintro l1 pre x nb U ⟨bv,ay⟩ ⟨f,t,G,e1,e2,e3,hT⟩;have b0:=e1.step HC.out ay;have bx:=(HC.out.mem x (by rw[ay];simp)).2.1;have q0:U.cell? (aD nb 0)=some (iV x.1):=hT.cell1 0;have q1:U.cell? (aD nb 1)=some (yV x.2.tag):=hT.cell1 1;have aU:U.rangeAt nb 0 [iV x.1,yV x.2.tag,iV x.2.typ,iV x.2.len,iV x.2.size]:=hT.range1;have qs:U.cell? (aD w.heap.size 0)=some (iV c0.1):=hT.has.cell (b:=w.heap.size) (c:=#[iV c0.1]) (e:=3) (f:=(0,0)) (by simp[Jp]) 0;have bs:U.cell? (aD (E+1+1+1) 0)=some (.func (.func 204) #[] #[pt w.heap.size,pt (E+1+1),pt E,pt (E+1)]):=hT.has.cell (b:=E+1+1+1) (c:=#[.func (.func 204) #[] #[pt w.heap.size,pt (E+1+1),pt E,pt (E+1)]]) (e:=332) (f:=(0,0)) (by simp) 0;have a8:=LQ;rcases b0 with⟨s1,s2,s3,s4⟩|⟨s1,s2⟩
  · have k1:decide ((c0.1:Int)<(x.1:Int))=true:=k_ O
    have k2:decide (c0.1<x.1)=true:=k_ s1;have k3:((x.2.tag:Int) == 1)=true:=(by rw[Qx];omega);have k4:(x.2.tag == 1)=true:=(by rw[Qx];exact s2);have HX:=uh (⟨s3,s4,hT.tail⟩:f=GA 0 P /\ t=Gq (c0.1+c0.2.size) Q /\ Turn [] w0 (Jp w.heap.size (E+1+1) E (E+1) c0.1 G f t++((E+1+1+1,.cells #[.func (.func 204) #[] #[pt w.heap.size,pt (E+1+1),pt E,pt (E+1)]] 332)::(E+1+1+1+1,bS sb)::(G0 a N W Z++(G1 sb a tb bb::J)++R))) U);clear s1 s2 s3 s4 hT e1 ay
    gi_wp2_with fail
    exact⟨KeepsFrom.refl _ _,⟨rfl,rfl,fun _ _ h _ _=>h⟩,rfl,f,t,G,HX.out.1,HX.out.2.1,HX.out.2.2⟩
  · have hH:Has U (D4 (E+1+1) E (E+1) G f t++((w.heap.size,.cells #[iV c0.1] 3)::(nb,GQ x)::((E+1+1+1,.cells #[.func (.func 204) #[] #[pt w.heap.size,pt (E+1+1),pt E,pt (E+1)]] 332)::(E+1+1+1+1,bS sb)::(G0 a N W Z++(G1 sb a tb bb::J)++R)))):=hT.has.perm (Yh fun c=>by simp[Jp,D4];omega)
    have HH:=uh hH;have TG:Turn (D4 (E+1+1) E (E+1) G f t++((w.heap.size,.cells #[iV c0.1] 3)::(nb,GQ x)::((E+1+1+1,.cells #[.func (.func 204) #[] #[pt w.heap.size,pt (E+1+1),pt E,pt (E+1)]] 332)::(E+1+1+1+1,bS sb)::(G0 a N W Z++(G1 sb a tb bb::J)++R)))) U (Jp w.heap.size (E+1+1) E (E+1) c0.1 G f t++((nb,GQ x)::((E+1+1+1,.cells #[.func (.func 204) #[] #[pt w.heap.size,pt (E+1+1),pt E,pt (E+1)]] 332)::(E+1+1+1+1,bS sb)::(G0 a N W Z++(G1 sb a tb bb::J)++R)))) U:=(r_ hH).perm (Yh fun c=>by simp[Jp,D4];omega);have HG:=uh (gL U w.heap.size (E+1+1) E (E+1) c0.1 f t G x TG O);have aP:(if x.2.tag=1 /\ x.1≠c0.1 /\ G=false then x.1+x.2.size else f) <= W.length/2:=(by split<;>omega);have aQ:(if x.2.tag=1 /\ x.1≠c0.1 then t else x.1+x.2.size) <= W.length/2:=(by split<;>omega);have a3:=uh s2;have ax:=uh hT;generalize(if x.2.tag=1 /\ x.1≠c0.1 /\ G=false then x.1+x.2.size else f)=f' at*;generalize(if x.2.tag=1 /\ x.1≠c0.1 then t else x.1+x.2.size)=t' at*
    have aZ:(¬c0.1<x.1)∨(c0.1<x.1 /\ x.2.tag≠1):=by
     by_cases h:c0.1<x.1
     ·exact .inr ⟨h,fun h'=>s1 ⟨h,h'⟩⟩
     ·exact .inl h
    clear s1 s2 hT e1 ay hH TG;rcases aZ with aj|⟨aj,bd⟩
    case' inl=>(
     have k1:decide ((c0.1:Int)<(x.1:Int))=false:=b_ O;have k2:decide (c0.1<x.1)=false:=b_ aj;clear aj
     gi_wp2_with (first
      | (show wpListIn _ _ _ _ _ (⟨_,Op.load 127 _,_,_,_,_⟩::_) _ _;refine Gj (Gu _ _ _) rfl (by intro c h;cases h) (wp_load_mid 127 _ rfl nb 0 rfl [iV x.1,yV x.2.tag,iV x.2.typ,iV x.2.len,iV x.2.size] _ aU underlying127 rfl a8 ?_))
      | fail))
    case' inr=>(
     have k1:decide ((c0.1:Int)<(x.1:Int))=true:=k_ O;have k2:decide (c0.1<x.1)=true:=k_ aj;have k3:((x.2.tag:Int) == 1)=false:=(by rw[j_];omega);have k4:(x.2.tag == 1)=false:=(by rw[j_];exact bd);clear aj bd
     gi_wp2_with (first
      | (show wpListIn _ _ _ _ _ (⟨_,Op.load 127 _,_,_,_,_⟩::_) _ _;refine Gj (Gu _ _ _) rfl (by intro c h;cases h) (wp_load_mid 127 _ rfl nb 0 rfl [iV x.1,yV x.2.tag,iV x.2.typ,iV x.2.len,iV x.2.size] _ aU underlying127 rfl a8 ?_))
      | fail))
    all_goals (
     refine⟨trivial,(CallsIn.inRound _ (N_.2 HG.out)).mono ?_⟩;rintro e w5 ⟨⟨v,rfl⟩,T5⟩;clear q0 qs bs q1 aU HG;have q0:w5.cell? (aD nb 0)=some (iV x.1):=T5.has.cell (b:=nb) (c:=#[iV x.1,yV x.2.tag,iV x.2.typ,iV x.2.len,iV x.2.size]) (e:=127) (f:=(0,0)) (by simp[GQ]) 0;have qs:w5.cell? (aD w.heap.size 0)=some (iV c0.1):=T5.has.cell (b:=w.heap.size) (c:=#[iV c0.1]) (e:=3) (f:=(0,0)) (by simp[Jp]) 0;have qo:w5.cell? (aD (E+1+1) 0)=some (.bool G):=T5.has.cell (b:=E+1+1) (c:=#[.bool G]) (e:=4) (f:=(0,0)) (by simp[Jp]) 0;have fo:w5.frozen? (aD (E+1+1) 0)=false:=T5.has.free (b:=E+1+1) (c:=#[.bool G]) (e:=4) (by simp[Jp]) 0;have T6:=((T5.perm (l2:=(E+1+1,.cells #[.bool G] 4)::((E,.cells #[iV f'] 3)::(E+1,.cells #[iV t'] 3)::((w.heap.size,.cells #[iV c0.1] 3)::(nb,GQ x)::((E+1+1+1,.cells #[.func (.func 204) #[] #[pt w.heap.size,pt (E+1+1),pt E,pt (E+1)]] 332)::(E+1+1+1+1,bS sb)::(G0 a N W Z++(G1 sb a tb bb::J)++R))))) (Yh fun c=>by simp[Jp];omega)).setCell 0 (.bool (G || x.1 == c0.1)))
     have av:Hid (Turn (D4 (E+1+1) E (E+1) G f t++((w.heap.size,.cells #[iV c0.1] 3)::(nb,GQ x)::((E+1+1+1,.cells #[.func (.func 204) #[] #[pt w.heap.size,pt (E+1+1),pt E,pt (E+1)]] 332)::(E+1+1+1+1,bS sb)::(G0 a N W Z++(G1 sb a tb bb::J)++R)))) U (D4 (E+1+1) E (E+1) (G || x.1 == c0.1) f' t'++((w.heap.size,.cells #[iV c0.1] 3)::(nb,GQ x)::((E+1+1+1,.cells #[.func (.func 204) #[] #[pt w.heap.size,pt (E+1+1),pt E,pt (E+1)]] 332)::(E+1+1+1+1,bS sb)::(G0 a N W Z++(G1 sb a tb bb::J)++R)))) (w5.setCell (aD (E+1+1) 0) (.bool (G || x.1 == c0.1)))):=uh T6
     have a0:=uh (⟨(Turn.keepsOthers av.out HH.out (fun y M=>by
       rcases s_.1 M with M|M
       ·exact Tz w.heap.size (E+1+1) E (E+1) c0.1 f t G y (by simp only[D4,t_,Zu,or_false]at M;simp only[Jp,t_,Zu,or_false];exact .inr M)
       rcases t_.1 M with rfl|M
       ·rfl
       rcases t_.1 M with rfl|M
       ·rfl
       ·exact b9 y M)).from W0.heap.size,KpC.un av.out HH.out (by have:=ax.out.has.lt (b:=E) (by simp[keys,Jp]);omega) (ax.out.has.lt (by simp[keys])) (fun b hb=>by simp only[keys,D4,Zn,List.map_nil,t_,Zu,or_false]at hb;omega) b6,
       ((ax.out.perm (l2:=D4 (E+1+1) E (E+1) G f t++((w.heap.size,.cells #[iV c0.1] 3)::(nb,GQ x)::((E+1+1+1,.cells #[.func (.func 204) #[] #[pt w.heap.size,pt (E+1+1),pt E,pt (E+1)]] 332)::(E+1+1+1+1,bS sb)::(G0 a N W Z++(G1 sb a tb bb::J)++R)))) (Yh fun c=>by simp[Jp,D4];omega)).trans av.out).perm (l2:=(nb,GQ x)::(Jp w.heap.size (E+1+1) E (E+1) c0.1 (G || x.1 == c0.1) f' t'++((E+1+1+1,.cells #[.func (.func 204) #[] #[pt w.heap.size,pt (E+1+1),pt E,pt (E+1)]] 332)::(E+1+1+1+1,bS sb)::(G0 a N W Z++(G1 sb a tb bb::J)++R)))) (Yh fun c=>by simp[Jp,D4];omega)⟩:
       KeepsFrom W0.heap.size U (w5.setCell (aD (E+1+1) 0) (.bool (G || x.1 == c0.1))) /\ KpC w4.heap.size (E+1+1+1+1) (fun b=>E <= b /\ b<W0.heap.size /\ b≠E+1+1+1+1) U (w5.setCell (aD (E+1+1) 0) (.bool (G || x.1 == c0.1))) /\ Turn [] w0 ((nb,GQ x)::(Jp w.heap.size (E+1+1) E (E+1) c0.1 (G || x.1 == c0.1) f' t'++((E+1+1+1,.cells #[.func (.func 204) #[] #[pt w.heap.size,pt (E+1+1),pt E,pt (E+1)]] 332)::(E+1+1+1+1,bS sb)::(G0 a N W Z++(G1 sb a tb bb::J)++R)))) (w5.setCell (aD (E+1+1) 0) (.bool (G || x.1 == c0.1))))
     clear T5 T6 av HH ax
     by_cases aT:G=true
     · subst aT
       simp only[Bool.true_or]at a0 a3
       gi_wp2_with fail
       exact⟨a0.out.1,a0.out.2.1,f',t',true,a3.out,aP,aQ,a0.out.2.2.tail⟩
     · have bg:G=false:=by simpa using aT
       subst bg;clear aT
       by_cases az:x.1=c0.1
       · have k8:((x.1:Int) == (c0.1:Int))=true:=by rw[Qx];omega
         have k9:(x.1 == c0.1)=true:=(by rw[Qx];exact az);rw[k9]at a0 a3;simp only[Bool.or_true]at a0 a3;clear az
         gi_wp2_with fail
         exact⟨a0.out.1,a0.out.2.1,f',t',true,a3.out,aP,aQ,a0.out.2.2.tail⟩
       · have k8:((x.1:Int) == (c0.1:Int))=false:=by rw[j_];omega
         have k9:(x.1 == c0.1)=false:=(by rw[j_];exact az);rw[k9]at a0 a3;simp only[Bool.or_false]at a0 a3;clear az
         gi_wp2_with fail
         exact⟨a0.out.1,a0.out.2.1,f',t',false,a3.out,aP,aQ,a0.out.2.2.tail⟩)
 case hdone=>
  rintro D xs U hD rfl ⟨f,t,G,e1,e2,e3,hT⟩ hK;obtain⟨ef,et⟩:=e1.done;obtain⟨ya,yb,yc,yd,-,-,-,-,-,-,aW,ak,am⟩:=MV HC.out;have an:=ak.le;have ap:=am.le;have aA:=uh (show MM W P c0 Q=lay W f (t-f)by unfold MM;rw[←ef,←et]);rw[←ef,←et]at an;rw[←et]at ap;clear aW ak am ef et;have a2:=hT.perm (l2:=G0 a N W Z++((Jp w.heap.size (E+1+1) E (E+1) c0.1 G f t)++((E+1+1+1,.cells #[.func (.func 204) #[] #[pt w.heap.size,pt (E+1+1),pt E,pt (E+1)]] 332)::(E+1+1+1+1,bS sb)::(G1 sb a tb bb::(J++R))))) po;have qf:U.cell? (aD E 0)=some (iV f):=hT.has.cell (b:=E) (c:=#[iV f]) (e:=3) (f:=(0,0)) (by simp[Jp]) 0;have qt:U.cell? (aD (E+1) 0)=some (iV t):=hT.has.cell (b:=E+1) (c:=#[iV t]) (e:=3) (f:=(0,0)) (by simp[Jp]) 0;have HG:=uh (XT U (range_below aC.out a2.below) (r_ a2.has) (s:=sb) (tb:=tb) (bb:=bb) (by simp) hf f (t-f) O);have bh:(t:Int)-(f:Int)=((t-f:Nat):Int):=O
  have ah:∀x∈G0 a N W Z++((Jp w.heap.size (E+1+1) E (E+1) c0.1 G f t)++((E+1+1+1,.cells #[.func (.func 204) #[] #[pt w.heap.size,pt (E+1+1),pt E,pt (E+1)]] 332)::(E+1+1+1+1,bS sb)::(G1 sb a tb bb::(J++R)))),x.2.isCells=true:=fun y M=>ac f t G y ((Yh (l:=G0 a N W Z++((Jp w.heap.size (E+1+1) E (E+1) c0.1 G f t)++((E+1+1+1,.cells #[.func (.func 204) #[] #[pt w.heap.size,pt (E+1+1),pt E,pt (E+1)]] 332)::(E+1+1+1+1,bS sb)::(G1 sb a tb bb::(J++R))))) (l':=Jp w.heap.size (E+1+1) E (E+1) c0.1 G f t++((E+1+1+1,.cells #[.func (.func 204) #[] #[pt w.heap.size,pt (E+1+1),pt E,pt (E+1)]] 332)::(E+1+1+1+1,bS sb)::(G0 a N W Z++(G1 sb a tb bb::J)++R))) (fun c=>by simp;omega)).mem_iff.1 M)
  have ae:D∉keys (G0 a N W Z++((Jp w.heap.size (E+1+1) E (E+1) c0.1 G f t)++((E+1+1+1,.cells #[.func (.func 204) #[] #[pt w.heap.size,pt (E+1+1),pt E,pt (E+1)]] 332)::(E+1+1+1+1,bS sb)::(G1 sb a tb bb::(J++R))))):=fun hm=>by
   obtain⟨o,ho⟩:=GE.1 hm;have h1:=a2.has.own D o ho;rw[hK]at h1
   cases h1
   have:=ah _ ho
   cases this
  have ab:=uh a2;have HK:=uh hK;have aB:=uh ae;have a9:=uh (⟨ba,ag⟩:Lh B B' c0.1 1 /\ GD bb B' (W.length/2) J);clear hT a2 hK ae ah
  gi_wp2_with fail
  refine(N_.2 HG.out).mono ?_;rintro e w5 ⟨⟨u,rfl⟩,c5,T6⟩;have af:=(T6.same D (Qk HK.out) aB.out).trans HK.out;have T7:=(ab.out.trans T6).perm (l2:=((Jp w.heap.size (E+1+1) E (E+1) c0.1 G f t)++[(E+1+1+1,.cells #[.func (.func 204) #[] #[pt w.heap.size,pt (E+1+1),pt E,pt (E+1)]] 332),(E+1+1+1+1,bS sb)])++(G0 a N (lay W f (t-f)) c5++(G1 sb a tb bb::J)++R)) po
  have T8:=T7.drop.grownB (B:=W0.heap.size) a5 (fun y M=>by
   rcases s_.1 M with M|M
   · rcases s_.1 M with M|M
     ·exact Lf _ _ _ _ y M
     · rcases t_.1 M with rfl|M
       ·rfl
       ·exact ag.cells y M
   ·exact aL y M) (grownBy_putObj' w5 D (.deferred none)) (fun r e=>by cases e;exact⟨hD,_,af,rfl⟩)
  have aG:=uh T8;clear T6 T7 T8 HG qf qt ab
  gi_wp2_with fail
  refine⟨by simp,.inl ⟨_,_,rfl,run_takeDeferred af,?_⟩⟩;refine⟨iV 0,?_,B',J,c5,rfl,a9.out.1,a9.out.2,by rw[aA.out];exact aG.out⟩;simp[results,results152,go_sem]
 case hstop=>
  rintro D c pre U hD ⟨rfl,f,t,G,ef,et,hT⟩ hK;obtain⟨ya,yb,yc,yd,-,-,-,-,-,-,aW,ak,am⟩:=MV HC.out;have an:=ak.le;have ap:=am.le;have aA:=uh (show MM W P c0 Q=lay W f (t-f)by unfold MM;rw[←ef,←et]);rw[←ef,←et]at an;rw[←et]at ap;clear aW ak am ef et;have a2:=hT.perm (l2:=G0 a N W Z++((Jp w.heap.size (E+1+1) E (E+1) c0.1 G f t)++((E+1+1+1,.cells #[.func (.func 204) #[] #[pt w.heap.size,pt (E+1+1),pt E,pt (E+1)]] 332)::(E+1+1+1+1,bS sb)::(G1 sb a tb bb::(J++R))))) po;have qf:U.cell? (aD E 0)=some (iV f):=hT.has.cell (b:=E) (c:=#[iV f]) (e:=3) (f:=(0,0)) (by simp[Jp]) 0;have qt:U.cell? (aD (E+1) 0)=some (iV t):=hT.has.cell (b:=E+1) (c:=#[iV t]) (e:=3) (f:=(0,0)) (by simp[Jp]) 0;have HG:=uh (XT U (range_below aC.out a2.below) (r_ a2.has) (s:=sb) (tb:=tb) (bb:=bb) (by simp) hf f (t-f) O);have bh:(t:Int)-(f:Int)=((t-f:Nat):Int):=O
  have ah:∀x∈G0 a N W Z++((Jp w.heap.size (E+1+1) E (E+1) c0.1 G f t)++((E+1+1+1,.cells #[.func (.func 204) #[] #[pt w.heap.size,pt (E+1+1),pt E,pt (E+1)]] 332)::(E+1+1+1+1,bS sb)::(G1 sb a tb bb::(J++R)))),x.2.isCells=true:=fun y M=>ac f t G y ((Yh (l:=G0 a N W Z++((Jp w.heap.size (E+1+1) E (E+1) c0.1 G f t)++((E+1+1+1,.cells #[.func (.func 204) #[] #[pt w.heap.size,pt (E+1+1),pt E,pt (E+1)]] 332)::(E+1+1+1+1,bS sb)::(G1 sb a tb bb::(J++R))))) (l':=Jp w.heap.size (E+1+1) E (E+1) c0.1 G f t++((E+1+1+1,.cells #[.func (.func 204) #[] #[pt w.heap.size,pt (E+1+1),pt E,pt (E+1)]] 332)::(E+1+1+1+1,bS sb)::(G0 a N W Z++(G1 sb a tb bb::J)++R))) (fun c=>by simp;omega)).mem_iff.1 M)
  have ae:D∉keys (G0 a N W Z++((Jp w.heap.size (E+1+1) E (E+1) c0.1 G f t)++((E+1+1+1,.cells #[.func (.func 204) #[] #[pt w.heap.size,pt (E+1+1),pt E,pt (E+1)]] 332)::(E+1+1+1+1,bS sb)::(G1 sb a tb bb::(J++R))))):=fun hm=>by
   obtain⟨o,ho⟩:=GE.1 hm;have h1:=a2.has.own D o ho;rw[hK]at h1
   cases h1
   have:=ah _ ho
   cases this
  have ab:=uh a2;have HK:=uh hK;have aB:=uh ae;have a9:=uh (⟨ba,ag⟩:Lh B B' c0.1 1 /\ GD bb B' (W.length/2) J);clear hT a2 hK ae ah
  gi_wp2_with fail
  refine(N_.2 HG.out).mono ?_;rintro e w5 ⟨⟨u,rfl⟩,c5,T6⟩;have af:=(T6.same D (Qk HK.out) aB.out).trans HK.out;have T7:=(ab.out.trans T6).perm (l2:=((Jp w.heap.size (E+1+1) E (E+1) c0.1 G f t)++[(E+1+1+1,.cells #[.func (.func 204) #[] #[pt w.heap.size,pt (E+1+1),pt E,pt (E+1)]] 332),(E+1+1+1+1,bS sb)])++(G0 a N (lay W f (t-f)) c5++(G1 sb a tb bb::J)++R)) po
  have T8:=T7.drop.grownB (B:=W0.heap.size) a5 (fun y M=>by
   rcases s_.1 M with M|M
   · rcases s_.1 M with M|M
     ·exact Lf _ _ _ _ y M
     · rcases t_.1 M with rfl|M
       ·rfl
       ·exact ag.cells y M
   ·exact aL y M) (grownBy_putObj' w5 D (.deferred none)) (fun r e=>by cases e;exact⟨hD,_,af,rfl⟩)
  have aG:=uh T8;clear T6 T7 T8 HG qf qt ab
  gi_wp2_with fail
  refine⟨by simp,.inl ⟨_,_,rfl,run_takeDeferred af,?_⟩⟩;refine⟨iV 0,?_,B',J,c5,rfl,a9.out.1,a9.out.2,by rw[aA.out];exact aG.out⟩;simp[results,results152,go_sem]
end
section
open Go Go.RowKit Go.Shelf Go.IntWalk
theorem XU {w0:World}(w:World)(sb a y tb bb:Nat){W B:List Nat}{lb R:List Blk}{E:Int}(hB:GD bb B (W.length/2) lb)(a4:u64ok B)(a3:(W.length/2+63)/64 <= B.length)
  (T:Turn [] w0 (G0 a y W E++(G1 sb a tb bb::lb)++R) w)(hf:W.length <= 65536)(g:Int)(a1:g<0∨((W.length/2:Nat):Int) <= g∨Gv B g.toNat=false):
  Calls prog 152 #[pt sb,iV g] w fun e w'=>e=.returned (iV 3) /\ Turn [] w0 (G0 a y W E++(G1 sb a tb bb::lb)++R) w':=by
 have M:=uh (show ∀w' (X:List Blk),Turn [] w0 (((w.heap.size,.cells #[iV g] 3)::lb)++X) w' -> Calls prog 160 #[pt bb,iV g] w' fun e a5=>e=.returned (.bool false) /\ Below w'.heap.size w' a5 from fun w' X V=>by
  obtain⟨bo,cap,hA⟩:=hB.at_ (R:=(w.heap.size,.cells #[iV g] 3)::X) (V.has.perm po)
  by_cases h:g<0∨((W.length/2:Nat):Int) <= g
  ·exact Ds w' bb _ B bo cap hA g h
  · obtain⟨k,rfl⟩:∃k:Nat,g=k:=⟨g.toNat,by omega⟩
    have hb:Gv B k=false:=by
     rcases a1 with h1|h1|h1
     ·exact absurd (.inl h1) h
     ·exact absurd (.inr h1) h
     ·simpa using h1
    have:=PX w' bb _ B bo cap hA a4 a3 k O O;rw[hb]at this;exact this)
 have T0:=T.alloc (.cells #[iV g] 3);have Z:=uh (show Turn [] w0 (((w.heap.size,.cells #[iV g] 3)::lb)++(G0 a y W E++(G1 sb a tb bb::R))) (w.alloc (.cells #[iV g] 3)).drew from(T0.perm po).drew)
 have HS:=uh (fun w' (V:Turn [] w0 (((w.heap.size,.cells #[iV g] 3)::lb)++(G0 a y W E++(G1 sb a tb bb::R))) w')=>(⟨V.has.cell (b:=sb) (c:=#[pt a,pt tb,pt bb]) (e:=129) (f:=(0,0)) (by simp[G1]) 2,V.cell1 0⟩:
  w'.cell? (aD sb 2)=some (pt bb) /\ w'.cell? (aD w.heap.size 0)=some (iV g)))
 clear T0 T hB a1
 go_enter func152,ntmps152
 go_wp2_with fail
 refine J1 (fun W'=>Turn [] w0 (((w.heap.size,.cells #[iV g] 3)::lb)++(G0 a y W E++(G1 sb a tb bb::R))) W'.drew) Z.out fun W1 T1=>?_;have r:=HS.out _ T1;have G:=uh T1;clear T1 Z;refine F_ ?_;refine rG (S:=fun W'=>W'.cell? (aD sb 2)=some (pt bb) /\ W'.cell? (aD w.heap.size 0)=some (iV g)) 7 ?_;refine G2 0 12 r ?_;refine G2 1 13 r ?_;refine G2 2 14 r ?_;refine Jt 3 15 r (fun w U=>U.1) ?_;refine Jt 4 16 r (fun w U=>U.2) ?_;refine G5 5 (fun K hK=>?_)
 go_simp
 refine(M.out _ _ G.out).mono ?_;rintro e w2 ⟨rfl,a0⟩;have J:=uh (G.out.call a0);have N:=HS.out _ J.out;clear G a0 r;refine hK.out _ _ N fun _=>?_;clear hK K;simp only[Gb,G7,G6];refine G2 6 18 N ?_;refine P_ kr ?_ _;refine z_ ?_;have a2:=uh ((J.out.perm (l2:=(w.heap.size,.cells #[iV g] 3)::(G0 a y W E++(G1 sb a tb bb::lb)++R)) po).tail);clear N J HS M
 go_wp2_with fail
 go_ret;exact⟨rfl,a2.out⟩
end
section
open Go Go.RowKit Go.Shelf Go.IntWalk
attribute [local go_sem] Oper.semAt_some
def M6 (s sb:Nat)(g id n:Int)(er:Value):List Blk:=
 [(s+1+1+1+1,.cells #[er] 37),(s+1+1+1,.cells #[iV n] 3),(s+1+1,.cells #[iV id] 3),(s+1,.cells #[iV g] 3),(s,bS sb)]
theorem VZ (nn:Nat)(w:World)(sb a aw tb:Nat){W:List Nat}(ak:Option Addr)(ae:Nat)(L:List Ty)(hA:SpAt w sb a aw tb W ak ae L)(hf:W.length <= 65536)(an:∀t∈L,TyIn t)(hL:L.length <= 1000)
  (g E n:Int)(a6:GH L E n≠0∨g<0∨((W.length/2:Nat):Int) <= g)(hn:3 <= nn):
  CallsIn Fence.wide nn prog 25 #[pt sb,iV g,iV E,iV n] w fun e w'=>e=.returned (iV (if GH L E n≠0 then GH L E n else 2)) /\ Below w.heap.size w w':=by
 have h1:1 <= nn:=O;have h3:Fence.wide.fn 25:= trivial;have h6:Fence.wide.fn 79:= trivial;have h8:Fence.wide.fn 67:= trivial;have r:Fence.wide.round=none:=rfl;have ab:=Gr;have a9:=uh (fun w' (hB:Below w.heap.size w w')=>FD w' L an hL tb ak ae (hA.below hB).tab E n)
 obtain⟨x0,x1,x2,x3,hx,ah⟩:∃x0 x1 x2 x3:Value,KB L E n=[x0,x1,x2,x3] /\ (#[x0,x1,x2,x3]:Array Value).all (·.oneCell')=true:=by
  unfold KB
  split
  ·exact⟨_,_,_,_,rfl,Yn (cs:=[yV 1,iV E,iV n,iV (GY L E n:Nat)]) (by simp[Value.oneCell'])⟩
  ·exact⟨_,_,_,_,rfl,LA⟩
 rw[hx]at a9;have ag:=uh (fun w' (hB:Below w.heap.size w w')=>Rk w' (hA.below hB).c0 (hA.below hB).ar hf);have T0:=(((((r_ (C_ w)).alloc (bS sb)).alloc (.cells #[iV g] 3)).alloc (.cells #[iV E] 3)).alloc (.cells #[iV n] 3)).alloc (.cells #[iV 0] 37);simp only[Y_]at T0;have a8:Hid (Turn [] w (M6 w.heap.size sb g E n (iV 0)) (((((w.alloc (bS sb)).alloc (.cells #[iV g] 3)).alloc (.cells #[iV E] 3)).alloc (.cells #[iV n] 3)).alloc (.cells #[iV 0] 37))):=uh T0;have a7:∀w' (Y:List Blk),Turn [] w (Y++M6 w.heap.size sb g E n (iV 0)) w' -> w'.cell? (aD w.heap.size 0)=some (pt sb):=fun w' Y V=>V.has.cell (b:=w.heap.size) (c:=#[pt sb]) (e:=53) (f:=(0,0)) (by simp[M6]) 0;have hq:=a7 _ [] a8.out
 have HS:=uh (fun w' (Y:List Blk) (V:Turn [] w (Y++M6 w.heap.size sb g E n (iV 0)) w')=>(⟨a7 w' Y V,(hA.below V.below).c1,
    V.has.cell (b:=w.heap.size+1+1) (c:=#[iV E]) (e:=3) (f:=(0,0)) (by simp[M6]) 0,V.has.cell (b:=w.heap.size+1+1+1) (c:=#[iV n]) (e:=3) (f:=(0,0)) (by simp[M6]) 0⟩:
    w'.cell? (aD w.heap.size 0)=some (pt sb) /\ w'.cell? (aD sb 1)=some (pt tb) /\ w'.cell? (aD (w.heap.size+1+1) 0)=some (iV E) /\ w'.cell? (aD (w.heap.size+1+1+1) 0)=some (iV n)))
 have a4:=uh (fun w' (Y:List Blk) (V:Turn [] w (Y++M6 w.heap.size sb g E n (iV 0)) w')=>(⟨a7 w' Y V,V.has.cell (b:=w.heap.size+1) (c:=#[iV g]) (e:=3) (f:=(0,0)) (by simp[M6]) 0⟩:
    w'.cell? (aD w.heap.size 0)=some (pt sb) /\ w'.cell? (aD (w.heap.size+1) 0)=some (iV g)))
 have HR:=uh (fun w' (M:Nat) (er:Int) (V:Turn [] w ([(M,.cells #[x0,x1,x2,x3] 125)]++M6 w.heap.size sb g E n (iV 0)) w')=>by
  have V':=V.perm (l2:=(w.heap.size+1+1+1+1,.cells #[iV 0] 37)::(M,.cells #[x0,x1,x2,x3] 125)::(w.heap.size+1+1+1,.cells #[iV n] 3)::(w.heap.size+1+1,.cells #[iV E] 3)::(w.heap.size+1,.cells #[iV g] 3)::[(w.heap.size,bS sb)]) (Yh fun c=>by simp[M6];omega);have V2:=V'.setCell 0 (iV er);exact(⟨V'.cell1 0,V'.free1 0,V2.cell1 0,V2.below⟩:w'.cell? (aD (w.heap.size+1+1+1+1) 0)=some (iV 0) /\ w'.frozen? (aD (w.heap.size+1+1+1+1) 0)=false /\ (w'.setCell (aD (w.heap.size+1+1+1+1) 0) (iV er)).cell? (aD (w.heap.size+1+1+1+1) 0)=some (iV er) /\ Below w.heap.size w (w'.setCell (aD (w.heap.size+1+1+1+1) 0) (iV er))))
 have ap:W.length/2 <= 32768:=O;obtain⟨z,hz⟩:∃z:Nat,W.length/2=z:=⟨_,rfl⟩;rw[hz]at ag a6 ap;generalize GH L E n=er at*;obtain⟨res,a3⟩:∃res:Int,(if er≠0 then er else 2)=res:=⟨_,rfl⟩;rw[a3];have aa:=uh a3;clear a3;clear T0 hA hz a7 hx;refine Xk func25 rfl h3 ?_ r;simp only[ntmps25,Z_,B_,Qj,Nat.reduceAdd,Nat.reduceSub,S_,R_,Qc,X_,L_,Qd]
 gi_wp2_with fail
 have am:=uh a8.out.drew;generalize((((w.alloc (bS sb)).alloc (.cells #[iV g] 3)).alloc (.cells #[iV E] 3)).alloc (.cells #[iV n] 3)).alloc (.cells #[iV 0] 37)=W1 at*;clear a8 hq
 apply Un (I:=fun M w'=>Turn [] w ((M,.cells #[x0,x1,x2,x3] 125)::M6 w.heap.size sb g E n (iV 0)) w')
 case h=>
  have T1:=am.out;have a0:=HS.out _ [] T1;refine Ge ?_;refine Bh (S:=fun W'=>W'.cell? (aD w.heap.size 0)=some (pt sb) /\ W'.cell? (aD sb 1)=some (pt tb) /\ W'.cell? (aD (w.heap.size+1+1) 0)=some (iV E) /\ W'.cell? (aD (w.heap.size+1+1+1) 0)=some (iV n)) 13 ?_;refine N6 0 17 r a0 (fun w J=>J.1) ?_;refine Jr 1 18 r a0 ?_;refine Jr 2 19 r a0 ?_;refine N6 3 20 r a0 (fun w J=>J.2.1) ?_;refine N6 4 21 r a0 (fun w J=>J.2.2.1) ?_;refine N6 5 22 r a0 (fun w J=>J.2.2.2) ?_;clear a0;generalize W1.drew=V0 at T1 ⊢;refine S3 (i:=6) (j:=10) kr rfl rfl (fun K G=>?_) (fun K G=>?_)
  · go_simp
    refine(N_.2 (a9.out _ T1.below)).mono ?_;rintro e V1 ⟨rfl,hB⟩;have T2:=T1.call hB;have N:=HS.out _ [] T2;refine G.out _ _ N ?_;clear G K;simp only[Gb,G7,G6];refine Jr 7 16 r N ?_;refine Jr 8 24 r N ?_;refine Jr 9 25 r N ?_;refine Ga (i:=10) kr rfl (fun K G=>?_)
    go_simp
    have T3:Turn [] w ([(V1.heap.size,zH)]++M6 w.heap.size sb g E n (iV 0)) (V1.alloc zH):=T2.alloc zH;have Z:=HS.out _ _ T3;refine G.out _ _ Z ?_;clear G K;simp only[Gb,G7,G6];clear Z N T2;generalize V1.alloc zH=V3 at*;generalize V1.heap.size=M at*;have ac:=T3.there1;have U:=T3.laid [x0,x1,x2,x3] rfl;refine Ga (i:=11) kr rfl (fun K G=>?_);refine LR rfl rfl 125 _ _ rfl _ 0 #[x0,x1,x2,x3] rfl rfl ac ab ah (Gc _ _) ?_;have a1:=HS.out _ [_] U;refine G.out _ _ a1 ?_;clear G K;simp only[Gb,G7,G6];refine Jr 12 10 r a1 ?_;refine Gx kr ?_ _;refine z_ ?_;exact⟨rfl,M,rfl,U⟩
  · go_simp
    have T2:Turn [] w ([(V0.heap.size,zH)]++M6 w.heap.size sb g E n (iV 0)) (V0.alloc zH):=T1.alloc zH;have N:=HS.out _ _ T2;refine G.out _ _ N ?_;clear G K;simp only[Gb,G7,G6];clear N;generalize V0.alloc zH=V2 at T2 ⊢;generalize V0.heap.size=M at T2 ⊢;refine Ga (i:=6) kr rfl (fun K G=>?_)
    go_simp
    refine(N_.2 (a9.out _ T2.below)).mono ?_;rintro e V3 ⟨rfl,hB⟩;have T3:=T2.call hB;have Z:=HS.out _ [_] T3;refine G.out _ _ Z ?_;clear G K;simp only[Gb,G7,G6];refine Jr 7 16 r Z ?_;refine Jr 8 24 r Z ?_;refine Jr 9 25 r Z ?_;clear Z;have ac:=T3.there1;have U:=T3.laid [x0,x1,x2,x3] rfl;refine Ga (i:=11) kr rfl (fun K G=>?_);refine LR rfl rfl 125 _ _ rfl _ 0 #[x0,x1,x2,x3] rfl rfl ac ab ah (Gc _ _) ?_;have a1:=HS.out _ [_] U;refine G.out _ _ a1 ?_;clear G K;simp only[Gb,G7,G6];refine Jr 12 10 r a1 ?_;refine Gx kr ?_ _;refine z_ ?_;exact⟨rfl,M,rfl,U⟩
 case hq=>
  intro M w6 T5;have af:Hid (Turn [] w ([(M,.cells #[x0,x1,x2,x3] 125)]++M6 w.heap.size sb g E n (iV 0)) w6):=uh T5;have T6:Turn [] w ([(M,.cells #[x0,x1,x2,x3] 125)]++M6 w.heap.size sb g E n (iV 0)) w6.drew:=T5.drew;have y:=a4.out _ _ T6;clear T5
  by_cases he:er=0
  · subst he
    have a5:=uh (show res=2 by have:=aa.out;simpa using this.symm);obtain⟨c8,f8,r8,b8⟩:=HR.out _ M 2 af.out;have a2:g<0∨(z:Int) <= g:=a6.resolve_left (by simp);clear a6
    by_cases hg:g<0
    · have k0:decide (g<0)=true:=k_ hg
      clear a2
      gi_wp2_with fail
      refine Ge ?_;refine Bh (S:=fun W'=>W'.cell? (aD w.heap.size 0)=some (pt sb) /\ W'.cell? (aD (w.heap.size+1) 0)=some (iV g)) 8 ?_;refine N6 0 29 r y (fun w J=>J.2) ?_;refine Jr 1 30 r y ?_;refine Jr 2 31 r y ?_;refine jq 3 32 r y ?_;refine jq 4 33 r y ?_;refine Ga (i:=5) kr rfl (fun K G=>?_)
      go_simp
      refine G.out _ _ y ?_;clear G K;simp only[Gb,G7,G6];refine jq 6 35 r y ?_;refine Jr 7 36 r y ?_;refine Gx kr ?_ _;refine z_ ?_;clear y HS a4
      gi_wp2_with fail
      refine f_ (v:=iV 2) ?_ rfl ?_
      ·simp[results,results25,go_sem,r8]
      ·exact⟨by rw[a5.out],b8.drew⟩
    · have k0:decide (g<0)=false:=b_ hg
      have k1:decide ((z:Int) <= g)=true:=k_ (a2.resolve_left hg);clear a2
      gi_wp2_with fail
      refine Ge ?_;refine Bh (S:=fun W'=>W'.cell? (aD w.heap.size 0)=some (pt sb) /\ W'.cell? (aD (w.heap.size+1) 0)=some (iV g)) 8 ?_;refine N6 0 29 r y (fun w J=>J.2) ?_;refine Jr 1 30 r y ?_;refine Jr 2 31 r y ?_;refine N6 3 32 r y (fun w J=>J.2) ?_;refine N6 4 33 r y (fun w J=>J.1) ?_;refine Ga (i:=5) kr rfl (fun K G=>?_)
      go_simp
      refine(N_.2 (ag.out _ T6.below)).mono ?_;rintro e V6 ⟨rfl,aj⟩;rw[aj];clear aj V6;refine G.out _ _ y ?_;clear G K;simp only[Gb,G7,G6];refine Jr 6 35 r y ?_;refine Jr 7 36 r y ?_;refine Gx kr ?_ _;refine z_ ?_;clear y HS a4
      gi_wp2_with fail
      refine f_ (v:=iV 2) ?_ rfl ?_
      ·simp[results,results25,go_sem,r8]
      ·exact⟨by rw[a5.out],b8.drew⟩
  · have a5:=uh (show res=er by have:=aa.out;rw[v_ he]at this;exact this.symm)
    have ke:(er != 0)=true:=(by rw[Qe];exact he);obtain⟨c8,f8,r8,b8⟩:=HR.out _ M er af.out;clear a6 y T6 HS a4
    gi_wp2_with fail
    refine f_ (v:=iV er) ?_ rfl ?_
    ·simp[results,results25,go_sem,r8]
    ·exact⟨by rw[a5.out],b8⟩
end
section
open Go Go.RowKit Go.Shelf Go.IntWalk
def Mn (os:List Ce):List Nat:=0::os.map fun c=>c.1+c.2.size
theorem Sf {os:List Ce}{i:Nat}{c:Ce}(h:os[i]?= some c):Mn (os.take (i+1))=Mn (os.take i)++[c.1+c.2.size]:=by rw[K8 h];simp[Mn]
theorem UP:∀(os:List Ce) (e i:Nat),i <= os.length -> (e::os.map fun c=>c.1+c.2.size)[i]?= some (Gg e (os.take i))
 | _,e,0,_=>rfl
 | c::os,e,i+1,h=>by
  rw[List.getElem?_cons_succ,Zn,List.take_succ_cons];exact UP os _ i (by simpa using h)
 | [],_,i+1,h=>by simp at h
theorem TL (os:List Ce){i:Nat}(h:i <= os.length):(J7 (Mn os))[i]?= some (iV (Gg 0 (os.take i):Nat)):=by
 have:=UP os 0 i h;unfold J7 Mn;rw[G_,this]
 rfl
theorem LM (os:List Ce){i:Nat}(h:i <= os.length):(J7 (Mn (os.take i)))[i]?= some (iV (Gg 0 (os.take i):Nat)):=by
 have:=TL (os.take i) (i:=i) (by simp;omega);rw[List.take_take,Nat.min_self]at this;exact this
def bitsOf (B:List Nat)(z:Nat)(os:List Ce):Prop:=∀i,i<z -> (Gv B i=true↔∃c∈os,c.1=i)
theorem bitsOf.clr {B B':List Nat}{z:Nat}(h:Lh B B' 0 z):bitsOf B' z []:=fun i r=>by
 rw[h.2.2 i];have:(decide (0 <= i) && decide (i<0+z))=true:=by simp;omega
 rw[this];simp
theorem bitsOf.set {B B':List Nat}{z:Nat}{os:List Ce}{c:Ce}(y:bitsOf B z os)(h:Lg B B' c.1 1):bitsOf B' z (os++[c]):=fun i E=>by
 rw[h.2.2 i,Bool.or_eq_true,y i E,Xn,Zx,Zx]
 constructor
 · rintro(⟨d,hd,r⟩|h1)
   ·exact⟨d,Zr _ hd,r⟩
   ·exact⟨c,by simp,by omega⟩
 · rintro⟨d,hd,r⟩
   rcases s_.1 hd with hd|hd
   ·exact .inl ⟨d,hd,r⟩
   · rw[Qa.1 hd]at r
     exact .inr O
theorem Ef {w0:World}(w:World)(sb a E tb bb:Nat){W B:List Nat}{lb R:List Blk}{G:Int}(aB:Option Addr)(ae:Nat)(L:List Ty)(hB:GD bb B (W.length/2) lb)(bB:u64ok B)(ba:(W.length/2+63)/64 <= B.length)
  (T:Turn [] w0 (G0 a E W G++(G1 sb a tb bb::lb)++R) w)(aR:TabAt w0 tb aB ae L)(aQ:Fields w0)(hf:W.length <= 65536)(hu:∀v∈W,v<18446744073709551616)(bC:∀t∈L,TyIn t)(hL:L.length <= 1000)
  (os:List Ce)(hr:JR L W 0 os)(aa:Option Addr)(aP:Nat)(CZ:∀(w':World) (X:List Blk),Turn [] w0 (X++R) w' -> Src w' aa os.length aP 1 (M9 (Sj os))):
  Calls prog 155 #[pt sb,.slice aa os.length aP] w fun e w'=>e=.returned (iV 0) /\ ∃(B':List Nat) (bh:List Blk) (bz:Int),B'.length=B.length /\ u64ok B' /\ bitsOf B' (W.length/2) os /\ GD bb B' (W.length/2) bh /\
   Turn [] w0 (G0 a E (GL (W.length/2) W os 0) bz++(G1 sb a tb bb::bh)++R) w':=by
 have bX:=MB hr (u_ _);have bM:W.length/2 <= 32768:=O
 have aM:=uh (fun w' (W':List Nat) (c':Int) (Y:List Blk) (hl:W'.length <= 65536) (V:Turn [] w0 (G0 a E W' c'++(G1 sb a tb bb::Y)) w')=>
  (⟨V.has.cell (b:=sb) (c:=#[pt a,pt tb,pt bb]) (e:=129) (f:=(0,0)) (by simp[G1]) 0,V.has.cell (b:=sb) (c:=#[pt a,pt tb,pt bb]) (e:=129) (f:=(0,0)) (by simp[G1]) 1,JQ V.has hl,aR.below V.below,range_below aQ V.below⟩:SpAt w' sb a E tb W' aB ae L))
 have b7:=uh (fun w' (Y:List Blk) (V:Turn [] w0 (G1 sb a tb bb::Y) w')=>(V.cell1 2:w'.cell? (aD sb 2)=some (pt bb)));have bv:=uh (fun w' (A:SpAt w' sb a E tb W aB ae L) (g:Int)=>QE w' A.fields A.ar hu L bC hL tb aB ae A.tab g);have Hr:=uh (fun i c=>MC hr (i:=i) (c:=c));have b4:=uh (KU hr);have HA:=uh (fun(h:0<os.length) w' X (V:Turn [] w0 (X++R) w')=>(CZ w' X V).form (by rw[Nj,M1];exact h));have bR:=uh (fun w' X (V:Turn [] w0 (X++R) w')=>CZ w' X V);have bQ:∀v:Nat,∀u∈([iV v]:List Value),u.oneCell'=true:=by intro v u hu;simp at hu;subst hu;rfl
 have HB:=uh hB;have HT:=uh (T.perm (l2:=G0 a E W G++(G1 sb a tb bb::(lb++R))) po);have az:Gh 3 1 (some (aD w.heap.size 0)) 1 1 (J7 (Mn (os.take 0))) [(w.heap.size,.cells #[iV 0] 3)]:=⟨rfl,g_ _,by decide,.inr ⟨_,_,rfl,rfl,by decide,rfl⟩⟩;have aY:=uh az;have aZ:=uh (HT.out.alloc (.cells #[iV 0] 3));have bq:=uh aQ;clear T hB aR aQ CZ az
 go_enter func155,ntmps155
 go_wp2_with fail
 go_loopw [5,18] (fun v5 aW wr=>∃(i:Nat) (b5 p5:Nat) (y:List Blk),i <= os.length /\ aW=iV i /\ v5=.slice (some (aD b5 0)) (i+1) p5 /\ Gh 3 1 (some (aD b5 0)) (i+1) p5 (J7 (Mn (os.take i))) y /\ Turn [] w0 (y++(G0 a E W G++(G1 sb a tb bb::(lb++R)))) wr) (fun _ aW _=>os.length-(intOf aW).toNat)
 case atStart=>exact⟨0,w.heap.size,1,_,u_ _,by go_num,by go_num,aY.out,aZ.out⟩
 case round=>
  clear aZ aY;obtain⟨i,b5,p5,y,hi,rfl,rfl,a3,T⟩:=hrel
  by_cases ax:i<os.length
  · have bm:(i:Int)<(os.length:Int):=O
    obtain⟨c,hc⟩:∃c,os[i]?= some c:=⟨os[i],a_ ax⟩;obtain⟨be,a4,aT⟩:=Hr.out i c hc;have bf:=Lz a4 aT;have ay:=a4.2.2;have aU:=T.perm (l2:=(y++(G0 a E W G++(G1 sb a tb bb::lb)))++R) po;obtain⟨ab,bj,rfl,a2⟩:=HA.out O wr _ aU;have aS:=a2 i _ (Kr (M2 hc));have T7:=T.perm (l2:=G0 a E W G++(G1 sb a tb bb::(y++(lb++R)))) po;have an:=uh (Sf hc);have bk:=(a3.src (R:=G0 a E W G++(G1 sb a tb bb::(lb++R))) T.has);have ag:=uh (fun w' Y (V:Turn [] w0 (G0 a E W G++(G1 sb a tb bb::Y)) w')=>aM.out w' W G Y hf V)
    have a8:=uh (fun w' Y (V:Turn [] w0 (G0 a E W G++(G1 sb a tb bb::Y)) w')=>by
     have h:=bv.out w' (ag.out w' Y V) c.1;rw[bf]at h;exact h)
    simp only at a8;have av:=LM os (i:=i) O;generalize a0:Gg 0 (os.take i)=en at*;have k1:decide ((c.1:Int)<(en:Int))=false:=b_ O;have k2:decide (c.1<en)=false:=b_ O;have b3:=uh T7.drew;have aJ:=uh a3;have ap:=uh av;clear aU a2 T T7 bk a3 av a4 bf a0 HB
    go_wp2_with fail
    refine J1 (fun W'=>Turn [] w0 (G0 a E W G++(G1 sb a tb bb::(y++(lb++R)))) W'.drew) b3.out fun W1 T1=>?_;have r:=(⟨(ag.out _ _ T1).c0,(ag.out _ _ T1).c1⟩:W1.drew.cell? (aD sb 0)=some (pt a) /\ W1.drew.cell? (aD sb 1)=some (pt tb));have aC:=uh T1;clear T1 b3 aS;refine F_ ?_;refine rG (S:=fun W'=>W'.cell? (aD sb 0)=some (pt a) /\ W'.cell? (aD sb 1)=some (pt tb)) 15 ?_;refine G2 0 23 r ?_;refine G2 1 24 r ?_;refine G2 2 25 r ?_;refine Jt 3 26 r (fun w Z=>Z.1) ?_;refine G2 4 27 r ?_;refine G2 5 28 r ?_;refine G2 6 29 r ?_;refine Jt 7 30 r (fun w Z=>Z.2) ?_;refine G2 8 31 r ?_;refine G5 9 (fun K hK=>?_)
    go_simp
    refine(a8.out _ _ aC.out).mono ?_;rintro e w2 ⟨vb,rfl,T2⟩;have T3:=aC.out.grow T2;have T4:=T3.perm (l2:=G0 a E W G++(G1 sb a tb bb::((vb,.cells (G4 a c.1 c.2 (tyAt L c.2.typ)).toArray 179)::(y++(lb++R))))) po;have a1:=(⟨(ag.out _ _ T4).c0,(ag.out _ _ T4).c1⟩:w2.cell? (aD sb 0)=some (pt a) /\ w2.cell? (aD sb 1)=some (pt tb));have a5:=uh (T3.perm (l2:=y++((vb,.cells (G4 a c.1 c.2 (tyAt L c.2.typ)).toArray 179)::(G0 a E W G++(G1 sb a tb bb::(lb++R))))) po);have hv:LN w2 vb a c.1 c.2 (tyAt L c.2.typ):=(T3.has.range (d_ ..));have HV:=uh hv;clear T2 T3 T4 r aC hv a8;refine hK.out _ _ a1 fun _=>?_;clear hK K;simp only[Gb,G7,G6];refine G2 10 22 a1 ?_;refine G2 11 33 a1 ?_;refine G2 12 34 a1 ?_;refine G2 13 8 a1 ?_;refine G2 14 9 a1 ?_;refine P_ kr ?_ _;refine z_ ?_;clear a1
    have q5:w2.cell? (aD b5 i)=some (iV en):=by
     have h:=(aJ.out.src (R:=(vb,.cells (G4 a c.1 c.2 (tyAt L c.2.typ)).toArray 179)::(G0 a E W G++(G1 sb a tb bb::(lb++R)))) a5.out.has).at_ _ rfl i _ ap.out;rw[KS,Q_]at h;exact h
    have bV:i <= 65536:=O;have bT:c.1+c.2.size <= 65536:=O;have bA:i+1+1 <= maxLen:=(by unfold maxLen;omega);have bD:(i+1+1)*8 <= 140737488355328:=O
    go_wp2_with fail
    refine(Fe w2 HV.out).mono ?_;rintro e w3 ⟨rfl,b8⟩;unfold KM;have bU:∀w:World,(Instr.field 125 (.agg #[yV c.2.tag,iV c.2.typ,iV c.2.len,iV c.2.size]) 3).run prog w=.ok (iV c.2.size) w:=fun _=>by kernel_rfl
    have bP:∀w:World,(Instr.field 125 (.agg #[yV 1,iV c.2.typ,iV c.2.len,iV c.2.size]) 3).run prog w=.ok (iV c.2.size) w:=fun _=>by kernel_rfl
    have b1:=uh (a5.out.call b8);clear b8 a5 q5 HV ap
    go_wp2_with (first
     | (at_builtin;refine K_ rfl _ _ rfl L4 rfl aJ.out (R:=(w3.heap.size,.cells #[iV ((c.1:Int)+(c.2.size:Int))] 3)::(vb,.cells (G4 a c.1 c.2 (tyAt L c.2.typ)).toArray 179)::(G0 a E W G++(G1 sb a tb bb::(lb++R)))) ((b1.out.alloc (.cells #[iV ((c.1:Int)+(c.2.size:Int))] 3)).perm po).has rfl (news:=[iV ((c.1:Int)+(c.2.size:Int))]) rfl (Qy (A_ _ _)) (by simp[Value.oneCell']) bA bD ?_;intro a9 p9 l9 w9 bg V9 bG;have bt:=uh (((b1.out.alloc (.cells #[iV ((c.1:Int)+(c.2.size:Int))] 3)).perm (l2:=y++((w3.heap.size,.cells #[iV ((c.1:Int)+(c.2.size:Int))] 3)::(vb,.cells (G4 a c.1 c.2 (tyAt L c.2.typ)).toArray 179)::(G0 a E W G++(G1 sb a tb bb::(lb++R))))) po).trans V9);have b6:=uh bg;clear bg V9 bG)
     | fail)
    obtain⟨b9,bN,rfl,-,-,-⟩:=b6.out.some_of O
    go_roundw
    case rel=>
     refine⟨i+1,b9,p9,l9,by omega,by go_num,by go_num,?_,((bt.out.perm (l2:=[(w3.heap.size,.cells #[iV ((c.1:Int)+(c.2.size:Int))] 3),(vb,.cells (G4 a c.1 c.2 (tyAt L c.2.typ)).toArray 179)]++(l9++(G0 a E W G++(G1 sb a tb bb::(lb++R))))) po).drop)⟩;rw[an.out,GS];have h9:J7 [c.1+c.2.size]=[iV ((c.1:Int)+(c.2.size:Int))]:=(by simp[J7]);rw[h9];exact b6.out
    case measure=>simp[intOf];omega
  · obtain rfl:i=os.length:=O
    have bY:¬((os.length:Nat):Int)<(os.length:Int):=O;rw[D_]at a3;have b0:=uh ((T.perm (l2:=lb++(G0 a E W G++(G1 sb a tb bb::(y++R)))) po).drew);have aJ:=uh a3
    have an:=uh (fun w' (X:List Blk) (j:Nat) (hj:j <= os.length) (V:Turn [] w0 (X++(y++R)) w')=>by
     have h:=(a3.src (R:=X++R) (V.has.perm po)).at_ _ rfl j _ (TL os hj);rw[KS,Q_]at h;exact h)
    have hB:=HB.out;have aF:=uh (fun w' (X:List Blk) (V:Turn [] w0 (lb++X) w')=>EV w' bb _ B lb X hB bB ba O V);clear T a3 hi ax hB;obtain⟨z,hz⟩:∃z:Nat,W.length/2=z:=⟨_,rfl⟩;rw[hz]at aF bM b4;have HZ:=uh hz;clear hz
    go_wp2_with fail
    refine J1 (fun W'=>Turn [] w0 (lb++(G0 a E W G++(G1 sb a tb bb::(y++R)))) W'.drew) b0.out fun W1 T1=>?_;have A1:=aM.out W1.drew W G (lb++(y++R)) hf (T1.perm po);have aK:=uh (fun w' (Y:List Blk) (V:Turn [] w0 (Y++(G0 a E W G++(G1 sb a tb bb::(y++R)))) w')=>b7.out w' (Y++(G0 a E W G++(y++R))) (V.perm po));have r:=aK.out _ _ T1;have aG:=uh (Rk _ A1.c0 A1.ar hf);rw[HZ.out]at aG;have aE:=uh (aF.out _ _ T1);rw[show((0:Nat):Int)=0 from rfl]at aE;clear T1 A1 b0;refine F_ ?_;refine rG (S:=fun W'=>W'.cell? (aD sb 2)=some (pt bb)) 7 ?_;refine G2 0 56 r ?_;refine G2 1 57 r ?_;refine G2 2 58 r ?_;refine Jt 3 59 r (fun w Z=>Z) ?_;refine G2 4 60 r ?_;refine G5 5 (fun K hK=>?_)
    go_simp
    refine aG.out.mono ?_;rintro e w2 ⟨rfl,bJ⟩;subst bJ;refine hK.out _ _ r fun _=>?_;clear hK K;simp only[Gb,G7,G6];refine G5 6 (fun K hK=>?_)
    go_simp
    refine aE.out.mono ?_;rintro e w3 ⟨rfl,B1,aV,au,N,T3⟩;have bc:=aK.out _ _ T3;have a5:=uh (T3.perm (l2:=G0 a E W G++(G1 sb a tb bb::(aV++(y++R)))) po);have af:=uh (⟨au.1,au.2.1,bitsOf.clr au,N⟩:B1.length=B.length /\ u64ok B1 /\ bitsOf B1 z [] /\ GD bb B1 z aV);clear au N T3 aG aE r;refine hK.out _ _ bc fun _=>?_;clear hK K;simp only[Gb,G7,G6];refine P_ kr ?_ _;refine z_ ?_;clear bc
    go_wp2_with fail
    go_loopw [65] (fun aX wr=>∃(j en:Nat) (J Bj:List Nat) (M:List Blk) (cj:Int),j <= os.length /\ aX=iV j /\ en=Gg 0 (os.take j) /\ GL z J (os.drop j) en=GL z W os 0 /\ J.length=W.length /\ Bj.length=B.length /\ u64ok Bj /\ bitsOf Bj z (os.take j) /\ GD bb Bj z M /\ Turn [] w0 (G0 a E J cj++(G1 sb a tb bb::(M++(y++R)))) wr) (fun aX _=>os.length-(intOf aX).toNat)
    case atStart=>exact⟨0,0,W,B1,aV,G,u_ _,by go_num,rfl,rfl,rfl,af.out.1,af.out.2.1,af.out.2.2.1,af.out.2.2.2,a5.out⟩
    case round=>
     clear a5 af;obtain⟨j,en,J,Bj,M,cj,hj,rfl,a0,a6,U,ah,aq,aj,N,T⟩:=hrel
     by_cases ax:j<os.length
     · have bm:(j:Int)<(os.length:Int):=O
       obtain⟨c,hc⟩:∃c,os[j]?= some c:=⟨os[j],a_ ax⟩;obtain⟨be,a4,aT⟩:=Hr.out j c hc;rw[←a0]at be;have ay:=a4.2.2;rw[HZ.out]at ay;have bn:=a4.pos;rw[Rn hc]at a6;have bu:=uh (Ma hc);have bx:=uh (K8 hc);obtain⟨ab,bj,rfl,a2⟩:=HA.out O wr _ (T.perm (l2:=(G0 a E J cj++(G1 sb a tb bb::(M++y)))++R) po);have aS:=a2 j _ (Kr (M2 hc));have bH:=b7.out wr (G0 a E J cj++(M++(y++R))) (T.perm po);have aL:=uh (gR wr bb z c.1 Bj M (G0 a E J cj++(G1 sb a tb bb::(y++R))) N aq (by rw[ah];rw[←HZ.out];exact ba) O O (T.perm po));have bp:(c.1:Int)-(en:Int)=((c.1-en:Nat):Int):=O;have HQ:=uh (⟨a6,U,ah,aj⟩:GL z (lay J en (c.1-en)) (os.drop (j+1)) (c.1+c.2.size)=GL z W os 0 /\ J.length=W.length /\ Bj.length=B.length /\ bitsOf Bj z (os.take j));have ac:=uh (fun w' (X:List Blk) (V:Turn [] w0 (X++(y++R)) w')=>an.out w' X j hj V);rw[←a0]at ac;have bL:IntKind.i64.wrap (((c.1-en:Nat)):Int)=((c.1-en:Nat):Int):=i64_in _ O;have bW:(j:Int)<(os.length:Int)+1:=O;have bF:en+(c.1-en) <= J.length/2:=(by rw[U,HZ.out];omega);have bE:J.length <= 65536:=(by rw[U];exact hf);clear hc a4 aT T a6 U ah aq aj N a2 a0 bn
       go_wp2_with fail
       refine aL.out.mono ?_;rintro e w4 ⟨rfl,B5,a7,aA,N,T4⟩;have ak:=uh (⟨aA.1.trans HQ.out.2.2.1,aA.2.1,HQ.out.2.2.2.set aA,N⟩:B5.length=B.length /\ u64ok B5 /\ bitsOf B5 z (os.take j++[c]) /\ GD bb B5 z a7);have b2:=uh ((T4.perm (l2:=(G0 a E J cj++(G1 sb a tb bb::a7))++(y++R)) po).drew);clear aA N T4 aL aS bH
       go_wp2_with fail
       refine J1 (fun W'=>Turn [] w0 ((G0 a E J cj++(G1 sb a tb bb::a7))++(y++R)) W'.drew) b2.out fun W1 T1=>?_;have r:=ac.out _ _ T1;have aN:=T1.perm (l2:=G0 a E J cj++(G1 sb a tb bb::(a7++(y++R)))) po;have HG:=uh (XT _ (range_below bq.out aN.below) aN (s:=sb) (tb:=tb) (bb:=bb) (d_ ..) bE en (c.1-en) bF);clear T1 aN b2;refine F_ ?_;refine rG (S:=fun W'=>W'.cell? (aD b5 j)=some (iV en)) 12 ?_;refine G2 0 76 r ?_;refine G2 1 77 r ?_;refine G2 2 78 r ?_;refine G2 3 79 r ?_;refine Jt 4 80 r (fun w Z=>Z) ?_;refine G2 5 81 r ?_;refine G2 6 82 r ?_;refine G2 7 83 r ?_;refine G2 8 84 r ?_;refine Jt 9 85 r (fun w Z=>Z) ?_;refine G2 10 86 r ?_;refine G5 11 (fun K hK=>?_)
       go_simp
       refine HG.out.mono ?_;rintro e w6 ⟨⟨u,rfl⟩,c6,T6⟩;have bd:=ac.out _ _ (T6.perm (l2:=(G0 a E (lay J en (c.1-en)) c6++(G1 sb a tb bb::a7))++(y++R)) po);have br:=uh T6;clear T6 HG r;refine hK.out _ _ bd fun _=>?_;clear hK K;simp only[Gb,G7,G6];refine P_ kr ?_ _;refine z_ ?_;clear bd ac
       go_wp2_with fail
       go_roundw
       case rel=>exact⟨j+1,c.1+c.2.size,_,B5,a7,c6,by omega,by go_num,bu.out.symm,HQ.out.1,by rw[Gz];exact HQ.out.2.1,ak.out.1,ak.out.2.1,by rw[bx.out];exact ak.out.2.2.1,ak.out.2.2.2,br.out⟩
       case measure=>simp[intOf];omega
     · obtain rfl:j=os.length:=O
       rw[Rp (g_ _)]at a6;rw[D_]at aj;have hb:=b4.out os.length;rw[←a0]at hb;have hq:=an.out wr (G0 a E J cj++(G1 sb a tb bb::M)) os.length (g_ _) (T.perm po);rw[←a0]at hq;have A2:=aM.out wr J cj (M++(y++R)) (by rw[U];exact hf) T;have aH:=uh (Rk _ A2.c0 A2.ar (by rw[U];exact hf));rw[U,HZ.out]at aH;have HG:=uh (XT _ A2.fields T (s:=sb) (tb:=tb) (bb:=bb) (d_ ..) (by rw[U];exact hf) en (z-en) (by rw[U,HZ.out];omega));rw[a6]at HG;have am:=uh (⟨ah,aq,aj,N⟩:Bj.length=B.length /\ u64ok Bj /\ bitsOf Bj z os /\ GD bb Bj z M);have bp:(z:Int)-(en:Int)=((z-en:Nat):Int):=O;have bL:IntKind.i64.wrap (((z-en:Nat)):Int)=((z-en:Nat):Int):=i64_in _ O;have bZ:os.length <= 65536:=by have:=HZ.out;omega
       clear T A2 a6 U ah aq aj N a0
       go_wp2_with fail
       refine aH.out.mono ?_;rintro e w7 ⟨rfl,bK⟩;subst bK
       go_wp2_with fail
       refine HG.out.mono ?_;rintro e w8 ⟨⟨u,rfl⟩,c8,T8⟩;have bs:=uh ((T8.perm (l2:=y++(G0 a E (GL z W os 0) c8++(G1 sb a tb bb::M)++R)) po).drop);clear T8 HG aH hq
       go_wp2_with fail
       go_ret;refine⟨rfl,Bj,M,c8,am.out.1,am.out.2.1,?_,?_,?_⟩
       ·rw[HZ.out];exact am.out.2.2.1
       ·rw[HZ.out];exact am.out.2.2.2
       ·rw[HZ.out];exact bs.out
end
end Go.Proofs.YtoaofpohakaliaaGreatDoor
