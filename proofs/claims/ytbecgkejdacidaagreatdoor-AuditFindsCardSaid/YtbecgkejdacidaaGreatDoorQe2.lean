/-
  A part of a proof: texts packed by a program of mine.
  Conditions: those that each theorem states.
-/
import Derived.StillTailTactics
import Derived.Deep.QuietTactic
import Derived.BigQuiet
import Derived.Laws.MakeOwn
import Derived.OrdersIn
import Derived.OrdersHeld
import Derived.Deep.RegionHeld
import Derived.RangeFuncNested
import Derived.RangeFuncBox
import Derived.Test.YtbecgkejdacidaaGreatDoorQe1
set_option maxRecDepth 100000
set_option maxHeartbeats 12800000
open Go.Proofs.Tryz
namespace Go.Proofs.YtbecgkejdacidaaGreatDoor
section
open Go Go.RowKit Go.IntWalk
@[simp] abbrev rN (a:Option Addr)(W:List Nat)(c:Nat)(l:Option Addr)(n k:Nat):Obj:=.cells #[.slice a W.length c,.slice l n k] 109
attribute [simp] zH zT bS
def headAt (W:List Nat)(g:Int):Option Hd:=if 0 <= g /\ g<(W.length/2:Nat)then decode (W.getD (2*g.toNat) 0)else none
def headErr (W:List Nat)(g:Int):Int:=if 0 <= g /\ g<(W.length/2:Nat)then(if (decode (W.getD (2*g.toNat) 0)).isSome then 0 else 7)else 2
theorem headAt_out {W:List Nat}{g:Int}(h:¬(0 <= g /\ g<(W.length/2:Nat))):headAt W g=none /\ headErr W g=2:=⟨if_neg h,if_neg h⟩
theorem headAt_in {W:List Nat}{g v:Nat}(h:g<W.length/2)(hv:W[2*g]?= some v):headAt W g=decode v /\ headErr W g=if (decode v).isSome then 0 else 7:=by
 have hg:W.getD (2*(g:Int).toNat) 0=v:=by rw[Int.toNat_natCast,List.getD_eq_getElem?_getD,hv];rfl
 have hc:0 <= (g:Int) /\ (g:Int)<((W.length/2:Nat):Int):=⟨by omega,by exact_mod_cast h⟩;unfold headAt headErr;rw[hg,if_pos hc,if_pos hc];exact⟨rfl,rfl⟩
theorem shead (w:World)(hF:Fields w){a aw:Nat}{W:List Nat}(hA:ArAt w a aw W)(hu:∀v∈W,v<18446744073709551616)(g:Int):
  Calls prog 126 #[pt a,.int .i64 g] w fun e w'=>e=.returned (.tuple #[hdVal ((headAt W g).getD hd0),.int .i64 (headErr W g)]) /\ Below w.heap.size w w':=by
 have hsz:=sz_head;have T0:=(Turn.refl (Has.nil w)).alloc zH;have hth:(w.alloc zH).there w.heap.size 0 4:=T0.there1;have HZ:=uh (T0.laid [.int .u8 0,.int .i64 0,.int .i64 0,.int .i64 0] rfl);have hoZ:=hd0_one;have hA1:=hA.below T0.below;have Hg:=uh (grans _ hA1);have hf:=hA.few
 by_cases hin:0 <= g /\ g<(W.length/2:Nat)
 · obtain⟨g,rfl⟩:∃q:Nat,g=q:=⟨g.toNat,by omega⟩
   have hlt:g<W.length/2:=(by omega);obtain⟨v,hv⟩:∃v,W[2*g]?= some v:=⟨W[2*g]'(by omega),List.getElem?_eq_getElem _⟩;obtain⟨e1,e2⟩:=headAt_in hlt hv;rw[e1,e2];have hd:(decode v).getD hd0=decHd v:=rfl;rw[hd];have hvl:=hu v (List.mem_of_getElem? hv);have Hl:=uh (aload _ hA1 (2*g) v hv);rw[show((2*g:Nat):Int)=2*(g:Int)by omega]at Hl;have hg3:g <= 65536:=(by omega);have Hd:=uh (hdec _ (range_below hF T0.below) v hvl);have k1:decide ((g:Int)<0)=false:=decide_eq_false (by omega);obtain⟨z,hz⟩:∃z:Nat,W.length/2=z:=⟨_,rfl⟩;rw[hz]at Hg hlt;have k2:decide ((z:Int) <= (g:Int))=false:=decide_eq_false (by omega);have k3:¬(z:Int) <= (g:Int):=(by omega);have HT0:=uh T0;generalize decHd v=hh at*;obtain⟨xa,xb,xc,xd⟩:=hh;have hoX:=hd_one ⟨xa,xb,xc,xd⟩;obtain⟨er,Her⟩:∃er:Int,Hid ((if (decode v).isSome=true then(0:Int)else 7)=er):=⟨_,uh rfl⟩;rw[Her.out]at Hd;rw[Her.out];clear hin e1 e2 hd hv hA hA1 hF hu T0 HZ hz Her
   go_enter func126,ntmps126
   go_wp2_with (first
    | (go_at_call 129;refine Hg.out.mono ?_;rintro e w' ⟨rfl,hw⟩;rw[hw];clear hw w')
    | (go_at_call 169;refine Hl.out.mono ?_;rintro e w' ⟨rfl,hw⟩;rw[hw];clear hw w')
    | (go_at_call 187;refine Hd.out.mono ?_;rintro e w5 ⟨rfl,hB5⟩;have HT5:=uh (HT0.out.call hB5);clear hB5)
    | (show sW 79;refine wpList_store_mid rfl 79 _ _ rfl _ 0 #[.int .u8 xa,.int .i64 xb,.int .i64 xc,.int .i64 xd] rfl rfl HT5.out.there1 hsz hoX ?_;have HT6:=uh (HT5.out.laid [.int .u8 xa,.int .i64 xb,.int .i64 xc,.int .i64 xd] rfl))
    | fail)
   refine bodyPost_ret (res_two results126 _ _ _ _ _ rfl HT6.out.range1 underlying79 rfl hsz) rfl ⟨rfl,HT6.out.below⟩
 · obtain⟨e1,e2⟩:=headAt_out hin
   rw[e1,e2];obtain⟨z,hz⟩:∃z:Nat,W.length/2=z:=⟨_,rfl⟩;rw[hz]at Hg hin;clear e1 e2 hA hA1 hF hu T0 hz
   by_cases hg:g<0
   · have k1:decide (g<0)=true:=decide_eq_true hg
     clear hin
     go_enter func126,ntmps126
     go_wp2_with (first
      | (show sW 79;refine wpList_store_mid rfl 79 _ _ rfl _ 0 #[.int .u8 0,.int .i64 0,.int .i64 0,.int .i64 0] rfl rfl hth hsz hoZ ?_)
      | fail)
     refine bodyPost_ret (res_two results126 _ _ _ _ _ rfl HZ.out.range1 underlying79 rfl hsz) rfl ⟨rfl,HZ.out.below⟩
   · have k1:decide (g<0)=false:=decide_eq_false hg
     have k2:decide ((z:Int) <= g)=true:=decide_eq_true (by omega);have k3:(z:Int) <= g:=(by omega);clear hin
     go_enter func126,ntmps126
     go_wp2_with (first
      | (go_at_call 129;refine Hg.out.mono ?_;rintro e w' ⟨rfl,hw⟩;rw[hw];clear hw w')
      | (show sW 79;refine wpList_store_mid rfl 79 _ _ rfl _ 0 #[.int .u8 0,.int .i64 0,.int .i64 0,.int .i64 0] rfl rfl hth hsz hoZ ?_)
      | fail)
     refine bodyPost_ret (res_two results126 _ _ _ _ _ rfl HZ.out.range1 underlying79 rfl hsz) rfl ⟨rfl,HZ.out.below⟩
theorem head8 (w:World){W:List Nat}(ao:Option Addr)(cap:Nat)(hS:Src w ao W.length cap 1 (u64s W))(hf:W.length <= 65536)(hu:∀v∈W,v<18446744073709551616)(g:Int):
  Calls prog 181 #[.slice ao W.length cap,.int .i64 g] w fun e w'=>e=.returned (.tuple #[hdVal ((headAt W g).getD hd0),.int .i64 (headErr W g)]) /\ Below w.heap.size w w':=by
 have hsz:=sz_head;have T0:=(Turn.refl (Has.nil w)).alloc zH;have hth:(w.alloc zH).there w.heap.size 0 4:=T0.there1;have HZ:=uh (T0.laid [.int .u8 0,.int .i64 0,.int .i64 0,.int .i64 0] rfl);have hoZ:=hd0_one;have h2:((W.length:Int)).tdiv 2=((W.length/2:Nat):Int):=tdiv_nat _ 2;have h2':(W.length:Int)/2=((W.length/2:Nat):Int):=by omega
 by_cases hin:0 <= g /\ g<(W.length/2:Nat)
 · obtain⟨g,rfl⟩:∃q:Nat,g=q:=⟨g.toNat,by omega⟩
   have hlt:g<W.length/2:=(by omega);obtain⟨v,hv⟩:∃v,W[2*g]?= some v:=⟨W[2*g]'(by omega),List.getElem?_eq_getElem _⟩;obtain⟨e1,e2⟩:=headAt_in hlt hv;rw[e1,e2];have hd:(decode v).getD hd0=decHd v:=rfl;rw[hd];have hvl:=hu v (List.mem_of_getElem? hv);obtain⟨b,off,rfl,hc⟩:=hS.form (by rw[u64s_length];omega);have c1:=(T0.below.cell (p:=⟨b,off+2*g,none⟩) (World.block_lt_of_cell? w _ (hc _ _ (u64s_get hv)))).trans (hc _ _ (u64s_get hv));have Hd:=uh (fun W=>dec7 W v hvl);have k1:decide ((g:Int)<0)=false:=decide_eq_false (by omega);have k5:(2*(g:Int)).toNat=2*g:=(by omega);have k6:2*(g:Int)<(W.length:Int):=(by omega);obtain⟨z,hz⟩:∃z:Nat,W.length/2=z:=⟨_,rfl⟩;rw[hz]at h2 h2' hlt;have k2:decide ((z:Int) <= (g:Int))=false:=decide_eq_false (by omega);have k3:¬(z:Int) <= (g:Int):=(by omega);have HT0:=uh T0;generalize decHd v=hh at*;obtain⟨xa,xb,xc,xd⟩:=hh;have hoX:=hd_one ⟨xa,xb,xc,xd⟩;obtain⟨er,Her⟩:∃er:Int,Hid ((if (decode v).isSome=true then(0:Int)else 7)=er):=⟨_,uh rfl⟩;rw[Her.out]at Hd;rw[Her.out];clear hin e1 e2 hd hv hS hu T0 HZ hz Her hc
   go_enter func181,ntmps181
   go_wp2_with (first
    | (go_at_call 227;refine(Hd.out _).mono ?_;rintro e w5 ⟨rfl,hB5⟩;have HT5:=uh (HT0.out.call hB5);clear hB5)
    | (show sW 79;refine wpList_store_mid rfl 79 _ _ rfl _ 0 #[.int .u8 xa,.int .i64 xb,.int .i64 xc,.int .i64 xd] rfl rfl HT5.out.there1 hsz hoX ?_;have HT6:=uh (HT5.out.laid [.int .u8 xa,.int .i64 xb,.int .i64 xc,.int .i64 xd] rfl))
    | fail)
   refine bodyPost_ret (res_two results181 _ _ _ _ _ rfl HT6.out.range1 underlying79 rfl hsz) rfl ⟨rfl,HT6.out.below⟩
 · obtain⟨e1,e2⟩:=headAt_out hin
   rw[e1,e2];obtain⟨z,hz⟩:∃z:Nat,W.length/2=z:=⟨_,rfl⟩;rw[hz]at h2 h2' hin;clear e1 e2 hS hu T0 hz
   by_cases hg:g<0
   · have k1:decide (g<0)=true:=decide_eq_true hg
     clear hin
     go_enter func181,ntmps181
     go_wp2_with (first
      | (show sW 79;refine wpList_store_mid rfl 79 _ _ rfl _ 0 #[.int .u8 0,.int .i64 0,.int .i64 0,.int .i64 0] rfl rfl hth hsz hoZ ?_)
      | fail)
     refine bodyPost_ret (res_two results181 _ _ _ _ _ rfl HZ.out.range1 underlying79 rfl hsz) rfl ⟨rfl,HZ.out.below⟩
   · have k1:decide (g<0)=false:=decide_eq_false hg
     have k2:decide ((z:Int) <= g)=true:=decide_eq_true (by omega);have k3:(z:Int) <= g:=(by omega);clear hin
     go_enter func181,ntmps181
     go_wp2_with (first
      | (show sW 79;refine wpList_store_mid rfl 79 _ _ rfl _ 0 #[.int .u8 0,.int .i64 0,.int .i64 0,.int .i64 0] rfl rfl hth hsz hoZ ?_)
      | fail)
     refine bodyPost_ret (res_two results181 _ _ _ _ _ rfl HZ.out.range1 underlying79 rfl hsz) rfl ⟨rfl,HZ.out.below⟩
end
section
open Go Go.RowKit Go.IntWalk
def objq (L:List Ty)(W:List Nat)(g:Int):Option Hd:=match headAt W g with
 | none=>none
 | some h=>if h.tag=1 /\ fitErr L h=0 /\ g.toNat+h.size <= W.length/2 then some h else none
abbrev viewCells (a:Nat)(g:Int)(h:Hd)(t:Ty):List Value:=[pt a,.int .i64 g,.int .u8 h.tag,.int .i64 h.typ,.int .i64 h.len,.int .i64 h.size,.int .u8 t.kind,.int .i64 t.words,.int .u64 t.mask]
theorem may_in {h:Hd}(hm:h.may):HdIn h:=by
 obtain⟨m1,m2,m3,m4⟩:=hm;exact⟨by omega,by omega,by omega,by omega⟩
theorem headAt_some {W:List Nat}{g:Int}{h:Hd}(hh:headAt W g=some h):h.may /\ 0 <= g /\ g<(W.length/2:Nat) /\ headErr W g=0:=by
 unfold headAt at hh
 split at hh
 · rename_i hc
   refine⟨(decode_some hh).1,hc.1,hc.2,?_⟩;unfold headErr;rw[if_pos hc,hh]
   rfl
 ·cases hh
theorem headAt_none {W:List Nat}{g:Int}(hh:headAt W g=none):headErr W g≠0:=by
 unfold headAt at hh;unfold headErr
 split at hh
 · rename_i hc
   rw[if_pos hc,hh]
   decide
 · rename_i hc
   rw[if_neg hc]
   decide
theorem sof (w:World)(hF:Fields w){a aw:Nat}{W:List Nat}(hA:ArAt w a aw W)(hu:∀v∈W,v<18446744073709551616)(L:List Ty)(hTy:∀t∈L,TyIn t)(hL:L.length <= 1000)(tb:Nat)(ao:Option Addr)(cap:Nat)(hT:TabAt w tb ao cap L)(g:Int):
  Calls prog 49 #[pt a,pt tb,.int .i64 g] w fun e w'=>match objq L W g with
   | some h=>∃vb,e=.returned (.tuple #[pt vb,.int .i64 0]) /\ Turn [] w [(vb,.cells (viewCells a g h (tyAt L h.typ)).toArray 238)] w'
   | none=>∃er:Int,e=.returned (.tuple #[.pointer none,.int .i64 er]) /\ er≠0 /\ Below w.heap.size w w':=by
 have hsz:=sz_head;have hszT:=sz_type;have Hhd:=uh (shead w hF hA hu g);have Hgr:=uh (fun W' (hB:Below w.heap.size w W')=>grans W' (hA.below hB));have hfew:=hA.few;have hoZ:=hd0_one
 cases hh:headAt W g with
 | none=>
  have hne:=headAt_none hh;have hq:objq L W g=none:=by unfold objq;rw[hh]
  rw[hq];simp only;rw[hh]at Hhd;generalize headErr W g=er at*;clear hF hA hu hT hh hq Hgr hTy
  go_enter func49,ntmps49
  go_wp2_with fail
  refine Hhd.out.mono ?_;rintro e w1 ⟨rfl,hB1⟩;simp only[Option.getD_none];have T2:=(Turn.of_below (Has.nil w) hB1).alloc zH;have hth:(w1.alloc zH).there w1.heap.size 0 4:=T2.there1;have HT2:=uh (T2.laid [.int .u8 0,.int .i64 0,.int .i64 0,.int .i64 0] rfl);clear T2 hB1 Hhd
  go_wp2_with (first
   | (show sW 79;refine wpList_store_mid rfl 79 _ _ rfl _ 0 #[.int .u8 0,.int .i64 0,.int .i64 0,.int .i64 0] rfl rfl hth hsz hoZ ?_)
   | fail)
  refine bodyPost_ret (results_tmp2 rfl _ _ _) rfl ?_;exact⟨er,rfl,hne,HT2.out.below⟩
 | some h=>
  obtain⟨hm,hg0,hg1,he0⟩:=headAt_some hh;obtain⟨g,rfl⟩:∃q:Nat,g=q:=⟨g.toNat,by omega⟩;have hq:objq L W g=if h.tag=1 /\ fitErr L h=0 /\ g+h.size <= W.length/2 then some h else none:=by unfold objq;rw[hh];simp
  rw[hq];rw[hh,he0]at Hhd;have HFit:=uh (fun W' (hB:Below w.heap.size w W')=>hfits W' (range_below hF hB) L hTy hL tb ao cap (hT.below hB) h (may_in hm));have Hget:=uh (fun W' (hB:Below w.heap.size w W')=>tget W' L tb ao cap (hT.below hB) hL h.typ);have hg3:g<W.length/2:=by omega
  obtain⟨z,hz⟩:∃z:Nat,W.length/2=z:=⟨_,rfl⟩;rw[hz]at hq Hgr hg3 ⊢;have hz2:z <= 65536:=by omega
  have hty:Hid (tyAt L h.typ=tyAt L h.typ):=uh rfl;clear hty;generalize hty:tyAt L h.typ=t at Hget;generalize(if (getTy L h.typ).isSome=true then(0:Int)else 3)=e27 at Hget;generalize hfe:fitErr L h=fe at*;obtain⟨xa,xb,xc,xd⟩:=h;simp only
  have hbd:xa <= 3 /\ xd<16777216:=by
   obtain⟨m1,m2,m3,m4⟩:=hm;simp only at m1 m2 m3 m4;omega
  obtain⟨k,m,mk⟩:=t
  refine(show ∀Qp:Ending -> World -> Prop,Hid (xa=1 /\ fe=0 /\ g+xd <= z -> ∀vb w',Turn [] w [(vb,.cells (viewCells a g ⟨xa,xb,xc,xd⟩ ⟨k,m,mk⟩).toArray 238)] w' -> Qp (.returned (.tuple #[pt vb,.int .i64 0])) w') ->
    Hid (¬(xa=1 /\ fe=0 /\ g+xd <= z) -> ∀w',Below w.heap.size w w' -> Qp (.returned (.tuple #[.pointer none,.int .i64 8])) w') ->
    Calls prog 49 #[pt a,pt tb,.int .i64 g] w Qp from ?_) _
    (uh (fun hc vb w' T=>by rw[if_pos hc];simp only;exact⟨vb,rfl,by rw[hty];exact T⟩)) (uh (fun hc w' hB=>by rw[if_neg hc];exact⟨8,rfl,by decide,hB⟩))
  clear hty hq;intro Qp HY HN;have hoX:=hd_one ⟨xa,xb,xc,xd⟩;have hoT:=ty_one ⟨k,m,mk⟩;simp only at hoX hoT;clear hF hA hu hT hh he0 hm hTy hg0 hg1 hz
  go_enter func49,ntmps49
  go_wp2_with fail
  refine Hhd.out.mono ?_;rintro e w1 ⟨rfl,hB1⟩;simp only[Option.getD_some];have T2:=((Turn.of_below (Has.nil w) hB1).alloc zH).laid [.int .u8 xa,.int .i64 xb,.int .i64 xc,.int .i64 xd] rfl;have hth:(w1.alloc zH).there w1.heap.size 0 4:=((Turn.of_below (Has.nil w) hB1).alloc zH).there1;have c1:=T2.cell1 1;have HT2:=uh T2;clear T2 hB1 Hhd
  go_wp2_with (first
   | (show sW 79;refine wpList_store_mid rfl 79 _ _ rfl _ 0 #[.int .u8 xa,.int .i64 xb,.int .i64 xc,.int .i64 xd] rfl rfl hth hsz hoX ?_;clear hth)
   | fail)
  refine(Hget.out _ HT2.out.below).mono ?_;rintro e w2 ⟨rfl,hB2⟩;have T3:=(HT2.out.call hB2).alloc zT;have hth3:(w2.alloc zT).there w2.heap.size 0 3:=T3.there1;have T4:=T3.laid [.int .u8 k,.int .i64 m,.int .u64 mk] rfl;have hr10:=T4.range1;have hr8:=T4.range2;have HT4:=uh T4;clear T3 T4 hB2 HT2 Hget c1
  go_upto_region 5 with(first
   | (show sW 49;refine wpList_store_mid rfl 49 _ _ rfl _ 0 #[.int .u8 k,.int .i64 m,.int .u64 mk] rfl rfl hth3 hszT hoT ?_;clear hth3)
   | fail)
  by_cases ht:xa=1
  · subst ht
    by_cases hf0:fe=0
    · subst hf0
      have k1:IntKind.i64.wrap ((z:Int)-(g:Int))=(z:Int)-(g:Int):=i64_in _ (by omega)
      by_cases hs:g+xd <= z
      · have k2:decide (((z:Int)-(g:Int))<(xd:Int))=false:=decide_eq_false (by omega)
        have HY2:=uh (HY.out ⟨rfl,rfl,hs⟩);clear HY HN hs
        go_wp2_with fail
        refine wp_abs (fun W=>Turn [] w [(w2.heap.size,.cells #[.int .u8 k,.int .i64 m,.int .u64 mk] 49),(w1.heap.size,.cells #[.int .u8 1,.int .i64 xb,.int .i64 xc,.int .i64 xd] 79)] W.drew) HT4.out.drew fun W hS=>?_;clear HT4 hr8 hr10;refine wp_region_noPanic ?_;refine wp_region_listed (S:=fun W'=>Turn [] w [(w2.heap.size,.cells #[.int .u8 k,.int .i64 m,.int .u64 mk] 49),(w1.heap.size,.cells #[.int .u8 1,.int .i64 xb,.int .i64 xc,.int .i64 xd] 79)] W') 18 [false,false,false,false,false,false,false,false,false,false,false,false,false,false,false,false,false,false] rfl rfl (by kernel_rfl) ?_;refine tkA 0 28 hS ?_;refine takeG 1 29 rfl rfl (by rfl) (by kernel_rfl) (by kernel_rfl) (by kernel_rfl) (fun _ _ _ _ h=>h) hS (by(intro w' hSw;have hc:w'.cell? ⟨w1.heap.size,0,none⟩=some (.int .u8 1):=hSw.cell2 0;clear hSw;go_simp;try rfl)) ?_;simp only[st1,st2];refine tkA 2 30 hS ?_;refine tkA 3 31 hS ?_;refine tkA 4 32 hS ?_;refine tkC 5 33 hS (fun w' hSw=>load_mid_run 79 _ rfl w1.heap.size 0 rfl [.int .u8 1,.int .i64 xb,.int .i64 xc,.int .i64 xd] _ hSw.range2 underlying79 rfl hsz) ?_;refine rdyA 6 (fun K hK=>?_)
        go_simp
        refine(HFit.out _ hS.below).mono ?_;rintro e W3 ⟨rfl,hB3⟩;have hS3:=hS.call hB3;refine hK.out _ _ hS3 fun _=>?_;clear hK K hS hB3;simp only[st0,st1,st2];refine tkA 7 35 hS3 ?_;refine tkA 8 36 hS3 ?_;refine tkA 9 37 hS3 ?_;refine tkA 10 38 hS3 ?_;refine takeG 11 39 rfl rfl (by rfl) (by kernel_rfl) (by kernel_rfl) (by kernel_rfl) (fun _ _ _ _ h=>h) hS3 (by(intro w' hSw;have hc:w'.cell? ⟨w1.heap.size,3,none⟩=some (.int .i64 xd):=hSw.cell2 3;clear hSw;go_simp;try rfl)) ?_;simp only[st1,st2];refine tkA 12 40 hS3 ?_;refine tkA 14 42 hS3 ?_;refine rdyA 13 (fun K hK=>?_)
        go_simp
        refine(Hgr.out _ hS3.below).mono ?_;rintro e W4 ⟨rfl,rfl⟩;have hS4:=hS3;refine hK.out _ _ hS4 fun _=>?_;clear hK K;simp only[st0,st1,st2];refine tkA 15 43 hS4 ?_;refine tkA 16 44 hS4 ?_;refine tkA 17 45 hS4 ?_;refine wpAnyH_done (by kernel_rfl) ?_ _;refine NoPanic.normal ?_;have hr8:=hS4.range2;have hr10:=hS4.range1;have HT9:=uh hS4;clear hS4
        go_wp2_with (first
         | (show lW 79;refine wpList_load_mid rfl 79 _ rfl w1.heap.size 0 rfl [.int .u8 1,.int .i64 xb,.int .i64 xc,.int .i64 xd] _ hr8 underlying79 rfl hsz ?_)
         | (show lW 49;refine wpList_load_mid rfl 49 _ rfl w2.heap.size 0 rfl [.int .u8 k,.int .i64 m,.int .u64 mk] _ hr10 underlying49 rfl hszT ?_)
         | fail)
        exact HY2.out _ _ ((HT9.out.alloc _).sub (List.Sublist.cons_cons _ (List.nil_sublist _)))
      · have k2:decide (((z:Int)-(g:Int))<(xd:Int))=true:=decide_eq_true (by omega)
        have k3:((z:Int)-(g:Int))<(xd:Int):=(by omega);have HN2:=uh (HN.out (fun h=>hs h.2.2));clear HY HN hs
        go_wp2_with fail
        refine wp_abs (fun W=>Turn [] w [(w2.heap.size,.cells #[.int .u8 k,.int .i64 m,.int .u64 mk] 49),(w1.heap.size,.cells #[.int .u8 1,.int .i64 xb,.int .i64 xc,.int .i64 xd] 79)] W.drew) HT4.out.drew fun W hS=>?_;clear HT4 hr8 hr10;refine wp_region_noPanic ?_;refine wp_region_listed (S:=fun W'=>Turn [] w [(w2.heap.size,.cells #[.int .u8 k,.int .i64 m,.int .u64 mk] 49),(w1.heap.size,.cells #[.int .u8 1,.int .i64 xb,.int .i64 xc,.int .i64 xd] 79)] W') 18 [false,false,false,false,false,false,false,false,false,false,false,false,false,false,false,false,false,false] rfl rfl (by kernel_rfl) ?_;refine tkA 0 28 hS ?_;refine takeG 1 29 rfl rfl (by rfl) (by kernel_rfl) (by kernel_rfl) (by kernel_rfl) (fun _ _ _ _ h=>h) hS (by(intro w' hSw;have hc:w'.cell? ⟨w1.heap.size,0,none⟩=some (.int .u8 1):=hSw.cell2 0;clear hSw;go_simp;try rfl)) ?_;simp only[st1,st2];refine tkA 2 30 hS ?_;refine tkA 3 31 hS ?_;refine tkA 4 32 hS ?_;refine tkC 5 33 hS (fun w' hSw=>load_mid_run 79 _ rfl w1.heap.size 0 rfl [.int .u8 1,.int .i64 xb,.int .i64 xc,.int .i64 xd] _ hSw.range2 underlying79 rfl hsz) ?_;refine rdyA 6 (fun K hK=>?_)
        go_simp
        refine(HFit.out _ hS.below).mono ?_;rintro e W3 ⟨rfl,hB3⟩;have hS3:=hS.call hB3;refine hK.out _ _ hS3 fun _=>?_;clear hK K hS hB3;simp only[st0,st1,st2];refine tkA 7 35 hS3 ?_;refine tkA 8 36 hS3 ?_;refine tkA 9 37 hS3 ?_;refine tkA 10 38 hS3 ?_;refine takeG 11 39 rfl rfl (by rfl) (by kernel_rfl) (by kernel_rfl) (by kernel_rfl) (fun _ _ _ _ h=>h) hS3 (by(intro w' hSw;have hc:w'.cell? ⟨w1.heap.size,3,none⟩=some (.int .i64 xd):=hSw.cell2 3;clear hSw;go_simp;try rfl)) ?_;simp only[st1,st2];refine tkA 12 40 hS3 ?_;refine tkA 14 42 hS3 ?_;refine rdyA 13 (fun K hK=>?_)
        go_simp
        refine(Hgr.out _ hS3.below).mono ?_;rintro e W4 ⟨rfl,rfl⟩;have hS4:=hS3;refine hK.out _ _ hS4 fun _=>?_;clear hK K;simp only[st0,st1,st2];refine tkA 15 43 hS4 ?_;refine tkA 16 44 hS4 ?_;refine tkA 17 45 hS4 ?_;refine wpAnyH_done (by kernel_rfl) ?_ _;refine NoPanic.normal ?_;have HT9:=uh hS4;clear hS4
        go_wp2
        exact HN2.out _ HT9.out.below
    · have hfe0:(fe != 0)=true:=by rw[bne_iff_ne];exact hf0
      have HN2:=uh (HN.out (fun h=>hf0 h.2.1));clear HY HN
      go_wp2_with fail
      refine wp_abs (fun W=>Turn [] w [(w2.heap.size,.cells #[.int .u8 k,.int .i64 m,.int .u64 mk] 49),(w1.heap.size,.cells #[.int .u8 1,.int .i64 xb,.int .i64 xc,.int .i64 xd] 79)] W.drew) HT4.out.drew fun W hS=>?_;clear HT4 hr8 hr10;refine wp_region_noPanic ?_;refine wp_region_listed (S:=fun W'=>Turn [] w [(w2.heap.size,.cells #[.int .u8 k,.int .i64 m,.int .u64 mk] 49),(w1.heap.size,.cells #[.int .u8 1,.int .i64 xb,.int .i64 xc,.int .i64 xd] 79)] W') 18 [false,false,false,false,false,false,false,false,false,false,false,false,false,false,false,false,false,false] rfl rfl (by kernel_rfl) ?_;refine tkA 0 28 hS ?_;refine takeG 1 29 rfl rfl (by rfl) (by kernel_rfl) (by kernel_rfl) (by kernel_rfl) (fun _ _ _ _ h=>h) hS (by(intro w' hSw;have hc:w'.cell? ⟨w1.heap.size,0,none⟩=some (.int .u8 1):=hSw.cell2 0;clear hSw;go_simp;try rfl)) ?_;simp only[st1,st2];refine tkA 2 30 hS ?_;refine tkA 3 31 hS ?_;refine tkA 4 32 hS ?_;refine tkC 5 33 hS (fun w' hSw=>load_mid_run 79 _ rfl w1.heap.size 0 rfl [.int .u8 1,.int .i64 xb,.int .i64 xc,.int .i64 xd] _ hSw.range2 underlying79 rfl hsz) ?_;refine rdyA 6 (fun K hK=>?_)
      go_simp
      refine(HFit.out _ hS.below).mono ?_;rintro e W3 ⟨rfl,hB3⟩;have hS3:=hS.call hB3;refine hK.out _ _ hS3 fun _=>?_;clear hK K hS hB3;simp only[st0,st1,st2];refine tkA 7 35 hS3 ?_;refine tkA 8 36 hS3 ?_;refine tkA 9 37 hS3 ?_;refine tkS 10 38 hS3 ?_;refine tkS 11 39 hS3 ?_;refine tkS 12 40 hS3 ?_;refine tkS 13 41 hS3 ?_;refine tkS 14 42 hS3 ?_;refine tkS 15 43 hS3 ?_;refine tkS 16 44 hS3 ?_;refine tkA 17 45 hS3 ?_;refine wpAnyH_done (by kernel_rfl) ?_ _;refine NoPanic.normal ?_;have HT9:=uh hS3;clear hS3
      go_wp2
      exact HN2.out _ HT9.out.below
  · have ht2:¬(xa:Int)=1:=by omega
    have ht3:((xa:Int) != 1)=true:=(by rw[bne_iff_ne];exact ht2);have HN2:=uh (HN.out (fun h=>ht h.1));have c0:=HT4.out.cell2 0;clear HY HN
    go_quiet (fail)
    go_wp2
    exact HN2.out _ (HT4.out.drewN _).below
abbrev VwAt (w:World)(vb a:Nat)(g:Int)(h:Hd)(t:Ty):Prop:=w.rangeAt vb 0 (viewCells a g h t)
theorem VwAt.c {w:World}{vb a:Nat}{g:Int}{h:Hd}{t:Ty}(hv:VwAt w vb a g h t){i:Nat}{v:Value}(h1:(viewCells a g h t)[i]?= some v):w.cell? ⟨vb,i,none⟩=some v:=by
 have:=hv i v h1
 rwa [Nat.zero_add]at this
theorem vhead (w:World){vb a:Nat}{g:Int}{h:Hd}{t:Ty}(hv:VwAt w vb a g h t):Calls prog 195 #[pt vb] w fun e w'=>e=.returned (hdVal h) /\ Below w.heap.size w w':=by
 have hsz:=sz_head;obtain⟨xa,xb,xc,xd⟩:=h;have T0:=(Turn.refl (Has.nil w)).alloc zH;have hv1:=range_below hv T0.below;have hth:(w.alloc zH).there w.heap.size 0 4:=T0.there1;have HT1:=uh (T0.laid [.int .u8 xa,.int .i64 xb,.int .i64 xc,.int .i64 xd] rfl);have hoX:=hd_one ⟨xa,xb,xc,xd⟩
 have hr:(w.alloc zH).rangeAt vb 2 [.int .u8 xa,.int .i64 xb,.int .i64 xc,.int .i64 xd]:=fun j v hj=>by
  have:=hv1 (2+j) v (by rw[show viewCells a g ⟨xa,xb,xc,xd⟩ t=[pt a,.int .i64 g]++([.int .u8 xa,.int .i64 xb,.int .i64 xc,.int .i64 xd]++tyCells t)from rfl,List.getElem?_append_right (by simp),show(2+j)-([pt a,Value.int .i64 g]:List Value).length=j by simp,List.getElem?_append_left (List.getElem?_eq_some_iff.1 hj).1,hj])
  rwa [Nat.zero_add]at this
 clear hv hv1 T0
 go_enter func195,ntmps195
 go_wp2_with (first
  | (show lW 79;refine wpList_load_mid rfl 79 _ rfl vb 2 rfl [.int .u8 xa,.int .i64 xb,.int .i64 xc,.int .i64 xd] _ hr underlying79 rfl hsz ?_)
  | (show sW 79;refine wpList_store_mid rfl 79 _ _ rfl _ 0 #[.int .u8 xa,.int .i64 xb,.int .i64 xc,.int .i64 xd] rfl rfl hth hsz hoX ?_)
  | fail)
 refine bodyPost_ret (res_cell results195 _ _ _ _ _ rfl HT1.out.range1 underlying79 rfl hsz) rfl ⟨rfl,HT1.out.below⟩
theorem vslots (w:World){vb a:Nat}{g:Int}{h:Hd}{t:Ty}(hv:VwAt w vb a g h t)(ht:TyIn t)(he:t.err h.len=0):Calls prog 143 #[pt vb] w fun e w'=>e=.returned (.int .i64 (t.slots h.len:Nat)) /\ Below w.heap.size w w':=by
 have Hsl:=uh (fun W=>kslots W t ht h.len);rw[he,if_pos rfl,Int.toNat_natCast]at Hsl;have hszT:=sz_type;have d4:=hv.c (i:=4) rfl;have d6:=hv.c (i:=6) rfl;have d7:=hv.c (i:=7) rfl;have d8:=hv.c (i:=8) rfl;have HT:=uh (Turn.refl (Has.nil w));generalize t.slots h.len=sl at*;obtain⟨xa,xb,xc,xd⟩:=h;obtain⟨k,m,mk⟩:=t;clear ht he
 go_enter func143,ntmps143
 go_wp2_with fail
 refine wp_abs (fun W=>Below w.heap.size w W.drew /\ W.drew.rangeAt vb 0 (viewCells a g ⟨xa,xb,xc,xd⟩ ⟨k,m,mk⟩)) ⟨HT.out.drew.below,hv⟩ fun W hW=>?_;obtain⟨hBW,hS⟩:=hW;have HBW:=uh hBW;clear hBW hv HT d4 d6 d7 d8;refine wp_region_noPanic ?_;refine wp_region_listed (S:=fun W'=>W'.rangeAt vb 0 (viewCells a g ⟨xa,xb,xc,xd⟩ ⟨k,m,mk⟩)) 15 [false,false,false,false,false,false,false,false,false,false,false,false,false,false,false] rfl rfl (by kernel_rfl) ?_;refine tkA 0 8 hS ?_;refine tkA 1 9 hS ?_;refine tkA 2 10 hS ?_;refine tkC 3 11 hS (fun w' hSw=>load_mid_run 49 _ rfl vb 6 rfl [.int .u8 k,.int .i64 m,.int .u64 mk] _ (fun j v hj=>by have:=hSw (6+j) v (by rw[show viewCells a g ⟨xa,xb,xc,xd⟩ ⟨k,m,mk⟩=[pt a,.int .i64 g,.int .u8 xa,.int .i64 xb,.int .i64 xc,.int .i64 xd]++[.int .u8 k,.int .i64 m,.int .u64 mk]from rfl,List.getElem?_append_right (by simp),show(6+j)-([pt a,.int .i64 g,.int .u8 xa,.int .i64 xb,.int .i64 xc,.int .i64 xd]:List Value).length=j by simp];exact hj);rwa [Nat.zero_add]at this) underlying49 rfl hszT) ?_
 refine tkA 4 12 hS ?_;refine tkA 5 13 hS ?_;refine tkA 6 14 hS ?_;refine tkA 7 15 hS ?_;refine takeG 8 16 rfl rfl (by rfl) (by kernel_rfl) (by kernel_rfl) (by kernel_rfl) (fun _ _ _ _ h=>h) hS (by(intro w' hSw;have hc:w'.cell? ⟨vb,4,none⟩=some (.int .i64 xc):=hSw 4 _ rfl;clear hSw;go_simp;try rfl)) ?_;simp only[st1,st2];refine rdyA 9 (fun K hK=>?_)
 go_simp
 refine(Hsl.out _).mono ?_;rintro e W3 ⟨rfl,hB3⟩;have hS3:=range_below hS hB3;have HB3:=uh (HBW.out.trans (hB3.mono HBW.out.size));refine hK.out _ _ hS3 fun _=>?_;clear hK K hS hB3;simp only[st0,st1,st2];refine tkA 10 7 hS3 ?_;refine tkA 11 18 hS3 ?_;refine tkA 12 19 hS3 ?_;refine tkA 13 3 hS3 ?_;refine tkA 14 4 hS3 ?_;refine wpAnyH_done (by kernel_rfl) ?_ _;refine NoPanic.normal ?_;clear hS3
 go_wp2
 go_ret;exact⟨rfl,HB3.out⟩
theorem vword (w:World){vb a g:Nat}{h:Hd}{t:Ty}(hv:VwAt w vb a g h t)(ht:TyIn t)(he:t.err h.len=0)(hg:g <= 65536)(s:Nat)(hs:s<t.slots h.len):Calls prog 130 #[pt vb,.int .i64 s] w fun e w'=>e=.returned (.tuple #[.int .i64 (2*g+1+s:Nat),.int .i64 0]) /\ Below w.heap.size w w':=by
 have Hsl:=uh (vslots w hv ht he);have Hd1:=uh (fun w2 (hB:Below w.heap.size w w2)=>VwAt.c (range_below hv hB) (i:=1) rfl);obtain⟨hm,h0,hn,-⟩:=err_ok.1 he;have hsm:=slots_most hm (n:=h.len) (by omega);have HT:=uh (Turn.refl (Has.nil w));generalize t.slots h.len=sl at*;have k1:decide ((s:Int)<0)=false:=decide_eq_false (by omega);have k2:decide ((sl:Int) <= (s:Int))=false:=decide_eq_false (by omega);have k3:¬(sl:Int) <= (s:Int):=by omega
 clear hv ht he hm h0 hn
 go_enter func130,ntmps130
 go_wp2_with (first
  | (go_at_call 143;refine Hsl.out.mono ?_;rintro e w2 ⟨rfl,hB2⟩;have HT2:=uh (HT.out.call hB2);have d1:=Hd1.out w2 hB2;clear hB2)
  | fail)
 refine bodyPost_ret (results_tmp2 rfl _ _ _) rfl ?_;refine⟨?_,HT2.out.below⟩;rw[show((2*g+1+s:Nat):Int)=2*(g:Int)+1+(s:Int)by omega]
 rfl
theorem vload (w:World){vb a aw g:Nat}{W:List Nat}{h:Hd}{t:Ty}(hA:ArAt w a aw W)(hv:VwAt w vb a g h t)(ht:TyIn t)(he:t.err h.len=0)(hg:g <= 65536)(s v:Nat)(hs:s<t.slots h.len)(hw:W[2*g+1+s]?= some v):
  Calls prog 103 #[pt vb,.int .i64 s] w fun e w'=>e=.returned (.tuple #[.int .u64 v,.int .i64 0]) /\ Below w.heap.size w w':=by
 have Hwd:=uh (vword w hv ht he hg s hs);have Hd0:=uh (fun w2 (hB:Below w.heap.size w w2)=>VwAt.c (range_below hv hB) (i:=0) rfl);have Hl:=uh (fun w2 (hB:Below w.heap.size w w2)=>aload w2 (hA.below hB) (2*g+1+s) v hw);generalize 2*g+1+s=q at*;clear hA hv ht he hw hs
 go_enter func103,ntmps103
 go_wp2_with (first
  | (go_at_call 130;refine Hwd.out.mono ?_;rintro e w2 ⟨rfl,hB2⟩;have d0:=Hd0.out w2 hB2;have Hl2:=uh (Hl.out w2 hB2);have HB:=uh hB2;clear hB2)
  | (go_at_call 169;refine Hl2.out.mono ?_;rintro e w3 ⟨rfl,hw3⟩;rw[hw3];clear hw3 w3)
  | fail)
 refine bodyPost_ret (results_tmp2 rfl _ _ _) rfl ?_;exact⟨rfl,HB.out⟩
theorem vstore {l L:List Blk}{w0:World}(w:World){vb a aw g:Nat}{W:List Nat}{n:Int}{h:Hd}{t:Ty}(T:Turn l w0 (arBlks a aw W n++L) w)(hf:W.length <= 65536)(hv:VwAt w vb a g h t)(ht:TyIn t)(he:t.err h.len=0)(hg:g <= 65536)(s v:Nat)(hs:s<t.slots h.len)(hw:2*g+1+s<W.length):
  Calls prog 50 #[pt vb,.int .i64 s,.int .u64 v] w fun e w'=>e=.returned (.int .i64 0) /\ ∃n':Int,Turn l w0 (arBlks a aw (W.set (2*g+1+s) v) n'++L) w':=by
 have Hwd:=uh (vword w hv ht he hg s hs);have Hd0:=uh (fun w2 (hB:Below w.heap.size w w2)=>VwAt.c (range_below hv hB) (i:=0) rfl);have Hst:=uh (fun w2 (hB:Below w.heap.size w w2)=>astore w2 (T.call hB) hf (2*g+1+s) v hw);generalize 2*g+1+s=q at*;clear T hv ht he hw hs
 go_enter func50,ntmps50
 go_wp2_with (first
  | (go_at_call 130;refine Hwd.out.mono ?_;rintro e w2 ⟨rfl,hB2⟩;have d0:=Hd0.out w2 hB2;have Hs2:=uh (Hst.out w2 hB2);clear hB2)
  | (go_at_call 45;refine Hs2.out.mono ?_;rintro e w3 ⟨rfl,n',hT'⟩;have HT':=uh hT';clear hT')
  | fail)
 go_ret;exact⟨rfl,n',HT'.out⟩
theorem addr8 (w:World)(g:Nat)(hg:g <= 65536):Calls prog 30 #[.int .i64 g] w fun e w'=>e=.returned (.int .u64 (1048576+2*g:Nat)) /\ w'=w:=by
 have k1:¬(g:Int)<0:=by omega
 obtain⟨z,Hz⟩:∃z:Nat,Hid (((z:Nat):Int)=1048576+2*(g:Int) /\ z=1048576+2*g):=⟨_,uh ⟨by omega,rfl⟩⟩;rw[←Hz.out.2]
 go_enter func30,ntmps30
 go_wp2
 go_ret;refine⟨?_,rfl⟩;rw[Hz.out.1]
 rfl
theorem saddr (w:World)(g:Nat)(hg:g <= 65536):Calls prog 51 #[.int .i64 g] w fun e w'=>e=.returned (.int .u64 (1048576+2*g:Nat)) /\ w'=w:=by
 have k1:¬(g:Int)<0:=by omega
 obtain⟨z,Hz⟩:∃z:Nat,Hid (((z:Nat):Int)=1048576+2*(g:Int) /\ z=1048576+2*g):=⟨_,uh ⟨by omega,rfl⟩⟩;rw[←Hz.out.2]
 go_enter func51,ntmps51
 go_wp2
 go_ret;refine⟨?_,rfl⟩;rw[Hz.out.1]
 rfl
theorem gap9 (w:World)(n:Nat)(h1:1 <= n)(h2:n<16777216):Calls prog 235 #[.int .i64 n] w fun e w'=>e=.returned (.int .u64 ((gapHd n).word:Nat)) /\ Below w.heap.size w w':=by
 have hsz:=sz_head;have hm:=gapHd_may h1 h2;obtain⟨tg,htg,ht⟩:∃tg:Nat,(if n=1 then 2 else 3)=tg /\ (tg=2∨tg=3):=⟨_,rfl,by split<;>simp⟩;have hgh:gapHd n=⟨tg,0,0,n⟩:=by unfold gapHd;rw[htg]
 rw[hgh]at hm ⊢;have Hg:=uh (fun W=>gap7 W tg n ht h1 h2);have He:=uh (fun W=>enc7 W ⟨tg,0,0,n⟩ (may_in hm));rw[if_pos hm,if_pos hm]at He;generalize(Hd.mk tg 0 0 n).word=z at*;have ho:(#[.int .u8 tg,.int .i64 0,.int .i64 0,.int .i64 n]:Array Value).all (·.oneCell')=true:=hd_one ⟨tg,0,0,n⟩;have hn:=Has.nil w;have HX:=uh (fun w1 (hB1:Below w.heap.size w w1)=>((Turn.of_below hn hB1).alloc zH).laid [.int .u8 tg,.int .i64 ((0:Nat):Int),.int .i64 ((0:Nat):Int),.int .i64 n] rfl);have HthX:=uh (fun w1 (hB1:Below w.heap.size w w1)=>(((Turn.of_below hn hB1).alloc zH).there1:(w1.alloc zH).there w1.heap.size 0 4));clear hm hgh hn;have arms:True:=trivial
 by_cases hn1:n=1
 · subst hn1
   rw[if_pos rfl]at htg;subst htg
   go_enter func235,ntmps235
   go_wp2_with (first
    | (go_at_call 265;refine(Hg.out _).mono ?_;rintro e w1 ⟨rfl,hB1⟩;have hth:=HthX.out w1 hB1;have HT:=uh (HX.out w1 hB1);have hr:=HT.out.range1;clear hB1)
    | (show sW 79;refine wpList_store_mid rfl 79 _ _ rfl _ 0 #[.int .u8 2,.int .i64 0,.int .i64 0,.int .i64 1] rfl rfl hth hsz ho ?_)
    | (show lW 79;refine wpList_load_mid rfl 79 _ rfl w1.heap.size 0 rfl [.int .u8 2,.int .i64 0,.int .i64 0,.int .i64 1] _ hr underlying79 rfl hsz ?_)
    | (go_at_call 237;refine(He.out _).mono ?_;rintro e w2 ⟨rfl,hB2⟩;have HT2:=uh (HT.out.call hB2);clear hB2)
    | fail)
   go_ret;exact⟨rfl,HT2.out.below⟩
 · rw[if_neg hn1]at htg
   subst htg;have k1:¬(n:Int)=1:=by omega
   go_enter func235,ntmps235
   go_wp2_with (first
    | (go_at_call 265;refine(Hg.out _).mono ?_;rintro e w1 ⟨rfl,hB1⟩;have hth:=HthX.out w1 hB1;have HT:=uh (HX.out w1 hB1);have hr:=HT.out.range1;clear hB1)
    | (show sW 79;refine wpList_store_mid rfl 79 _ _ rfl _ 0 #[.int .u8 3,.int .i64 0,.int .i64 0,.int .i64 n] rfl rfl hth hsz ho ?_)
    | (show lW 79;refine wpList_load_mid rfl 79 _ rfl w1.heap.size 0 rfl [.int .u8 3,.int .i64 0,.int .i64 0,.int .i64 n] _ hr underlying79 rfl hsz ?_)
    | (go_at_call 237;refine(He.out _).mono ?_;rintro e w2 ⟨rfl,hB2⟩;have HT2:=uh (HT.out.call hB2);clear hB2)
    | fail)
   go_ret;exact⟨rfl,HT2.out.below⟩
abbrev spBlk (s a tb bb:Nat):Blk:=(s,.cells #[pt a,pt tb,pt bb] 146)
theorem sgap {l L:List Blk}{w0:World}(w:World)(hF:Fields w){s a aw tb bb:Nat}{W:List Nat}{c:Int}(T:Turn l w0 (arBlks a aw W c++L) w)(hs:spBlk s a tb bb∈L)(hf:W.length <= 65536)(g n:Nat)(hg:g+n <= W.length/2):
  Calls prog 68 #[pt s,.int .i64 g,.int .i64 n] w fun e w'=>(∃u,e=.returned u) /\ ∃c':Int,Turn l w0 (arBlks a aw (lay W g n) c'++L) w':=by
 have hsz:=sz_head
 by_cases h0:n=0
 · subst h0
   have hl:lay W g 0=W:=(by unfold lay;rw[if_pos rfl]);rw[hl];have HT:=uh T;clear T hl
   go_enter func68,ntmps68
   go_wp2
   refine bodyPost_ret (results_none rfl _ _ _) rfl ?_;exact⟨⟨_,rfl⟩,c,HT.out⟩
 have h1:1 <= n:=by omega
 have h2:n<16777216:=by omega
 have hl:lay W g n=W.set (2*g) (gapHd n).word:=by unfold lay;rw[if_neg h0]
 rw[hl];have hm:=gapHd_may h1 h2;obtain⟨tg,htg,ht⟩:∃tg:Nat,(if n=1 then 2 else 3)=tg /\ (tg=2∨tg=3):=⟨_,rfl,by split<;>simp⟩;have hgh:gapHd n=⟨tg,0,0,n⟩:=by unfold gapHd;rw[htg]
 rw[hgh]at hm ⊢;have Hg:=uh (fun W' (hB:Below w.heap.size w W')=>hgap W' (range_below hF hB) tg n ht h1 h2);have He:=uh (fun W' (hB:Below w.heap.size w W')=>henc W' (range_below hF hB) ⟨tg,0,0,n⟩ hm);generalize(Hd.mk tg 0 0 n).word=z at*;have ho:(#[.int .u8 tg,.int .i64 0,.int .i64 0,.int .i64 n]:Array Value).all (·.oneCell')=true:=hd_one ⟨tg,0,0,n⟩;have hn:=uh (Has.nil w);have Hcs:=uh (fun W' (hB:Below w.heap.size w W')=>((T.call hB).has.cell (b:=s) (c:=#[pt a,pt tb,pt bb]) (e:=146) (f:=(0,0)) (List.mem_append.2 (.inr hs)) 0:W'.cell? ⟨s,0,none⟩=some (pt a)));have Hst:=uh (fun W' (hB:Below w.heap.size w W')=>astore W' (T.call hB) hf (2*g) z (by omega));rw[show((2*g:Nat):Int)=2*(g:Int)by omega]at Hst;have hgb:g <= 65536:=by omega
 clear hm hgh hF T hs hl hg
 by_cases hn1:n=1
 · subst hn1
   rw[if_pos rfl]at htg;subst htg
   go_enter func68,ntmps68
   go_wp2_with (first
    | (go_at_call 153;refine(Hg.out _ (Below.refl _ _)).mono ?_;rintro e w1 ⟨rfl,hB1⟩;have hth:(w1.alloc zH).there w1.heap.size 0 4:=((Turn.of_below hn.out hB1).alloc zH).there1;have HT:=uh (((Turn.of_below hn.out hB1).alloc zH).laid [.int .u8 ((2:Nat):Int),.int .i64 ((0:Nat):Int),.int .i64 ((0:Nat):Int),.int .i64 ((1:Nat):Int)] rfl).below;have hr:=(((Turn.of_below hn.out hB1).alloc zH).laid [.int .u8 ((2:Nat):Int),.int .i64 ((0:Nat):Int),.int .i64 ((0:Nat):Int),.int .i64 ((1:Nat):Int)] rfl).range1;clear hB1)
    | (show sW 79;refine wpList_store_mid rfl 79 _ _ rfl _ 0 #[.int .u8 2,.int .i64 0,.int .i64 0,.int .i64 1] rfl rfl hth hsz ho ?_)
    | (show lW 79;refine wpList_load_mid rfl 79 _ rfl w1.heap.size 0 rfl [.int .u8 2,.int .i64 0,.int .i64 0,.int .i64 1] _ hr underlying79 rfl hsz ?_)
    | (go_at_call 150;refine(He.out _ HT.out).mono ?_;rintro e w2 ⟨rfl,hB2⟩;have HB2:=uh (HT.out.trans (hB2.mono HT.out.size));clear hB2;have cs:=Hcs.out w2 HB2.out)
    | (go_at_call 45;refine(Hst.out w2 HB2.out).mono ?_;rintro e w3 ⟨rfl,n',hT'⟩;have HT':=uh hT';clear hT')
    | fail)
   go_end0;exact⟨⟨_,rfl⟩,n',HT'.out⟩
 · rw[if_neg hn1]at htg
   subst htg;have k1:¬(n:Int)=1:=(by omega);have k2:¬(n:Int)<1:=by omega
   go_enter func68,ntmps68
   go_wp2_with (first
    | (go_at_call 153;refine(Hg.out _ (Below.refl _ _)).mono ?_;rintro e w1 ⟨rfl,hB1⟩;have hth:(w1.alloc zH).there w1.heap.size 0 4:=((Turn.of_below hn.out hB1).alloc zH).there1;have HT:=uh (((Turn.of_below hn.out hB1).alloc zH).laid [.int .u8 ((3:Nat):Int),.int .i64 ((0:Nat):Int),.int .i64 ((0:Nat):Int),.int .i64 ((n:Nat):Int)] rfl).below;have hr:=(((Turn.of_below hn.out hB1).alloc zH).laid [.int .u8 ((3:Nat):Int),.int .i64 ((0:Nat):Int),.int .i64 ((0:Nat):Int),.int .i64 ((n:Nat):Int)] rfl).range1;clear hB1)
    | (show sW 79;refine wpList_store_mid rfl 79 _ _ rfl _ 0 #[.int .u8 3,.int .i64 0,.int .i64 0,.int .i64 n] rfl rfl hth hsz ho ?_)
    | (show lW 79;refine wpList_load_mid rfl 79 _ rfl w1.heap.size 0 rfl [.int .u8 3,.int .i64 0,.int .i64 0,.int .i64 n] _ hr underlying79 rfl hsz ?_)
    | (go_at_call 150;refine(He.out _ HT.out).mono ?_;rintro e w2 ⟨rfl,hB2⟩;have HB2:=uh (HT.out.trans (hB2.mono HT.out.size));clear hB2;have cs:=Hcs.out w2 HB2.out)
    | (go_at_call 45;refine(Hst.out w2 HB2.out).mono ?_;rintro e w3 ⟨rfl,n',hT'⟩;have HT':=uh hT';clear hT')
    | fail)
   go_end0;exact⟨⟨_,rfl⟩,n',HT'.out⟩
theorem smake {l L:List Blk}{w0:World}(w:World)(hF:Fields w){a aw tb:Nat}{W:List Nat}{c:Int}(T:Turn l w0 (arBlks a aw W c++L) w)(hf:W.length <= 65536)(Ls:List Ty)(hTy:∀t∈Ls,TyIn t)(hL:Ls.length <= 1000)(ao:Option Addr)(cap:Nat)(hT:TabAt w tb ao cap Ls)
  (g id n sz:Nat)(he:tyErr Ls id n=0)(hs:tySize Ls id n=sz)(hm:(Hd.mk 1 id n sz).may)(hg:g+sz <= W.length/2):
  Calls prog 66 #[pt a,pt tb,.int .i64 g,.int .i64 id,.int .i64 n] w fun e w'=>e=.returned (.int .i64 0) /\ ∃c':Int,Turn l w0 (arBlks a aw (mk W g ⟨1,id,n,sz⟩) c'++L) w':=by
 have hsz:=sz_head;have Hof:=uh (hof w Ls hTy hL tb ao cap hT id n);unfold ofCells at Hof;rw[he,if_pos rfl,hs]at Hof;have He:=uh (fun W' (hB:Below w.heap.size w W')=>henc W' (range_below hF hB) ⟨1,id,n,sz⟩ hm);have hA:=arBlks_at T.has hf;have Hgr:=uh (fun W' (hB:Below w.heap.size w W')=>grans W' (hA.below hB));have Hfl:=uh (fun W' (hB:Below w.heap.size w W')=>afill W' (T.call hB) hf (2*g) (2*sz) (by omega));have Hst:=uh (fun W' c' (T':Turn l w0 (arBlks a aw (zeros W (2*g) (2*sz)) c'++L) W')=>astore W' T' (by rw[zeros_len];exact hf) (2*g) (Hd.mk 1 id n sz).word (by rw[zeros_len];have h9:1 <= sz:=hm.1;omega));rw[show((2*g:Nat):Int)=2*(g:Int)by omega,show((2*sz:Nat):Int)=2*(sz:Int)by omega]at Hfl;rw[show((2*g:Nat):Int)=2*(g:Int)by omega]at Hst;have hbg:g <= 65536 /\ sz <= 65536:=by omega
 obtain⟨hbg1,hbs1⟩:=hbg;obtain⟨z,hz⟩:∃z:Nat,W.length/2=z:=⟨_,rfl⟩;rw[hz]at Hgr hg;have hzb:z <= 65536:=by omega
 have hn:=uh (Has.nil w);have ho:(#[.int .u8 1,.int .i64 id,.int .i64 n,.int .i64 sz]:Array Value).all (·.oneCell')=true:=hd_one ⟨1,id,n,sz⟩;have hmk:mk W g ⟨1,id,n,sz⟩=(zeros W (2*g) (2*sz)).set (2*g) (Hd.mk 1 id n sz).word:=rfl;rw[hmk];generalize(Hd.mk 1 id n sz).word=wd at*;clear hmk hF T hT he hs hm hA hz hTy;have k1:decide ((g:Int)<0)=false:=decide_eq_false (by omega);have k2:decide ((z:Int)<(g:Int))=false:=decide_eq_false (by omega);have k2':¬((z:Int)<(g:Int)):=by omega
 have k2n:decide (z<g)=false:=decide_eq_false (by omega);have k3:IntKind.i64.wrap ((z:Int)-(g:Int))=(z:Int)-(g:Int):=i64_in _ (by omega);have k4:decide (((z:Int)-(g:Int))<(sz:Int))=false:=decide_eq_false (by omega);have k4':¬((z:Int)-(g:Int))<(sz:Int):=by omega
 go_enter func66,ntmps66
 go_upto_region 6 with(first
  | (go_at_call 64;refine Hof.out.mono ?_;rintro e w1 ⟨rfl,hB1⟩;have hth:(w1.alloc zH).there w1.heap.size 0 4:=((Turn.of_below hn.out hB1).alloc zH).there1;have HT:=uh (((Turn.of_below hn.out hB1).alloc zH).laid [.int .u8 1,.int .i64 id,.int .i64 n,.int .i64 sz] rfl);clear hB1)
  | (show sW 79;refine wpList_store_mid rfl 79 _ _ rfl _ 0 #[.int .u8 1,.int .i64 id,.int .i64 n,.int .i64 sz] rfl rfl hth hsz ho ?_;clear hth)
  | fail)
 refine wp_abs (fun W1=>Turn [] w [(w1.heap.size,.cells #[.int .u8 1,.int .i64 id,.int .i64 n,.int .i64 sz] 79)] W1) HT.out fun W1 T1=>?_;have c3:=T1.cell1 3;have Hg2:=uh (fun n=>Hgr.out (W1.drewN n) (T1.drewN n).below);have HT1:=uh T1;clear T1 HT
 go_quiet (first|(go_at_call 129;refine Calls.quiet_of_same (Hg2.out _)))
 have Hr:=uh (fun n=>(HT1.out.drewN n).range1);have HB0:=uh (fun n=>(HT1.out.drewN n).below);clear Hgr Hg2 HT1 c3
 go_wp2_with (first
  | (show lW 79;refine wpList_load_mid rfl 79 _ rfl w1.heap.size 0 rfl [.int .u8 1,.int .i64 id,.int .i64 n,.int .i64 sz] _ (Hr.out _) underlying79 rfl hsz ?_)
  | (go_at_call 150;refine(He.out _ (HB0.out _)).mono ?_;rintro e w2 ⟨rfl,hB2⟩;have HB2:=uh ((HB0.out _).trans (hB2.mono (HB0.out _).size));have c3:=(range_below (Hr.out _) hB2) 3 _ rfl;rw[Nat.zero_add]at c3;clear hB2)
  | (go_at_call 151;refine(Hfl.out _ HB2.out).mono ?_;rintro e w3 ⟨rfl,c3',hT3⟩;have HT3:=uh hT3;clear hT3)
  | (go_at_call 45;refine(Hst.out _ _ HT3.out).mono ?_;rintro e w4 ⟨rfl,c4',hT4⟩;have HT4:=uh hT4;clear hT4)
  | fail)
 go_ret;exact⟨rfl,c4',HT4.out⟩
theorem el_u64:Elem prog 61 47 1 8 (.int .u64 0):=Elem.of underlying61 (by kernel_rfl) rfl
theorem u64s_one (W:List Nat):∀u∈u64s W,u.oneCell'=true:=by
 intro u hu;obtain⟨x,-,rfl⟩:=List.mem_map.1 hu
 rfl
theorem u64s_setl (W:List Nat)(i v:Nat):(u64s W).set i (.int .u64 v)=u64s (W.set i v):=by unfold u64s;rw[List.map_set]
def RefIs (rb:Nat)(lao:Option Addr)(ln lcap:Nat)(W:List Nat)(l:List Blk):Prop:=
 ∃ao cap lr,Row 47 1 ao W.length cap (u64s W) lr /\ l=(rb,rN ao W cap lao ln lcap)::lr
theorem lay9 {l0 l R:List Blk}{w0:World}(w:World){rb:Nat}{lao:Option Addr}{ln lcap:Nat}{W:List Nat}(hI:RefIs rb lao ln lcap W l)(T:Turn l0 w0 (l++R) w)(hf:W.length <= 65536)(g n:Nat)(hg:g+n <= W.length/2):
  Calls prog 191 #[pt rb,.int .i64 g,.int .i64 n] w fun e w'=>(∃u,e=.returned u) /\ ∃l',RefIs rb lao ln lcap (lay W g n) l' /\ Turn l0 w0 (l'++R) w':=by
 by_cases h0:n=0
 · subst h0
   have hl:lay W g 0=W:=(by unfold lay;rw[if_pos rfl]);rw[hl];have HT:=uh T;have HI:=uh hI;clear T hI hl
   go_enter func191,ntmps191
   go_wp2
   refine bodyPost_ret (results_none rfl _ _ _) rfl ?_;exact⟨⟨_,rfl⟩,l,HI.out,HT.out⟩
 obtain⟨ao,cap,lr,hrow,rfl⟩:=hI;have h1:1 <= n:=by omega
 have h2:n<16777216:=by omega
 have hl:lay W g n=W.set (2*g) (gapHd n).word:=by unfold lay;rw[if_neg h0]
 rw[hl];have Hg:=uh (fun W'=>gap9 W' n h1 h2);generalize(gapHd n).word=z at*;have T1:=T.perm (l2:=lr++((rb,rN ao W cap lao ln lcap)::R)) po;have hsrc:=hrow.src T1.has;have c0:w.cell? ⟨rb,0,none⟩=some (.slice ao W.length cap):=T.has.cell (b:=rb) (c:=#[.slice ao W.length cap,.slice lao ln lcap]) (e:=109) (f:=(0,0)) (by simp) 0;have hnil:=Row.nil 47 1;have h63:0+W.length <= maxLen:=by unfold maxLen;omega
 have hby:(0+W.length)*8 <= 140737488355328:=by omega
 have hone:=u64s_one W;have HT:=uh T;have hk:¬(n:Int)<1:=by omega
 have hgl:2*g<W.length:=by omega
 have hgi:2*(g:Int)<(W.length:Int):=by omega
 have hgn:(2*(g:Int)).toNat=2*g:=by omega
 have hgb:g <= 65536:=by omega
 clear T T1 hl hrow
 go_enter func191,ntmps191
 go_wp2_with (first
  | (at_builtin;refine wpList_append_src rfl _ _ rfl el_u64 rfl rfl hnil (R:=(rb,rN ao W cap lao ln lcap)::lr++R) HT.out.has hsrc hone h63 hby ?_;intro ao' cap' lr' w1 hr1 hT1;have Hr1:=uh hr1;have HT1:=uh (HT.out.trans hT1);clear hr1 hT1 hsrc)
  | fail)
 have hr1:Row 47 1 ao' W.length cap' (u64s W) lr':=by have h:=Hr1.out;rwa [Nat.zero_add,List.nil_append]at h
 obtain⟨gb,cur,rfl,rfl,-,-⟩:=hr1.some_of (by omega);have hr2:=hr1.set (2*g) (.int .u64 z);rw[u64s_setl]at hr2;refine(Hg.out w1).mono ?_;rintro e w2 ⟨rfl,hB2⟩;have T2:=HT1.out.call hB2;have T2':Turn l0 w0 ((gb,.cells cur 47)::(rb,rN ao W cap lao ln lcap)::(lr++R)) w2:=T2.perm po;have hv:(u64s W)[2*g]?= some (.int .u64 (W[2*g])):=u64s_get (List.getElem?_eq_getElem hgl);have c1:w2.cell? ⟨gb,2*g,none⟩=some (.int .u64 (W[2*g])):=(hr1.cell (R:=(rb,rN ao W cap lao ln lcap)::(lr++R)) T2'.has (2*g) (by rw[Nat.mul_one];exact hgl)).trans hv;have f1:w2.frozen? ⟨gb,2*g,none⟩=false:=T2'.free1 (2*g);have T3:=T2'.setCell (2*g) (.int .u64 z);have c3:=T3.cell2 0;have f3:=T3.free2 0;have c30:(w2.setCell ⟨gb,2*g,none⟩ (.int .u64 z)).cell? ⟨rb,0,none⟩=some (.slice ao W.length cap):=c3;have T4:=(T3.swap.setCell 0 (.slice (some ⟨gb,0,none⟩) W.length cap'));have HT4:=uh T4;have Hr2:=uh hr2;clear T2 T2' T3 T4 hB2 HT1 Hr1 hr1 hr2 hv c3
 go_wp2
 go_end0;refine⟨⟨_,rfl⟩,(rb,.cells #[.slice (some ⟨gb,0,none⟩) (W.set (2*g) z).length cap',.slice lao ln lcap] 109)::[(gb,.cells (cur.setIfInBounds (2*g) (.int .u64 z)) 47)],⟨some ⟨gb,0,none⟩,cap',[(gb,.cells (cur.setIfInBounds (2*g) (.int .u64 z)) 47)],?_,rfl⟩,(HT4.out.perm (l2:=lr++((rb,.cells #[.slice (some ⟨gb,0,none⟩) (W.set (2*g) z).length cap',.slice lao ln lcap] 109)::(gb,.cells (cur.setIfInBounds (2*g) (.int .u64 z)) 47)::R)) ?_).drop⟩
 · have h:=Hr2.out
   rw[List.length_set];exact h
 · rw[List.length_set]
   exact perm_of fun c=>by simp;omega
end
section
open Go Go.RowKit Go.Shelf Go.IntWalk
attribute [local go_sem] Oper.semAt_some
def BitIs (bb:Nat)(B:List Nat)(n:Nat)(l:List Blk):Prop:=
 ∃bo cap lr,Row 47 1 bo B.length cap (u64s B) lr /\ l=(bb,.cells #[.slice bo B.length cap,.int .i64 n] 270)::lr
theorem BitIs.cells {bb:Nat}{B:List Nat}{n:Nat}{l:List Blk}(h:BitIs bb B n l):∀x∈l,x.2.isCells=true:=by
 obtain⟨bo,cap,lr,hr,rfl⟩:=h;intro x hx;rcases List.mem_cons.1 hx with rfl|hx
 ·rfl
 ·exact hr.cells x hx
theorem BitIs.cell {bb:Nat}{B:List Nat}{n:Nat}{l R:List Blk}{w:World}(h:BitIs bb B n l)(hH:Has w (l++R)):w.cell? ⟨bb,1,none⟩=some (.int .i64 n):=by
 obtain⟨bo,cap,lr,hr,rfl⟩:=h;exact hH.cell (b:=bb) (c:=#[.slice bo B.length cap,.int .i64 n]) (e:=270) (f:=(0,0)) (by simp) 1
theorem bin (w:World)(bb n0 i k:Nat)(c1:w.cell? ⟨bb,1,none⟩=some (.int .i64 n0))(h:i+k <= n0)(h0:n0 <= 65536):
  Calls prog 206 #[pt bb,.int .i64 i,.int .i64 k] w fun e w'=>e=.returned (.int .i64 0) /\ w'=w:=by
 have k1:decide ((i:Int) <= (n0:Int))=true:=decide_eq_true (by omega);have k2:decide ((k:Int) <= (n0:Int)-(i:Int))=true:=decide_eq_true (by omega);have k3:decide (i <= n0)=true:=decide_eq_true (by omega)
 go_enter func206,ntmps206
 go_wp2_with fail
 go_ret;exact⟨rfl,rfl⟩
end
section
open Go Go.RowKit Go.Shelf Go.IntWalk
attribute [local go_sem] Oper.semAt_some
def pcBlks (s bb:Nat)(vi vn:Value):List Blk:=[(s+1+1,.cells #[vn] 3),(s+1,.cells #[vi] 3),(s,.cells #[pt bb] 144)]
theorem pcBlks_cells (s bb:Nat)(vi vn:Value):∀x∈pcBlks s bb vi vn,x.2.isCells=true:=by
 intro x hx;simp only[pcBlks,List.mem_cons,List.not_mem_nil,or_false]at hx;rcases hx with rfl|rfl|rfl<;>rfl
theorem pc_up {l X:List Blk}{w A B:World}{s bb:Nat}{vi vn:Value}(hT:Turn l w (pcBlks s bb vi vn++X) A)(hu:UpBox (s+1+1) (s+1) A B):∃vi vn,Turn l w (pcBlks s bb vi vn++X) B:=by
 obtain⟨v,rfl|rfl⟩:=hu
 ·exact⟨vi,v,Turn.setCell (c:=#[vn]) hT 0 v⟩
 ·exact⟨v,vn,(Turn.setCell (c:=#[vi]) hT.swap 0 v).swap⟩
theorem pc_marks {A B:World}{D Bn Bi:Nat}(r:Loop)(hu:UpBox Bn Bi A B)(hm:Marks D r A):Marks D r B:=by
 obtain⟨v,rfl|rfl⟩:=hu
 ·exact hm.keeps ((KeepsOthers.setCell _ _ _).from _)
 ·exact hm.keeps ((KeepsOthers.setCell _ _ _).from _)
theorem pc_kp {l X Y X' Y':List Blk}{w W' A:World}{s bb:Nat}{vi vn:Value}(h:Turn l w (X++(pcBlks s bb vi vn++Y)) A)(h':Turn l w (X'++(pcBlks s bb vi vn++Y')) W'):KpBox (s+1+1) (s+1) A W':=
 have m1:(s+1+1,Obj.cells #[vn] 3 (0,0))∈pcBlks s bb vi vn:=by simp[pcBlks]
 have m2:(s+1,Obj.cells #[vi] 3 (0,0))∈pcBlks s bb vi vn:=by simp[pcBlks]
 ⟨(h'.has.own _ _ (List.mem_append_right _ (List.mem_append_left _ m1))).trans (h.has.own _ _ (List.mem_append_right _ (List.mem_append_left _ m1))).symm,
  (h'.has.own _ _ (List.mem_append_right _ (List.mem_append_left _ m2))).trans (h.has.own _ _ (List.mem_append_right _ (List.mem_append_left _ m2))).symm⟩
def setAct (s nb bb i k:Nat)(x:Nat×Nat):Act:=
 { tmps:=#[pt bb,.int .i64 i,.int .i64 k,pt s,undef,undef,.int .i64 0,.int .i64 0,pt nb,pt bb,.int .i64 i,.int .i64 k,.int .i64 0,.int .i64 0,.bool false,undef,.int .i64 i,.int .i64 k,
   .func (.func 244) #[] #[pt (s+1+1),pt (s+1)],.agg #[.int .i64 (x.1/64:Nat),.int .i64 (x.1%64:Nat),.int .u64 (pmask x.2 (x.1%64):Nat)],undef,undef,undef,undef,undef,undef,undef,undef,undef,undef,undef,undef,undef],defers:=[] }
def pcCells (x:Nat×Nat):Obj:=.cells #[.int .i64 (x.1/64:Nat),.int .i64 (x.1%64:Nat),.int .u64 (pmask x.2 (x.1%64):Nat)] 343
theorem bsetrun_in (n:Nat)(hn:4 <= n)(bb n0 i k:Nat)(B:List Nat)(l:List Blk)(hI:BitIs bb B n0 l)(hB:u64ok B)(hL:(n0+63)/64 <= B.length)(h:i+k <= n0)(h0:n0 <= 65536)(w:World)(hH:Has w l):
  CallsIn Fence.wide n prog 152 #[pt bb,.int .i64 i,.int .i64 k] w fun e W'=>e=.returned (.int .i64 0) /\ ∃B' l',SetIn B B' i k /\ BitIs bb B' n0 l' /\ Turn l w l' W':=by
 have h1:1 <= n:=by omega
 have h2:1 <= n-1-1:=by omega
 have h3:Fence.wide.fn 152:= trivial;have h5:Fence.wide.fn 206:= trivial;have h6:Fence.wide.fn 207:= trivial;have h7:Fence.wide.fn 244:= trivial;have hro:Fence.wide.round=none:=rfl;have T1:=(Turn.refl hH).alloc (.cells #[pt bb] 144);have c1:(w.alloc (.cells #[pt bb] 144)).cell? ⟨bb,1,none⟩=some (.int .i64 n0):=hI.cell (R:=[(w.heap.size,.cells #[pt bb] 144)]) (T1.has.perm po);have T3:=(T1.alloc (.cells #[.int .i64 i] 3)).alloc (.cells #[.int .i64 k] 3);simp only[World.size_alloc]at T3;have hT0:Turn l w (pcBlks w.heap.size bb (.int .i64 i) (.int .i64 k)++l) (((w.alloc (.cells #[pt bb] 144)).alloc (.cells #[.int .i64 i] 3)).alloc (.cells #[.int .i64 k] 3)):=T3;have hsz0:(((w.alloc (.cells #[pt bb] 144)).alloc (.cells #[.int .i64 i] 3)).alloc (.cells #[.int .i64 k] 3)).heap.size=w.heap.size+3:=by simp
 clear T1 T3;refine callsIn_of_wp_marks func152 rfl h3 ?_ hro;simp only[ntmps152,List.size_toArray,List.length_cons,List.length_nil,Nat.reduceAdd,Nat.reduceSub,Array.replicate_succ,Array.replicate_zero,List.push_toArray,List.append_toArray,List.nil_append,List.cons_append]
 gi_wp2_with (first
  | (gi_at_call 206;refine(callsIn_wide.2 (bin _ bb n0 i k c1 h h0)).mono ?_;rintro e w' ⟨rfl,hw⟩;rw[hw];clear hw w')
  | (gi_at_call 207;refine(pieces_in (n-1) _ _ _).mono ?_;rintro e w' ⟨rfl,hw⟩;rw[hw];clear hw w')
  | fail)
 generalize(((w.alloc (.cells #[pt bb] 144)).alloc (.cells #[.int .i64 i] 3)).alloc (.cells #[.int .i64 k] 3))=W0 at*;clear c1
 have hbx:Has W0 (pcBoxes (w.heap.size+1+1) (w.heap.size+1) k i):=hT0.has.sub (by
  show List.Sublist (pcBoxes (w.heap.size+1+1) (w.heap.size+1) k i) (pcBlks w.heap.size bb (.int .i64 i) (.int .i64 k)++l)
  exact((List.Sublist.refl [_,_]).append (List.nil_sublist _)))
 refine wpIn_rangeFunc_up hro h1 (gf:=244) (lb:=#[pt (w.heap.size+1+1),pt (w.heap.size+1)]) rfl h7 (enters_of func244 (by kernel_rfl) rfl)
  (pieces_up (n-1) (by omega) (w.heap.size+1+1) (w.heap.size+1) i k (by omega) W0 hbx) (fun A B r hu hm=>pc_marks r hu hm) (fun h k=>⟨k.n.trans h.n,k.i.trans h.i⟩)
  (fun W l o o' hl' hwl hc hw=>⟨World.putObj_heap_other (by omega),World.putObj_heap_other (by omega)⟩) (Below.refl _ _) (fun _=>rfl)
  (fun pre W=>∃B' l' vi vn,SetIn B B' i (sumK pre) /\ BitIs bb B' n0 l' /\ Turn l w (pcBlks w.heap.size bb vi vn++l') W)
  (fun _ _ _=>False)
  (fun x a' pre W=>∃nb B' l' vi vn,a'=setAct w.heap.size nb bb i k x /\ SetIn B B' i (sumK pre) /\ BitIs bb B' n0 l' /\ Turn l w ((nb,pcCells x)::(pcBlks w.heap.size bb vi vn++l')) W)
  (fun s A D row ⟨B',l',vi,vn,e1,e2,hT⟩ hg hr=>⟨B',l',vi,vn,e1,e2,hT.grownB (by omega) (fun x hx=>(List.mem_append.1 hx).elim (pcBlks_cells _ _ _ _ x) (e2.cells x)) hg hr⟩)
  (fun c s A D row hf=>hf.elim)
  (fun x a' s A D row ⟨nb,B',l',vi,vn,e0,e1,e2,hT⟩ hg hr=>⟨nb,B',l',vi,vn,e0,e1,e2,hT.grownB (by omega) (by
    intro y hy;rcases List.mem_cons.1 hy with rfl|hy
    ·rfl
    ·exact(List.mem_append.1 hy).elim (pcBlks_cells _ _ _ _ y) (e2.cells y)) hg hr⟩)
  ⟨B,l,.int .i64 i,.int .i64 k,SetIn.refl hB i,hI,hT0⟩
  (fun pre A D ⟨B',l',vi,vn,e1,e2,hT⟩ hu=>by
    obtain⟨vi',vn',hT'⟩:=pc_up hT hu;exact⟨B',l',vi',vn',e1,e2,hT'⟩) ?assign ?body ?done ?stop
 case assign=>
  rintro l1 pre x W hnx ⟨B',l',vi,vn,e1,e2,hT⟩;have HT1:=uh (hT.alloc (pcCells x));have HT:=uh hT;have HE:=uh (⟨e1,e2⟩:SetIn B B' i (sumK pre) /\ BitIs bb B' n0 l');clear hnx hT e1 e2 hT0 hbx;obtain⟨x1,x2⟩:=x;unfold pcArgs
  gi_wp2_with fail
  exact⟨(KeepsOthers.alloc _ _).from _,pc_kp (X:=[]) (X':=[_]) HT.out HT1.out,W.heap.size,B',l',vi,vn,rfl,HE.out.1,HE.out.2,HT1.out⟩
 case body=>
  rintro l1 pre x a' W hnx ⟨nb,B',l',vi,vn,rfl,e1,e2,hT⟩;obtain⟨hlt,rfl⟩:=hnx;have hpk:=pk_le (i+sumK pre) (k-sumK pre);have hpn:=pk_n (i+sumK pre) (k-sumK pre);have hq:(i+sumK pre)/64<B'.length:=by rw[e1.1];omega
  have HE1:=uh (e1.step (k:=pk (i+sumK pre) (k-sumK pre)) hpk (by rw[←e1.1];exact hq));have hsn:sumK (pre++[(i+sumK pre,pk (i+sumK pre) (k-sumK pre))])=sumK pre+pk (i+sumK pre) (k-sumK pre):=sumK_snoc ..;have hub:=getD_u64 e1.2.1 ((i+sumK pre)/64);have hmb:=pmask_lt hpk;have horx:=or_lt hub hmb
  have hcs:∀x∈(nb,pcCells (i+sumK pre,pk (i+sumK pre) (k-sumK pre)))::(pcBlks w.heap.size bb vi vn++l'),x.2.isCells=true:=by
   intro y hy;rcases List.mem_cons.1 hy with rfl|hy
   ·rfl
   ·exact(List.mem_append.1 hy).elim (pcBlks_cells _ _ _ _ y) (e2.cells y)
  obtain⟨bo,cap,lr,hrow,rfl⟩:=e2;obtain⟨gb,cur,rfl,rfl,-,-⟩:=hrow.some_of (by omega);have hr2:=hrow.set ((i+sumK pre)/64) (.int .u64 (B'.getD ((i+sumK pre)/64) 0 ||| pmask (pk (i+sumK pre) (k-sumK pre)) ((i+sumK pre)%64):Nat));rw[u64s_setl]at hr2;have hgd:B'.getD ((i+sumK pre)/64) 0=B'[(i+sumK pre)/64]:=by rw[List.getD_eq_getElem?_getD,List.getElem?_eq_getElem hq];rfl
  have hv:(u64s B')[(i+sumK pre)/64]?= some (.int .u64 (B'.getD ((i+sumK pre)/64) 0:Nat)):=by rw[hgd];exact u64s_get (List.getElem?_eq_getElem hq)
  have hor:bits .or .u64 ((B'.getD ((i+sumK pre)/64) 0:Nat):Int) ((pmask (pk (i+sumK pre) (k-sumK pre)) ((i+sumK pre)%64):Nat):Int)=((B'.getD ((i+sumK pre)/64) 0 ||| pmask (pk (i+sumK pre) (k-sumK pre)) ((i+sumK pre)%64):Nat):Int):=bits_or_u64_nat _ _ hub hmb;have T2:=hT.perm (l2:=(gb,.cells cur 47)::((nb,pcCells (i+sumK pre,pk (i+sumK pre) (k-sumK pre)))::(pcBlks w.heap.size bb vi vn++[(bb,.cells #[.slice (some ⟨gb,0,none⟩) B'.length cap,.int .i64 n0] 270)]))) (perm_of fun c=>by simp[pcBlks];omega);have cg:W.cell? ⟨gb,(i+sumK pre)/64,none⟩=some (.int .u64 (B'.getD ((i+sumK pre)/64) 0:Nat)):=(hrow.cell (R:=(nb,pcCells (i+sumK pre,pk (i+sumK pre) (k-sumK pre)))::(pcBlks w.heap.size bb vi vn++[(bb,.cells #[.slice (some ⟨gb,0,none⟩) B'.length cap,.int .i64 n0] 270)])) T2.has ((i+sumK pre)/64) (by rw[Nat.mul_one];exact hq)).trans hv;have fg:W.frozen? ⟨gb,(i+sumK pre)/64,none⟩=false:=T2.free1 _;have cn0:W.cell? ⟨nb,0,none⟩=some (.int .i64 ((i+sumK pre)/64:Nat)):=hT.cell1 0;have cn2:W.cell? ⟨nb,2,none⟩=some (.int .u64 (pmask (pk (i+sumK pre) (k-sumK pre)) ((i+sumK pre)%64):Nat)):=hT.cell1 2;have cs0:W.cell? ⟨w.heap.size,0,none⟩=some (pt bb):=hT.has.cell (b:=w.heap.size) (c:=#[pt bb]) (e:=144) (f:=(0,0)) (by simp[pcBlks]) 0
  have cb0:W.cell? ⟨bb,0,none⟩=some (.slice (some ⟨gb,0,none⟩) B'.length cap):=hT.has.cell (b:=bb) (c:=#[.slice (some ⟨gb,0,none⟩) B'.length cap,.int .i64 n0]) (e:=270) (f:=(0,0)) (by simp[pcBlks]) 0;have T5:=(T2.setCell ((i+sumK pre)/64) (.int .u64 (B'.getD ((i+sumK pre)/64) 0 ||| pmask (pk (i+sumK pre) (k-sumK pre)) ((i+sumK pre)%64):Nat))).perm (l2:=(nb,pcCells (i+sumK pre,pk (i+sumK pre) (k-sumK pre)))::(pcBlks w.heap.size bb vi vn++[(bb,.cells #[.slice (some ⟨gb,0,none⟩) B'.length cap,.int .i64 n0] 270),(gb,.cells (cur.setIfInBounds ((i+sumK pre)/64) (.int .u64 (B'.getD ((i+sumK pre)/64) 0 ||| pmask (pk (i+sumK pre) (k-sumK pre)) ((i+sumK pre)%64):Nat))) 47)])) (perm_of fun c=>by simp[pcBlks];omega);have HT5:=uh T5;have HT:=uh hT;have Hr2:=uh hr2;have Hsn:=uh hsn;have hqi:(((i+sumK pre)/64:Nat):Int)<(B'.length:Int):=by omega
  clear hT T2 T5 hr2 hsn hrow hv e1 hbx hT0 hgd hpn hpk;unfold orAt at HE1;unfold setAct;simp only;generalize hmk:pmask (pk (i+sumK pre) (k-sumK pre)) ((i+sumK pre)%64)=mk at*;generalize hq1:(i+sumK pre)/64=q at*;generalize hq2:B'.getD q 0=bv at*;generalize hq3:(i+sumK pre)%64=r at*
  gi_wp2_with fail
  refine wpIn_region_still_tail (follows_round _ _ _) 13 (by kernel_rfl) (by kernel_rfl) (by kernel_rfl) ?_;simp only[List.take_succ_cons,List.take_zero,List.drop_succ_cons,List.drop_zero]
  iterate 13 still_step
  refine wpStill_nil ?_
  gi_wp2_with fail
  have HT6:=HT5.out.drew;refine⟨⟨(KeepsOthers.setCell W _ _).size,fun k o _ hk ho=>(KeepsOthers.setCell W _ _).same k o hk ho⟩,pc_kp (X:=[_]) (X':=[_]) HT.out HT6,B'.set q (.lor bv mk),_,vi,vn,by rw[Hsn.out];exact HE1.out,⟨some ⟨gb,0,none⟩,cap,_,by rw[List.length_set];exact Hr2.out,by rw[List.length_set]⟩,HT6.tail⟩
 case done=>
  rintro D xs W hD hS ⟨B',l',vi,vn,e1,e2,hT⟩ hK;rw[hS]at e1;have T5:=hT.grownB (B:=W0.heap.size) (by omega) (fun x hx=>(List.mem_append.1 hx).elim (pcBlks_cells _ _ _ _ x) (e2.cells x)) (grownBy_putObj' W D (.deferred none)) (fun r e=>by cases e;exact⟨hD,_,hK,rfl⟩);have HT5:=uh T5.drop;have HE:=uh (⟨e1,e2⟩:SetIn B B' i k /\ BitIs bb B' n0 l');clear hT T5 e1 e2 hT0 hbx hS
  gi_wp2_with fail
  refine⟨by simp,.inl ⟨_,_,rfl,run_takeDeferred hK,?_⟩⟩;refine⟨.int .i64 0,?_,rfl,B',l',HE.out.1,HE.out.2,HT5.out⟩;simp[results,results152,go_sem]
 case stop=>exact fun D c pre W _ hf _=>hf.elim
end
section
open Go Go.RowKit Go.Shelf Go.IntWalk
attribute [local go_sem] Oper.semAt_some
def clrAct (s nb bb i k:Nat)(x:Nat×Nat):Act:=
 { tmps:=#[pt bb,.int .i64 i,.int .i64 k,pt s,undef,undef,.int .i64 0,.int .i64 0,pt nb,undef,pt bb,.int .i64 i,.int .i64 k,.int .i64 0,.int .i64 0,.bool false,undef,.int .i64 i,.int .i64 k,
   .func (.func 244) #[] #[pt (s+1+1),pt (s+1)],.agg #[.int .i64 (x.1/64:Nat),.int .i64 (x.1%64:Nat),.int .u64 (pmask x.2 (x.1%64):Nat)],undef,undef,undef,undef,undef,undef,undef,undef,undef,undef,undef,undef,undef,undef],defers:=[] }
theorem bclrrun_in (n:Nat)(hn:4 <= n)(bb n0 i k:Nat)(B:List Nat)(l:List Blk)(hI:BitIs bb B n0 l)(hB:u64ok B)(hL:(n0+63)/64 <= B.length)(h:i+k <= n0)(h0:n0 <= 65536)(w:World)(hH:Has w l):
  CallsIn Fence.wide n prog 155 #[pt bb,.int .i64 i,.int .i64 k] w fun e W'=>e=.returned (.int .i64 0) /\ ∃B' l',ClrIn B B' i k /\ BitIs bb B' n0 l' /\ Turn l w l' W':=by
 have h1:1 <= n:=by omega
 have h2:1 <= n-1-1:=by omega
 have h3:Fence.wide.fn 155:= trivial;have h5:Fence.wide.fn 206:= trivial;have h6:Fence.wide.fn 207:= trivial;have h7:Fence.wide.fn 244:= trivial;have hro:Fence.wide.round=none:=rfl;have T1:=(Turn.refl hH).alloc (.cells #[pt bb] 144);have c1:(w.alloc (.cells #[pt bb] 144)).cell? ⟨bb,1,none⟩=some (.int .i64 n0):=hI.cell (R:=[(w.heap.size,.cells #[pt bb] 144)]) (T1.has.perm po);have T3:=(T1.alloc (.cells #[.int .i64 i] 3)).alloc (.cells #[.int .i64 k] 3);simp only[World.size_alloc]at T3;have hT0:Turn l w (pcBlks w.heap.size bb (.int .i64 i) (.int .i64 k)++l) (((w.alloc (.cells #[pt bb] 144)).alloc (.cells #[.int .i64 i] 3)).alloc (.cells #[.int .i64 k] 3)):=T3;have hsz0:(((w.alloc (.cells #[pt bb] 144)).alloc (.cells #[.int .i64 i] 3)).alloc (.cells #[.int .i64 k] 3)).heap.size=w.heap.size+3:=by simp
 clear T1 T3;refine callsIn_of_wp_marks func155 rfl h3 ?_ hro;simp only[ntmps155,List.size_toArray,List.length_cons,List.length_nil,Nat.reduceAdd,Nat.reduceSub,Array.replicate_succ,Array.replicate_zero,List.push_toArray,List.append_toArray,List.nil_append,List.cons_append]
 gi_wp2_with (first
  | (gi_at_call 206;refine(callsIn_wide.2 (bin _ bb n0 i k c1 h h0)).mono ?_;rintro e w' ⟨rfl,hw⟩;rw[hw];clear hw w')
  | (gi_at_call 207;refine(pieces_in (n-1) _ _ _).mono ?_;rintro e w' ⟨rfl,hw⟩;rw[hw];clear hw w')
  | fail)
 generalize(((w.alloc (.cells #[pt bb] 144)).alloc (.cells #[.int .i64 i] 3)).alloc (.cells #[.int .i64 k] 3))=W0 at*;clear c1
 have hbx:Has W0 (pcBoxes (w.heap.size+1+1) (w.heap.size+1) k i):=hT0.has.sub (by
  show List.Sublist (pcBoxes (w.heap.size+1+1) (w.heap.size+1) k i) (pcBlks w.heap.size bb (.int .i64 i) (.int .i64 k)++l)
  exact((List.Sublist.refl [_,_]).append (List.nil_sublist _)))
 refine wpIn_rangeFunc_up hro h1 (gf:=244) (lb:=#[pt (w.heap.size+1+1),pt (w.heap.size+1)]) rfl h7 (enters_of func244 (by kernel_rfl) rfl)
  (pieces_up (n-1) (by omega) (w.heap.size+1+1) (w.heap.size+1) i k (by omega) W0 hbx) (fun A B r hu hm=>pc_marks r hu hm) (fun h k=>⟨k.n.trans h.n,k.i.trans h.i⟩)
  (fun W l o o' hl' hwl hc hw=>⟨World.putObj_heap_other (by omega),World.putObj_heap_other (by omega)⟩) (Below.refl _ _) (fun _=>rfl)
  (fun pre W=>∃B' l' vi vn,ClrIn B B' i (sumK pre) /\ BitIs bb B' n0 l' /\ Turn l w (pcBlks w.heap.size bb vi vn++l') W)
  (fun _ _ _=>False)
  (fun x a' pre W=>∃nb B' l' vi vn,a'=clrAct w.heap.size nb bb i k x /\ ClrIn B B' i (sumK pre) /\ BitIs bb B' n0 l' /\ Turn l w ((nb,pcCells x)::(pcBlks w.heap.size bb vi vn++l')) W)
  (fun s A D row ⟨B',l',vi,vn,e1,e2,hT⟩ hg hr=>⟨B',l',vi,vn,e1,e2,hT.grownB (by omega) (fun x hx=>(List.mem_append.1 hx).elim (pcBlks_cells _ _ _ _ x) (e2.cells x)) hg hr⟩)
  (fun c s A D row hf=>hf.elim)
  (fun x a' s A D row ⟨nb,B',l',vi,vn,e0,e1,e2,hT⟩ hg hr=>⟨nb,B',l',vi,vn,e0,e1,e2,hT.grownB (by omega) (by
    intro y hy;rcases List.mem_cons.1 hy with rfl|hy
    ·rfl
    ·exact(List.mem_append.1 hy).elim (pcBlks_cells _ _ _ _ y) (e2.cells y)) hg hr⟩)
  ⟨B,l,.int .i64 i,.int .i64 k,ClrIn.refl hB i,hI,hT0⟩
  (fun pre A D ⟨B',l',vi,vn,e1,e2,hT⟩ hu=>by
    obtain⟨vi',vn',hT'⟩:=pc_up hT hu;exact⟨B',l',vi',vn',e1,e2,hT'⟩) ?assign ?body ?done ?stop
 case assign=>
  rintro l1 pre x W hnx ⟨B',l',vi,vn,e1,e2,hT⟩;have HT1:=uh (hT.alloc (pcCells x));have HT:=uh hT;have HE:=uh (⟨e1,e2⟩:ClrIn B B' i (sumK pre) /\ BitIs bb B' n0 l');clear hnx hT e1 e2 hT0 hbx;obtain⟨x1,x2⟩:=x;unfold pcArgs
  gi_wp2_with fail
  exact⟨(KeepsOthers.alloc _ _).from _,pc_kp (X:=[]) (X':=[_]) HT.out HT1.out,W.heap.size,B',l',vi,vn,rfl,HE.out.1,HE.out.2,HT1.out⟩
 case body=>
  rintro l1 pre x a' W hnx ⟨nb,B',l',vi,vn,rfl,e1,e2,hT⟩;obtain⟨hlt,rfl⟩:=hnx;have hpk:=pk_le (i+sumK pre) (k-sumK pre);have hpn:=pk_n (i+sumK pre) (k-sumK pre);have hq:(i+sumK pre)/64<B'.length:=by rw[e1.1];omega
  have HE1:=uh (e1.step (k:=pk (i+sumK pre) (k-sumK pre)) hpk (by rw[←e1.1];exact hq));have hsn:sumK (pre++[(i+sumK pre,pk (i+sumK pre) (k-sumK pre))])=sumK pre+pk (i+sumK pre) (k-sumK pre):=sumK_snoc ..;have hub:=getD_u64 e1.2.1 ((i+sumK pre)/64);have hmb:=pmask_lt hpk;have horx:=clr_lt (B'.getD ((i+sumK pre)/64) 0) (pmask (pk (i+sumK pre) (k-sumK pre)) ((i+sumK pre)%64))
  have hcs:∀x∈(nb,pcCells (i+sumK pre,pk (i+sumK pre) (k-sumK pre)))::(pcBlks w.heap.size bb vi vn++l'),x.2.isCells=true:=by
   intro y hy;rcases List.mem_cons.1 hy with rfl|hy
   ·rfl
   ·exact(List.mem_append.1 hy).elim (pcBlks_cells _ _ _ _ y) (e2.cells y)
  obtain⟨bo,cap,lr,hrow,rfl⟩:=e2;obtain⟨gb,cur,rfl,rfl,-,-⟩:=hrow.some_of (by omega);have hr2:=hrow.set ((i+sumK pre)/64) (.int .u64 (clr (B'.getD ((i+sumK pre)/64) 0) (pmask (pk (i+sumK pre) (k-sumK pre)) ((i+sumK pre)%64)):Nat));rw[u64s_setl]at hr2;have hgd:B'.getD ((i+sumK pre)/64) 0=B'[(i+sumK pre)/64]:=by rw[List.getD_eq_getElem?_getD,List.getElem?_eq_getElem hq];rfl
  have hv:(u64s B')[(i+sumK pre)/64]?= some (.int .u64 (B'.getD ((i+sumK pre)/64) 0:Nat)):=by rw[hgd];exact u64s_get (List.getElem?_eq_getElem hq)
  have hor:bits .andNot .u64 ((B'.getD ((i+sumK pre)/64) 0:Nat):Int) ((pmask (pk (i+sumK pre) (k-sumK pre)) ((i+sumK pre)%64):Nat):Int)=((clr (B'.getD ((i+sumK pre)/64) 0) (pmask (pk (i+sumK pre) (k-sumK pre)) ((i+sumK pre)%64)):Nat):Int):=andNot_bits;have T2:=hT.perm (l2:=(gb,.cells cur 47)::((nb,pcCells (i+sumK pre,pk (i+sumK pre) (k-sumK pre)))::(pcBlks w.heap.size bb vi vn++[(bb,.cells #[.slice (some ⟨gb,0,none⟩) B'.length cap,.int .i64 n0] 270)]))) (perm_of fun c=>by simp[pcBlks];omega);have cg:W.cell? ⟨gb,(i+sumK pre)/64,none⟩=some (.int .u64 (B'.getD ((i+sumK pre)/64) 0:Nat)):=(hrow.cell (R:=(nb,pcCells (i+sumK pre,pk (i+sumK pre) (k-sumK pre)))::(pcBlks w.heap.size bb vi vn++[(bb,.cells #[.slice (some ⟨gb,0,none⟩) B'.length cap,.int .i64 n0] 270)])) T2.has ((i+sumK pre)/64) (by rw[Nat.mul_one];exact hq)).trans hv;have fg:W.frozen? ⟨gb,(i+sumK pre)/64,none⟩=false:=T2.free1 _;have cn0:W.cell? ⟨nb,0,none⟩=some (.int .i64 ((i+sumK pre)/64:Nat)):=hT.cell1 0;have cn2:W.cell? ⟨nb,2,none⟩=some (.int .u64 (pmask (pk (i+sumK pre) (k-sumK pre)) ((i+sumK pre)%64):Nat)):=hT.cell1 2;have cs0:W.cell? ⟨w.heap.size,0,none⟩=some (pt bb):=hT.has.cell (b:=w.heap.size) (c:=#[pt bb]) (e:=144) (f:=(0,0)) (by simp[pcBlks]) 0
  have cb0:W.cell? ⟨bb,0,none⟩=some (.slice (some ⟨gb,0,none⟩) B'.length cap):=hT.has.cell (b:=bb) (c:=#[.slice (some ⟨gb,0,none⟩) B'.length cap,.int .i64 n0]) (e:=270) (f:=(0,0)) (by simp[pcBlks]) 0;have T5:=(T2.setCell ((i+sumK pre)/64) (.int .u64 (clr (B'.getD ((i+sumK pre)/64) 0) (pmask (pk (i+sumK pre) (k-sumK pre)) ((i+sumK pre)%64)):Nat))).perm (l2:=(nb,pcCells (i+sumK pre,pk (i+sumK pre) (k-sumK pre)))::(pcBlks w.heap.size bb vi vn++[(bb,.cells #[.slice (some ⟨gb,0,none⟩) B'.length cap,.int .i64 n0] 270),(gb,.cells (cur.setIfInBounds ((i+sumK pre)/64) (.int .u64 (clr (B'.getD ((i+sumK pre)/64) 0) (pmask (pk (i+sumK pre) (k-sumK pre)) ((i+sumK pre)%64)):Nat))) 47)])) (perm_of fun c=>by simp[pcBlks];omega);have HT5:=uh T5;have HT:=uh hT;have Hr2:=uh hr2;have Hsn:=uh hsn;have hqi:(((i+sumK pre)/64:Nat):Int)<(B'.length:Int):=by omega
  clear hT T2 T5 hr2 hsn hrow hv e1 hbx hT0 hgd hpn hpk;unfold clrAt at HE1;unfold clrAct;simp only;generalize hmk:pmask (pk (i+sumK pre) (k-sumK pre)) ((i+sumK pre)%64)=mk at*;generalize hq1:(i+sumK pre)/64=q at*;generalize hq2:B'.getD q 0=bv at*;generalize hq3:(i+sumK pre)%64=r at*
  gi_wp2_with fail
  refine wpIn_region_still_tail (follows_round _ _ _) 12 (by kernel_rfl) (by kernel_rfl) (by kernel_rfl) ?_;simp only[List.take_succ_cons,List.take_zero,List.drop_succ_cons,List.drop_zero]
  iterate 12 still_step
  refine wpStill_nil ?_
  gi_wp2_with fail
  have HT6:=HT5.out.drew;refine⟨⟨(KeepsOthers.setCell W _ _).size,fun k o _ hk ho=>(KeepsOthers.setCell W _ _).same k o hk ho⟩,pc_kp (X:=[_]) (X':=[_]) HT.out HT6,B'.set q (clr bv mk),_,vi,vn,by rw[Hsn.out];exact HE1.out,⟨some ⟨gb,0,none⟩,cap,_,by rw[List.length_set];exact Hr2.out,by rw[List.length_set]⟩,HT6.tail⟩
 case done=>
  rintro D xs W hD hS ⟨B',l',vi,vn,e1,e2,hT⟩ hK;rw[hS]at e1;have T5:=hT.grownB (B:=W0.heap.size) (by omega) (fun x hx=>(List.mem_append.1 hx).elim (pcBlks_cells _ _ _ _ x) (e2.cells x)) (grownBy_putObj' W D (.deferred none)) (fun r e=>by cases e;exact⟨hD,_,hK,rfl⟩);have HT5:=uh T5.drop;have HE:=uh (⟨e1,e2⟩:ClrIn B B' i k /\ BitIs bb B' n0 l');clear hT T5 e1 e2 hT0 hbx hS
  gi_wp2_with fail
  refine⟨by simp,.inl ⟨_,_,rfl,run_takeDeferred hK,?_⟩⟩;refine⟨.int .i64 0,?_,rfl,B',l',HE.out.1,HE.out.2,HT5.out⟩;simp[results,results155,go_sem]
 case stop=>exact fun D c pre W _ hf _=>hf.elim
end
section
open Go Go.RowKit Go.Shelf Go.IntWalk
theorem bset {l0:List Blk}{w0:World}(w:World)(bb n0 i:Nat)(B:List Nat)(l R:List Blk)(hI:BitIs bb B n0 l)(hB:u64ok B)(hL:(n0+63)/64 <= B.length)(h:i<n0)(h0:n0 <= 65536)(T:Turn l0 w0 (l++R) w):
  Calls prog 67 #[pt bb,.int .i64 i] w fun e w'=>e=.returned (.int .i64 0) /\ ∃B' l',SetIn B B' i 1 /\ BitIs bb B' n0 l' /\ Turn l0 w0 (l'++R) w':=by
 have H:=uh ((callsIn_wide (n:=4)).1 (bsetrun_in 4 (by omega) bb n0 i 1 B l hI hB hL (by omega) h0 w (T.has.sub (List.sublist_append_left l R))));have HT:=uh T;clear T
 go_enter func67,ntmps67
 go_wp2_with fail
 refine H.out.mono ?_;rintro e w1 ⟨rfl,B',l',h1,h2,T1⟩;have HX:=uh (⟨h1,h2,HT.out.trans (T1.more HT.out.has)⟩:SetIn B B' i 1 /\ BitIs bb B' n0 l' /\ Turn l0 w0 (l'++R) w1);clear h1 h2 T1 HT H
 go_wp2_with fail
 go_ret;exact⟨rfl,B',l',HX.out⟩
theorem bclear {l0:List Blk}{w0:World}(w:World)(bb n0 i:Nat)(B:List Nat)(l R:List Blk)(hI:BitIs bb B n0 l)(hB:u64ok B)(hL:(n0+63)/64 <= B.length)(h:i<n0)(h0:n0 <= 65536)(T:Turn l0 w0 (l++R) w):
  Calls prog 72 #[pt bb,.int .i64 i] w fun e w'=>e=.returned (.int .i64 0) /\ ∃B' l',ClrIn B B' i 1 /\ BitIs bb B' n0 l' /\ Turn l0 w0 (l'++R) w':=by
 have H:=uh ((callsIn_wide (n:=4)).1 (bclrrun_in 4 (by omega) bb n0 i 1 B l hI hB hL (by omega) h0 w (T.has.sub (List.sublist_append_left l R))));have HT:=uh T;clear T
 go_enter func72,ntmps72
 go_wp2_with fail
 refine H.out.mono ?_;rintro e w1 ⟨rfl,B',l',h1,h2,T1⟩;have HX:=uh (⟨h1,h2,HT.out.trans (T1.more HT.out.has)⟩:ClrIn B B' i 1 /\ BitIs bb B' n0 l' /\ Turn l0 w0 (l'++R) w1);clear h1 h2 T1 HT H
 go_wp2_with fail
 go_ret;exact⟨rfl,B',l',HX.out⟩
theorem bclrrun {l0:List Blk}{w0:World}(w:World)(bb n0:Nat)(B:List Nat)(l R:List Blk)(hI:BitIs bb B n0 l)(hB:u64ok B)(hL:(n0+63)/64 <= B.length)(h0:n0 <= 65536)(T:Turn l0 w0 (l++R) w):
  Calls prog 155 #[pt bb,.int .i64 (0:Nat),.int .i64 n0] w fun e w'=>e=.returned (.int .i64 0) /\ ∃B' l',ClrIn B B' 0 n0 /\ BitIs bb B' n0 l' /\ Turn l0 w0 (l'++R) w':=
 ((callsIn_wide (n:=4)).1 (bclrrun_in 4 (by omega) bb n0 0 n0 B l hI hB hL (by omega) h0 w (T.has.sub (List.sublist_append_left l R)))).mono fun e w1 ⟨he,B',l',h1,h2,T1⟩=>⟨he,B',l',h1,h2,T.trans (T1.more T.has)⟩
structure BitAt (w:World)(bb:Nat)(B:List Nat)(n:Nat)(bo:Option Addr)(cap:Nat):Prop where
 c0:w.cell? ⟨bb,0,none⟩=some (.slice bo B.length cap)
 c1:w.cell? ⟨bb,1,none⟩=some (.int .i64 n)
 src:Src w bo B.length cap 1 (u64s B)
theorem BitAt.below {w w':World}{bb:Nat}{B:List Nat}{n cap:Nat}{bo:Option Addr}(h:BitAt w bb B n bo cap)(hk:Below w.heap.size w w'):BitAt w' bb B n bo cap:=
 ⟨(hk.cell (p:=⟨bb,0,none⟩) (World.block_lt_of_cell? w _ h.c0)).trans h.c0,(hk.cell (p:=⟨bb,1,none⟩) (World.block_lt_of_cell? w _ h.c1)).trans h.c1,h.src.below hk⟩
theorem BitIs.at_ {bb:Nat}{B:List Nat}{n:Nat}{l R:List Blk}{w:World}(h:BitIs bb B n l)(hH:Has w (l++R)):∃bo cap,BitAt w bb B n bo cap:=by
 obtain⟨bo,cap,lr,hr,rfl⟩:=h;exact⟨bo,cap,hH.cell (b:=bb) (c:=#[.slice bo B.length cap,.int .i64 n]) (e:=270) (f:=(0,0)) (by simp) 0,hH.cell (b:=bb) (c:=#[.slice bo B.length cap,.int .i64 n]) (e:=270) (f:=(0,0)) (by simp) 1,hr.src (R:=(bb,.cells #[.slice bo B.length cap,.int .i64 n] 270)::R) (hH.perm po)⟩
theorem bhas_out (w:World)(bb n0:Nat)(B:List Nat)(bo:Option Addr)(cap:Nat)(hA:BitAt w bb B n0 bo cap)(g:Int)(h:g<0∨(n0:Int) <= g):
  Calls prog 71 #[pt bb,.int .i64 g] w fun e w'=>e=.returned (.bool false) /\ Below w.heap.size w w':=by
 have c1:=hA.c1;have HB:=uh (Below.refl w.heap.size w);clear hA
 by_cases hg:g<0
 · have k1:decide (g<0)=true:=decide_eq_true hg
   clear h
   go_enter func71,ntmps71
   go_wp2_with fail
   go_ret;exact⟨rfl,HB.out⟩
 · have k1:decide (g<0)=false:=decide_eq_false hg
   have k2:decide ((n0:Int) <= g)=true:=decide_eq_true (h.resolve_left hg);clear h
   go_enter func71,ntmps71
   go_wp2_with fail
   go_ret;exact⟨rfl,HB.out⟩
theorem bhas (w:World)(bb n0:Nat)(B:List Nat)(bo:Option Addr)(cap:Nat)(hA:BitAt w bb B n0 bo cap)(hB:u64ok B)(hL:(n0+63)/64 <= B.length)(g:Nat)(h:g<n0)(h0:n0 <= 65536):
  Calls prog 71 #[pt bb,.int .i64 g] w fun e w'=>e=.returned (.bool (bitAt B g)) /\ Below w.heap.size w w':=by
 have c1:=hA.c1;have k1:decide ((g:Int)<0)=false:=decide_eq_false (by omega);have k2:decide ((n0:Int) <= (g:Int))=false:=decide_eq_false (by omega);have k3:decide (n0 <= g)=false:=decide_eq_false (by omega);have Hat:=uh (bat w g (by omega));have HA:=uh hA;have hq:g/64<B.length:=by omega
 have hgd:B.getD (g/64) 0=B[g/64]:=by rw[List.getD_eq_getElem?_getD,List.getElem?_eq_getElem hq];rfl
 have hv:(u64s B)[g/64]?= some (.int .u64 (B.getD (g/64) 0:Nat)):=by rw[hgd];exact u64s_get (List.getElem?_eq_getElem hq)
 have hub:=getD_u64 hB (g/64);have hbit:=has_bits (b:=g%64) hub;have hres:bitAt B g=(B.getD (g/64) 0).testBit (g%64):=rfl;rw[hres];obtain⟨gb,off,rfl,hcell⟩:=hA.src.form (by rw[u64s_length];omega);have hcg:=hcell _ _ hv;have hqi:((g/64:Nat):Int)<(B.length:Int):=by omega
 have hr:g%64<64:=by omega
 have hq6:g/64 <= 65536:=by omega
 clear hA hcell hv hgd hres h hB;generalize B.getD (g/64) 0=bv at*;generalize g/64=q at*;generalize g%64=r at*
 go_enter func71,ntmps71
 go_wp2_with fail
 refine Hat.out.mono ?_;rintro e w1 ⟨rfl,hB1⟩;have T1:=((Turn.refl (Has.nil w)).call hB1).alloc (.cells #[.int .i64 q,.int .i64 r] 272);have hA1:=HA.out.below T1.below;have c0:=hA1.c0;have hcg1:=(T1.below.cell (p:=⟨gb,off+q,none⟩) (World.block_lt_of_cell? w _ hcg)).trans hcg;have d0:(w1.alloc (.cells #[.int .i64 q,.int .i64 r] 272)).cell? ⟨w1.heap.size,0,none⟩=some (.int .i64 q):=T1.cell1 0;have d1:(w1.alloc (.cells #[.int .i64 q,.int .i64 r] 272)).cell? ⟨w1.heap.size,1,none⟩=some (.int .i64 r):=T1.cell1 1;have HT1:=uh T1;clear hA1 hB1 Hat HA hcg c1 T1
 go_upto_region 4 with fail
 generalize w1.alloc (.cells #[.int .i64 q,.int .i64 r] 272)=w2 at*;generalize w1.heap.size=b5 at*
 go_quiet (fail)
 go_wp2_with fail
 have hb2:(bits .and .u64 ((bv:Int)/2^r) 1 == 1)=bv.testBit r:=by
  rw[Int.fdiv_eq_ediv_of_nonneg _ (Int.le_of_lt (Int.pow_pos (by decide)))]at hbit;rw[hbit]
  cases bv.testBit r<;>rfl
 go_ret;exact⟨by rw[hb2];rfl,(HT1.out.drewN _).below⟩
theorem clone_u64 {ao:Option Addr}{n cap:Nat}{xs:List Value}{R:List Blk}(w:World)(hsrc:Src w ao n cap 1 xs)(hH:Has w R)(h1:∀u∈xs,u.oneCell'=true)(hn:n*8 <= 140737488355328):
  Calls prog 180 #[.slice ao n cap] w fun e w'=>∃ao' cap' l',e=.returned (.slice ao' n cap') /\ Row 47 1 ao' n cap' xs l' /\ Turn R w (l'++R) w' /\ (ao'=none↔ao=none):=by
 cases ao with
 | none=>
  obtain⟨rfl,rfl⟩:=hsrc.nil rfl;have hx:xs=[]:=List.eq_nil_of_length_eq_zero (by simpa using hsrc.len);subst hx;have hnil:=fun W:World=>Lib.run_eql_slice_nil (P:=prog) W 61 47 none 0 0 0 0 underlying61
  go_enter func180,ntmps180
  go_wp2
  go_ret;exact⟨none,0,[],rfl,Row.nil _ _,Turn.refl hH,by simp⟩
 | some ad=>
  have hl:xs.length=n:=by simpa using hsrc.len
  have hs:=hsrc.at_ ad rfl;have hnil:=fun W:World=>Lib.run_eql_slice_nil (P:=prog) W 61 47 (some ad) n cap 0 0 underlying61;have hT:=(Turn.refl hH).alloc (.cells #[] 47);have hrow:Row 47 1 (some ⟨w.heap.size,0,none⟩) 0 0 [] [(w.heap.size,.cells #[] 47)]:=⟨rfl,Nat.le_refl _,Nat.zero_le _,.inr ⟨_,_,rfl,rfl,Nat.zero_le _,rfl⟩⟩;have hnews:∀j u,xs[j]?= some u -> (w.alloc (.cells #[] 47)).cell? (ad.add j)=some u:=(hsrc.alloc _).at_ ad rfl;have hmax:0+n <= maxLen:=by unfold maxLen;omega
  have Hlen:xs.length=n*1:=by omega
  have Hlen':=uh Hlen;clear hl Hlen
  go_enter func180,ntmps180
  go_wp2_with (at_builtin;refine wpList_append_row rfl _ _ rfl el_u64 rfl hrow hT.has rfl Hlen'.out hnews h1 hmax (by omega) ?_;intro ao' cap' l' w' hr ht hno)
  go_ret;exact⟨ao',cap',l',by simp,by simpa using hr,hT.trans ht |>.perm (by exact List.Perm.refl _),by simpa using hno⟩
theorem zc312:Tryz.zeroCells312= (u64s (List.replicate 1024 0)).toArray:=by kernel_rfl
theorem bnew (w:World)(n:Nat)(hm:n <= 65536):
  Calls prog 114 #[.int .i64 n] w fun e w'=>∃bb l,e=.returned (.tuple #[pt bb,.int .i64 0]) /\ BitIs bb (List.replicate ((n+63)/64) 0) n l /\ Turn [] w l w':=by
 have T1:=(Turn.refl (Has.nil w)).alloc (.cells Tryz.zeroCells312 312);have hk:(n+63)/64 <= 1024:=by omega
 have hS:Src (w.alloc (.cells Tryz.zeroCells312 312)) (some ⟨w.heap.size,0,none⟩) ((n+63)/64) 1024 1 (u64s (List.replicate ((n+63)/64) 0)):=by
  refine⟨by rw[u64s_length,List.length_replicate,Nat.mul_one],fun h=>(by cases h),fun ad ha j u hu=>?_⟩
  cases ha
  have hj:j<(n+63)/64:=by have:=(List.getElem?_eq_some_iff.1 hu).1;rw[u64s_length,List.length_replicate]at this;exact this
  rw[u64s_get (v:=0) (List.getElem?_replicate_of_lt hj)]at hu;rw[add_lit,Nat.zero_add,T1.cell1 j,zc312,List.getElem?_toArray,u64s_get (v:=0) (List.getElem?_replicate_of_lt (by omega))];exact hu
 have k1:decide ((n:Int)<0)=false:=decide_eq_false (by omega);have k2:decide ((65536:Int)<(n:Int))=false:=decide_eq_false (by omega);have k3:((n:Int)+63).tdiv 64=(((n+63)/64:Nat):Int):=tdiv_nat (n+63) 64;have k4:((n:Int)+63)/64=(((n+63)/64:Nat):Int):=by omega
 have Hc:=uh (clone_u64 _ hS T1.has (u64s_one _) (by omega));have HT1:=uh T1;have hl:(List.replicate ((n+63)/64) 0).length=(n+63)/64:=List.length_replicate;have Hl:=uh hl;have hlz:(Tryz.zeroCells312).size=1024:=by rw[zc312];rfl
 clear hS T1 hl;generalize(n+63)/64=q at*;have hqi:(q:Int) <= 1024:=by omega
 go_enter func114,ntmps114
 go_wp2_with fail
 refine Hc.out.mono ?_;rintro e w2 ⟨ao',cap',l',rfl,hr,T2,-⟩;have Hr:=uh hr;have HT2:=uh ((HT1.out.trans T2).sub (List.sublist_append_left l' _));clear hr T2 HT1 Hc
 go_wp2_with fail
 have HT3:=uh (HT2.out.alloc (.cells #[.slice ao' q cap',.int .i64 n] 270));refine bodyPost_ret (results_tmp2 rfl _ _ _) rfl ?_;exact⟨w2.heap.size,_,rfl,⟨ao',cap',l',by rw[Hl.out];exact Hr.out,by rw[Hl.out]⟩,HT3.out⟩
end
section
open Go Go.RowKit Go.IntWalk
theorem res_three {P:Program}{fn:Func}{p q r:Tmp}{ty ty2:TypeId}(h:fn.results=#[.cell p ty,.cell q ty2,.tmp r])(tmps:Array Value)(w:World)(b b2:Nat)(cs cs2:List Value)(d d2:TypeDesc)
  (hp:tmps.getD p undef=pt b)(hc:w.rangeAt b 0 cs)(hu:P.underlying ty=some d)(hd:d.isRow=true)(hi:(P.info? ty).map (·.size)=some cs.length)
  (hq:tmps.getD q undef=pt b2)(hc2:w.rangeAt b2 0 cs2)(hu2:P.underlying ty2=some d2)(hd2:d2.isRow=true)(hi2:(P.info? ty2).map (·.size)=some cs2.length):
  (results fn tmps).run P w=.ok (.tuple #[.agg cs.toArray,.agg cs2.toArray,tmps.getD r undef]) w:=by
 have hp':tmps[p]?.getD undef=pt b:=by simpa using hp
 have hq':tmps[q]?.getD undef=pt b2:=by simpa using hq
 simp[results,h,hp',hq',asAddr,run_loadVar_mid w b 0 ty cs d hc hu hd hi,run_loadVar_mid w b2 0 ty2 cs2 d2 hc2 hu2 hd2 hi2]
theorem Turn.laid4 {l l1:List Blk}{w w':World}{b:Nat}{x y z:Blk}{c:Array Value}{e:TypeId}{f:Nat×Nat}(h:Turn l w (x::y::z::(b,.cells c e f)::l1) w')(vs:List Value)(hl:vs.length=c.size):
  Turn l w (x::y::z::(b,.cells vs.toArray e f)::l1) (w'.setCells b 0 vs):=
 (Turn.setAll vs hl (h.perm (l2:=(b,.cells c e f)::x::y::z::l1) po)).perm po
theorem Turn.there4 {l L:List Blk}{w W:World}{b:Nat}{x y z:Blk}{c:Array Value}{e:TypeId}(h:Turn l w (x::y::z::(b,.cells c e (0,0))::L) W):W.there b 0 c.size:=
 (h.perm (l2:=(b,.cells c e (0,0))::x::y::z::L) po).there1
theorem Turn.range4 {l L:List Blk}{w W:World}{b:Nat}{x y z:Blk}{c:Array Value}{e:TypeId}{f:Nat×Nat}(h:Turn l w (x::y::z::(b,.cells c e f)::L) W):W.rangeAt b 0 c.toList:=
 (h.perm (l2:=(b,.cells c e f)::x::y::z::L) po).range1
def ofErr (W:List Nat)(g:Int):Int:=if (headAt W g).isSome then 8 else headErr W g
theorem ofErr_ne {W:List Nat}{g:Int}:ofErr W g≠0:=by
 unfold ofErr
 cases hh:headAt W g with
 | none=>exact headAt_none hh
 | some h=>exact(by decide:(8:Int)≠0)
theorem of8 (w:World){W:List Nat}(ao:Option Addr)(cap:Nat)(hS:Src w ao W.length cap 1 (u64s W))(hf:W.length <= 65536)(hu:∀v∈W,v<18446744073709551616)(L:List Ty)(hTy:∀t∈L,TyIn t)(hL:L.length <= 1000)(ao2:Option Addr)(cap2:Nat)(hS2:Src w ao2 L.length cap2 3 (tys L))(g:Int):
  Calls prog 194 #[.slice ao W.length cap,.slice ao2 L.length cap2,.int .i64 g] w fun e w'=>(match objq L W g with
   | some h=>e=.returned (.tuple #[hdVal h,tyVal (tyAt L h.typ),.int .i64 0])
   | none=>e=.returned (.tuple #[hdVal hd0,tyVal ⟨0,0,0⟩,.int .i64 (ofErr W g)])) /\ Below w.heap.size w w':=by
 have hsz:=sz_head;have hszT:=sz_type;have hoZ:=hd0_one;have hoZT:=ty_one ⟨0,0,0⟩;have T0:=((Turn.refl (Has.nil w)).alloc zH).alloc zT;rw[World.size_alloc]at T0;have Hhd:=uh (head8 _ ao cap (hS.below T0.below) hf hu g);have HT0:=uh T0;clear T0
 cases hh:headAt W g with
 | none=>
  have hoe:ofErr W g=headErr W g:=by unfold ofErr;rw[hh];rfl
  rw[hoe];clear hoe;have hne:=headAt_none hh;have hq:objq L W g=none:=by unfold objq;rw[hh]
  rw[hq];simp only;rw[hh]at Hhd;generalize headErr W g=er at*;clear hS hS2 hu hh hq hTy
  go_enter func194,ntmps194
  go_wp2_with fail
  refine Hhd.out.mono ?_;rintro e w1 ⟨rfl,hB1⟩;simp only[Option.getD_none];have T2:=(HT0.out.call hB1).alloc zH;have hth:(w1.alloc zH).there w1.heap.size 0 4:=T2.there1;have HT2:=uh (T2.laid [.int .u8 0,.int .i64 0,.int .i64 0,.int .i64 0] rfl);clear T2 hB1 Hhd HT0
  go_wp2_with (first
   | (show sW 79;refine wpList_store_mid rfl 79 _ _ rfl _ 0 #[.int .u8 0,.int .i64 0,.int .i64 0,.int .i64 0] rfl rfl hth hsz hoZ ?_;clear hth;have hth6:=HT2.out.there3;have HT3:=uh (HT2.out.laid3 [.int .u8 0,.int .i64 0,.int .i64 0,.int .i64 0] rfl))
   | (show sW 79;refine wpList_store_mid rfl 79 _ _ rfl _ 0 #[.int .u8 0,.int .i64 0,.int .i64 0,.int .i64 0] rfl rfl hth6 hsz hoZ ?_;clear hth6;have hth7:=HT3.out.there2;have HT4:=uh (HT3.out.laid2 [.int .u8 0,.int .i64 0,.int .u64 0] rfl))
   | (show sW 49;refine wpList_store_mid rfl 49 _ _ rfl _ 0 #[.int .u8 0,.int .i64 0,.int .u64 0] rfl rfl hth7 hszT hoZT ?_)
   | fail)
  have HR:=(⟨HT4.out.range3,HT4.out.range2⟩:_ /\ _);refine bodyPost_ret (res_three results194 _ _ _ _ _ _ _ _ rfl HR.1 underlying79 rfl hsz rfl HR.2 underlying49 rfl hszT) rfl ?_;exact⟨rfl,HT4.out.below⟩
 | some h=>
  obtain⟨hm,hg0,hg1,he0⟩:=headAt_some hh;have hoe:ofErr W g=8:=by unfold ofErr;rw[hh];rfl
  rw[hoe];clear hoe;obtain⟨g,rfl⟩:∃q:Nat,g=q:=⟨g.toNat,by omega⟩;have hq:objq L W g=if h.tag=1 /\ fitErr L h=0 /\ g+h.size <= W.length/2 then some h else none:=by unfold objq;rw[hh];simp
  rw[hq];rw[hh,he0]at Hhd;have HFit:=uh (fun W' (hB:Below w.heap.size w W')=>fits7 W' L hTy hL ao2 cap2 (hS2.below hB) h (may_in hm));have Hget:=uh (fun W' (hB:Below w.heap.size w W')=>rget W' L ao2 cap2 (hS2.below hB) hL h.typ);have hg3:g<W.length/2:=by omega
  have hdiv:((W.length:Int)).tdiv 2=((W.length/2:Nat):Int):=tdiv_nat _ 2;have hdiv2:(W.length:Int)/2=((W.length/2:Nat):Int):=by omega
  obtain⟨z,hz⟩:∃z:Nat,W.length/2=z:=⟨_,rfl⟩;rw[hz]at hq hg3 hdiv hdiv2 ⊢;have hz2:z <= 65536:=by omega
  generalize hty:tyAt L h.typ=t at Hget;generalize(if (getTy L h.typ).isSome=true then(0:Int)else 3)=e27 at Hget;generalize hfe:fitErr L h=fe at*;obtain⟨xa,xb,xc,xd⟩:=h;simp only
  have hbd:xa <= 3 /\ xd<16777216:=by
   obtain⟨m1,m2,m3,m4⟩:=hm;simp only at m1 m2 m3 m4;omega
  obtain⟨k,m,mk⟩:=t
  refine((show ∀Qp:Ending -> World -> Prop,Hid (xa=1 /\ fe=0 /\ g+xd <= z -> ∀w',Below w.heap.size w w' -> Qp (.returned (.tuple #[hdVal ⟨xa,xb,xc,xd⟩,tyVal ⟨k,m,mk⟩,.int .i64 0])) w') ->
    Hid (¬(xa=1 /\ fe=0 /\ g+xd <= z) -> ∀w',Below w.heap.size w w' -> Qp (.returned (.tuple #[hdVal hd0,tyVal ⟨0,0,0⟩,.int .i64 8])) w') ->
    Calls prog 194 #[.slice ao W.length cap,.slice ao2 L.length cap2,.int .i64 g] w (fun e w'=>Qp e w' /\ True)from ?_) (fun e w'=>(match (if xa=1 /\ fe=0 /\ g+xd <= z then some (Hd.mk xa xb xc xd)else none:Option Hd)with|some h=>e=.returned (.tuple #[hdVal h,tyVal (tyAt L h.typ),.int .i64 0])|none=>e=.returned (.tuple #[hdVal hd0,tyVal ⟨0,0,0⟩,.int .i64 8])) /\ Below w.heap.size w w')
    (uh (fun hc w' hB=>by rw[if_pos hc];simp only;exact⟨by rw[hty],hB⟩)) (uh (fun hc w' hB=>by rw[if_neg hc];exact⟨rfl,hB⟩))).mono fun e w' h=>h.1
  clear hty hq;intro Qp HY HN;have hoX:=hd_one ⟨xa,xb,xc,xd⟩;have hoT:=ty_one ⟨k,m,mk⟩;simp only at hoX hoT;clear hS hS2 hu hh he0 hm hTy hg0 hg1 hz hfe
  go_enter func194,ntmps194
  go_wp2_with fail
  refine Hhd.out.mono ?_;rintro e w1 ⟨rfl,hB1⟩;simp only[Option.getD_some];have T2:=(HT0.out.call hB1).alloc zH;have hth:(w1.alloc zH).there w1.heap.size 0 4:=T2.there1;have HT2:=uh (T2.laid [.int .u8 xa,.int .i64 xb,.int .i64 xc,.int .i64 xd] rfl);have c0:=HT2.out.cell1 0;have hr9:=HT2.out.range1;clear T2 hB1 Hhd HT0
  by_cases ht:xa=1
  · subst ht
    replace HT2:Hid (Turn [] w [(w1.heap.size,.cells #[.int .u8 1,.int .i64 xb,.int .i64 xc,.int .i64 xd] 79),(w.heap.size+1,zT),(w.heap.size,zH)] ((w1.alloc zH).setCells w1.heap.size 0 [.int .u8 1,.int .i64 xb,.int .i64 xc,.int .i64 xd])):=HT2;replace c0:=HT2.out.cell1 0;replace hr9:=HT2.out.range1
    by_cases hf0:fe=0
    · subst hf0
      have k1:IntKind.i64.wrap ((z:Int)-(g:Int))=(z:Int)-(g:Int):=i64_in _ (by omega)
      by_cases hs:g+xd <= z
      · have k2:decide (((z:Int)-(g:Int))<(xd:Int))=false:=decide_eq_false (by omega)
        have k3:¬((z:Int)-(g:Int))<(xd:Int):=(by omega);have HY2:=uh (HY.out ⟨rfl,rfl,hs⟩);clear HY HN hs
        go_upto_region 4 with(first
         | (show sW 79;refine wpList_store_mid rfl 79 _ _ rfl _ 0 #[.int .u8 1,.int .i64 xb,.int .i64 xc,.int .i64 xd] rfl rfl hth hsz hoX ?_;clear hth)
         | fail)
        go_wp2_with (first
         | (show lW 79;refine wpList_load_g 79 _ rfl (by rfl) w1.heap.size 0 rfl [.int .u8 1,.int .i64 xb,.int .i64 xc,.int .i64 xd] _ hr9 underlying79 rfl hsz ?_;clear hr9)
         | fail)
        refine(HFit.out _ HT2.out.below).mono ?_;rintro e w2 ⟨rfl,hB2⟩;have HTb:=uh (HT2.out.call hB2);clear HT2 hB2 c0;have c3:=HTb.out.cell1 3;have c1:=HTb.out.cell1 1
        go_wp2_with fail
        refine(Hget.out _ HTb.out.below).mono ?_;rintro e w3 ⟨rfl,hB3⟩;have T5:=(HTb.out.call hB3).alloc zT;have hth11:(w3.alloc zT).there w3.heap.size 0 3:=T5.there1;have HT5:=uh (T5.laid [.int .u8 k,.int .i64 m,.int .u64 mk] rfl);clear T5 hB3 HTb
        go_upto_region 7 with(first
         | (show sW 49;refine wpList_store_mid rfl 49 _ _ rfl _ 0 #[.int .u8 k,.int .i64 m,.int .u64 mk] rfl rfl hth11 hszT hoT ?_;clear hth11)
         | fail)
        refine wp_abs (fun W'=>Turn [] w [(w3.heap.size,.cells #[.int .u8 k,.int .i64 m,.int .u64 mk] 49),(w1.heap.size,.cells #[.int .u8 1,.int .i64 xb,.int .i64 xc,.int .i64 xd] 79),(w.heap.size+1,zT),(w.heap.size,zH)] W') HT5.out fun W7 T7=>?_;clear HT5;have T7d:=T7.drew;have hth6:=T7d.there4;have HT8:=uh (T7d.laid4 [.int .u8 1,.int .i64 xb,.int .i64 xc,.int .i64 xd] rfl);have hth7:=HT8.out.there3;have HT9:=uh (HT8.out.laid3 [.int .u8 k,.int .i64 m,.int .u64 mk] rfl);have hS:(fun W'=>W'.rangeAt w1.heap.size 0 [.int .u8 1,.int .i64 xb,.int .i64 xc,.int .i64 xd] /\ W'.rangeAt w3.heap.size 0 [.int .u8 k,.int .i64 m,.int .u64 mk]) W7.drew:=⟨T7d.range2,T7d.range1⟩;have hS8:(fun W'=>W'.rangeAt w1.heap.size 0 [.int .u8 1,.int .i64 xb,.int .i64 xc,.int .i64 xd] /\ W'.rangeAt w3.heap.size 0 [.int .u8 k,.int .i64 m,.int .u64 mk]) (W7.drew.setCells w.heap.size 0 [.int .u8 1,.int .i64 xb,.int .i64 xc,.int .i64 xd]):=⟨HT8.out.range2,HT8.out.range1⟩;have hS9:(fun W'=>W'.rangeAt w1.heap.size 0 [.int .u8 1,.int .i64 xb,.int .i64 xc,.int .i64 xd] /\ W'.rangeAt w3.heap.size 0 [.int .u8 k,.int .i64 m,.int .u64 mk]) ((W7.drew.setCells w.heap.size 0 [.int .u8 1,.int .i64 xb,.int .i64 xc,.int .i64 xd]).setCells (w.heap.size+1) 0 [.int .u8 k,.int .i64 m,.int .u64 mk]):=⟨HT9.out.range2,HT9.out.range1⟩;clear T7 T7d;refine wp_region_noPanic ?_
        refine wp_region_listed (S:=fun W'=>W'.rangeAt w1.heap.size 0 [.int .u8 1,.int .i64 xb,.int .i64 xc,.int .i64 xd] /\ W'.rangeAt w3.heap.size 0 [.int .u8 k,.int .i64 m,.int .u64 mk]) 5 [false,false,false,false,false] rfl rfl (by kernel_rfl) ?_;refine tkC 0 52 hS (fun w' hSw=>load_mid_run 79 _ rfl w1.heap.size 0 rfl [.int .u8 1,.int .i64 xb,.int .i64 xc,.int .i64 xd] _ hSw.1 underlying79 rfl hsz) ?_;refine tkC 1 53 hS (fun w' hSw=>load_mid_run 49 _ rfl w3.heap.size 0 rfl [.int .u8 k,.int .i64 m,.int .u64 mk] _ hSw.2 underlying49 rfl hszT) ?_;refine rdyA 2 (fun K hK=>?_);rw[if_pos (by rfl)];refine wp_store_mid 79 _ _ rfl _ 0 #[.int .u8 1,.int .i64 xb,.int .i64 xc,.int .i64 xd] rfl rfl hth6 hsz hoX ?_;refine hK.out _ _ hS8 fun _=>?_;clear hK K;simp only[Act.put,List.setIfInBounds_toArray,List.set_cons_zero,List.set_cons_succ];refine rdyA 3 (fun K hK=>?_);rw[if_pos (by rfl)];refine wp_store_mid 49 _ _ rfl _ 0 #[.int .u8 k,.int .i64 m,.int .u64 mk] rfl rfl hth7 hszT hoT ?_;refine hK.out _ _ hS9 fun _=>?_;clear hK K;simp only[Act.put,List.setIfInBounds_toArray,List.set_cons_zero,List.set_cons_succ];refine tkA 4 8 hS9 ?_;refine wpAnyH_done (by kernel_rfl) ?_ _;refine NoPanic.normal ?_;clear hS hS8 hS9 hth6 hth7
        go_wp2_with fail
        have HR:=(⟨HT9.out.range4,HT9.out.range3⟩:_ /\ _);refine bodyPost_ret (res_three results194 _ _ _ _ _ _ _ _ rfl HR.1 underlying79 rfl hsz rfl HR.2 underlying49 rfl hszT) rfl ?_
        first|exact HY2.out _ HT9.out.below|exact⟨HY2.out _ HT9.out.below,trivial⟩
      · have k2:decide (((z:Int)-(g:Int))<(xd:Int))=true:=decide_eq_true (by omega)
        have k3:((z:Int)-(g:Int))<(xd:Int):=(by omega);have HN2:=uh (HN.out (fun h=>hs h.2.2));clear HY HN hs
        go_upto_region 4 with(first
         | (show sW 79;refine wpList_store_mid rfl 79 _ _ rfl _ 0 #[.int .u8 1,.int .i64 xb,.int .i64 xc,.int .i64 xd] rfl rfl hth hsz hoX ?_;clear hth)
         | fail)
        go_wp2_with (first
         | (show lW 79;refine wpList_load_g 79 _ rfl (by rfl) w1.heap.size 0 rfl [.int .u8 1,.int .i64 xb,.int .i64 xc,.int .i64 xd] _ hr9 underlying79 rfl hsz ?_;clear hr9)
         | fail)
        refine(HFit.out _ HT2.out.below).mono ?_;rintro e w2 ⟨rfl,hB2⟩;have HTb:=uh (HT2.out.call hB2);clear HT2 hB2 c0;have c3:=HTb.out.cell1 3;have c1:=HTb.out.cell1 1
        go_upto_region 5 with fail
        have hth6:=HTb.out.there3;have HT3:=uh (HTb.out.laid3 [.int .u8 0,.int .i64 0,.int .i64 0,.int .i64 0] rfl);have hth7:=HT3.out.there2;have HT4:=uh (HT3.out.laid2 [.int .u8 0,.int .i64 0,.int .u64 0] rfl);clear HTb
        go_wp2_with (first
         | (show sW 79;refine wpList_store_mid rfl 79 _ _ rfl _ 0 #[.int .u8 0,.int .i64 0,.int .i64 0,.int .i64 0] rfl rfl hth6 hsz hoZ ?_;clear hth6)
         | (show sW 49;refine wpList_store_mid rfl 49 _ _ rfl _ 0 #[.int .u8 0,.int .i64 0,.int .u64 0] rfl rfl hth7 hszT hoZT ?_;clear hth7)
         | fail)
        have HR:=(⟨HT4.out.range3,HT4.out.range2⟩:_ /\ _);refine bodyPost_ret (res_three results194 _ _ _ _ _ _ _ _ rfl HR.1 underlying79 rfl hsz rfl HR.2 underlying49 rfl hszT) rfl ?_
        first|exact HN2.out _ HT4.out.below|exact⟨HN2.out _ HT4.out.below,trivial⟩
    · have hfe0:(fe != 0)=true:=by rw[bne_iff_ne];exact hf0
      have HN2:=uh (HN.out (fun h=>hf0 h.2.1));clear HY HN
      go_upto_region 4 with(first
       | (show sW 79;refine wpList_store_mid rfl 79 _ _ rfl _ 0 #[.int .u8 1,.int .i64 xb,.int .i64 xc,.int .i64 xd] rfl rfl hth hsz hoX ?_;clear hth)
       | fail)
      go_wp2_with (first
       | (show lW 79;refine wpList_load_g 79 _ rfl (by rfl) w1.heap.size 0 rfl [.int .u8 1,.int .i64 xb,.int .i64 xc,.int .i64 xd] _ hr9 underlying79 rfl hsz ?_;clear hr9)
       | fail)
      refine(HFit.out _ HT2.out.below).mono ?_;rintro e w2 ⟨rfl,hB2⟩;have HTb:=uh (HT2.out.call hB2);clear HT2 hB2 c0;have c3:=HTb.out.cell1 3;have c1:=HTb.out.cell1 1
      go_upto_region 5 with fail
      have hth6:=HTb.out.there3;have HT3:=uh (HTb.out.laid3 [.int .u8 0,.int .i64 0,.int .i64 0,.int .i64 0] rfl);have hth7:=HT3.out.there2;have HT4:=uh (HT3.out.laid2 [.int .u8 0,.int .i64 0,.int .u64 0] rfl);clear HTb
      go_wp2_with (first
       | (show sW 79;refine wpList_store_mid rfl 79 _ _ rfl _ 0 #[.int .u8 0,.int .i64 0,.int .i64 0,.int .i64 0] rfl rfl hth6 hsz hoZ ?_;clear hth6)
       | (show sW 49;refine wpList_store_mid rfl 49 _ _ rfl _ 0 #[.int .u8 0,.int .i64 0,.int .u64 0] rfl rfl hth7 hszT hoZT ?_;clear hth7)
       | fail)
      have HR:=(⟨HT4.out.range3,HT4.out.range2⟩:_ /\ _);refine bodyPost_ret (res_three results194 _ _ _ _ _ _ _ _ rfl HR.1 underlying79 rfl hsz rfl HR.2 underlying49 rfl hszT) rfl ?_
      first|exact HN2.out _ HT4.out.below|exact⟨HN2.out _ HT4.out.below,trivial⟩
  · have ht2:¬(xa:Int)=1:=by omega
    have ht3:((xa:Int) != 1)=true:=(by rw[bne_iff_ne];exact ht2);have ht4:(xa != 1)=true:=(by rw[bne_iff_ne];exact ht);have HN2:=uh (HN.out (fun h=>ht h.1));clear HY HN
    go_upto_region 4 with(first
     | (show sW 79;refine wpList_store_mid rfl 79 _ _ rfl _ 0 #[.int .u8 xa,.int .i64 xb,.int .i64 xc,.int .i64 xd] rfl rfl hth hsz hoX ?_;clear hth;have hth6:=HT2.out.there3;have HT3:=uh (HT2.out.laid3 [.int .u8 0,.int .i64 0,.int .i64 0,.int .i64 0] rfl))
     | fail)
    go_upto_region 5 with fail
    have hth6:=HT2.out.there3;have HT3:=uh (HT2.out.laid3 [.int .u8 0,.int .i64 0,.int .i64 0,.int .i64 0] rfl);have hth7:=HT3.out.there2;have HT4:=uh (HT3.out.laid2 [.int .u8 0,.int .i64 0,.int .u64 0] rfl);clear HT2
    go_wp2_with (first
     | (show sW 79;refine wpList_store_mid rfl 79 _ _ rfl _ 0 #[.int .u8 0,.int .i64 0,.int .i64 0,.int .i64 0] rfl rfl hth6 hsz hoZ ?_;clear hth6)
     | (show sW 49;refine wpList_store_mid rfl 49 _ _ rfl _ 0 #[.int .u8 0,.int .i64 0,.int .u64 0] rfl rfl hth7 hszT hoZT ?_;clear hth7)
     | fail)
    have HR:=(⟨HT4.out.range3,HT4.out.range2⟩:_ /\ _);refine bodyPost_ret (res_three results194 _ _ _ _ _ _ _ _ rfl HR.1 underlying79 rfl hsz rfl HR.2 underlying49 rfl hszT) rfl ?_
    first|exact HN2.out _ HT4.out.below|exact⟨HN2.out _ HT4.out.below,trivial⟩
theorem make8 (w:World){W:List Nat}(ao:Option Addr)(cap:Nat)(hS:Src w ao W.length cap 1 (u64s W))(hf:W.length <= 65536)(L:List Ty)(hTy:∀t∈L,TyIn t)(hL:L.length <= 1000)(ao2:Option Addr)(cap2:Nat)(hS2:Src w ao2 L.length cap2 3 (tys L))
  (g id n sz:Nat)(he:tyErr L id n=0)(hs:tySize L id n=sz)(hm:(Hd.mk 1 id n sz).may)(hg:g+sz <= W.length/2):
  Calls prog 193 #[.slice ao W.length cap,.slice ao2 L.length cap2,.int .i64 g,.int .i64 id,.int .i64 n] w fun e w'=>∃ao' cap' l,e=.returned (.tuple #[.slice ao' W.length cap',.int .i64 0]) /\ Row 47 1 ao' W.length cap' (u64s (mk W g ⟨1,id,n,sz⟩)) l /\ Turn [] w l w':=by
 have hsz:=sz_head;have Hof:=uh (of7 w L hTy hL ao2 cap2 hS2 id n);unfold ofCells at Hof;rw[he,if_pos rfl,hs]at Hof;have He:=uh (fun W'=>enc7 W' ⟨1,id,n,sz⟩ (may_in hm));rw[if_pos hm,if_pos hm]at He;have hsp:1 <= sz:=hm.1;have ho:(#[.int .u8 1,.int .i64 id,.int .i64 n,.int .i64 sz]:Array Value).all (·.oneCell')=true:=hd_one ⟨1,id,n,sz⟩;have hmk:mk W g ⟨1,id,n,sz⟩=(zeros W (2*g) (2*sz)).set (2*g) (Hd.mk 1 id n sz).word:=rfl;rw[hmk];generalize(Hd.mk 1 id n sz).word=wd at*;have hdiv:((W.length:Int)).tdiv 2=((W.length/2:Nat):Int):=tdiv_nat _ 2;have hdiv2:(W.length:Int)/2=((W.length/2:Nat):Int):=by omega
 have hlen2:2*(g+sz) <= W.length:=by omega
 obtain⟨z,hz⟩:∃z:Nat,W.length/2=z:=⟨_,rfl⟩;rw[hz]at hdiv hdiv2 hg;have hzb:z <= 65536:=by omega
 have hgb:g <= 65536:=by omega
 have hsb:sz <= 65536:=by omega
 have hn:=uh (Has.nil w);have HS:=uh (fun w' (hB:Below w.heap.size w w')=>hS.below hB);have hnil:=Row.nil 47 1;have h63:0+W.length <= maxLen:=by unfold maxLen;omega
 have hby:(0+W.length)*8 <= 140737488355328:=by omega
 have hone:=u64s_one W;clear hmk hS hS2 he hs hm hTy hz;have k1:decide ((g:Int)<0)=false:=decide_eq_false (by omega);have k2:decide ((z:Int)<(g:Int))=false:=decide_eq_false (by omega);have k2':¬((z:Int)<(g:Int)):=by omega
 have k2n:decide (z<g)=false:=decide_eq_false (by omega);have k3:IntKind.i64.wrap ((z:Int)-(g:Int))=(z:Int)-(g:Int):=i64_in _ (by omega);have k4:decide (((z:Int)-(g:Int))<(sz:Int))=false:=decide_eq_false (by omega);have k4':¬((z:Int)-(g:Int))<(sz:Int):=by omega
 go_enter func193,ntmps193
 go_wp2_with fail
 refine Hof.out.mono ?_;rintro e w1 ⟨rfl,hB1⟩;have T2:=(Turn.of_below hn.out hB1).alloc zH;have hth:(w1.alloc zH).there w1.heap.size 0 4:=T2.there1;have HT2:=uh (T2.laid [.int .u8 1,.int .i64 id,.int .i64 n,.int .i64 sz] rfl);have c3:=HT2.out.cell1 3;have hsrc:=HS.out _ HT2.out.below;clear T2 hB1 Hof
 go_wp2_with (first
  | (show sW 79;refine wpList_store_mid rfl 79 _ _ rfl _ 0 #[.int .u8 1,.int .i64 id,.int .i64 n,.int .i64 sz] rfl rfl hth hsz ho ?_;clear hth)
  | (at_builtin;refine wpList_append_src rfl _ _ rfl el_u64 rfl rfl hnil (R:=[(w1.heap.size,.cells #[.int .u8 1,.int .i64 id,.int .i64 n,.int .i64 sz] 79)]) HT2.out.has hsrc hone h63 hby ?_;intro ao' cap' lr' w3 hr1 hT1;have Hr1:=uh hr1;have HT3:=uh (HT2.out.trans hT1);clear hr1 hT1 hsrc HT2)
  | fail)
 have hr1:Row 47 1 ao' W.length cap' (u64s W) lr':=by have h:=Hr1.out;rwa [Nat.zero_add,List.nil_append]at h
 obtain⟨gb,cur,rfl,rfl,-,-⟩:=hr1.some_of (by omega);clear Hr1 c3;have Hr:=uh hr1;clear hr1
 go_loopw [15] (fun v15 wr=>∃(j:Nat) (cu:Array Value),j <= 2*sz /\ v15=.int .i64 (2*g+j:Nat) /\ Row 47 1 (some ⟨gb,0,none⟩) W.length cap' (u64s (zeros W (2*g) j)) [(gb,.cells cu 47)] /\ Turn [] w ((gb,.cells cu 47)::[(w1.heap.size,.cells #[.int .u8 1,.int .i64 id,.int .i64 n,.int .i64 sz] 79)]) wr) (fun v15 _=>2*g+2*sz-(intOf v15).toNat)
 case atStart=>exact⟨0,cur,Nat.zero_le _,by go_num,Hr.out,HT3.out⟩
 case round=>
  clear HT3 Hr;obtain⟨j,cu,hj,rfl,hr,T⟩:=hrel;have c3:wr.cell? ⟨w1.heap.size,3,none⟩=some (.int .i64 sz):=T.cell2 3;have hzl:=zeros_len W (2*g) j
  by_cases hlt:j<2*sz
  · have hlt':((2*g+j:Nat):Int)<2*((g:Int)+(sz:Int)):=by omega
    have hlt2:2*(g:Int)+(j:Int)<2*((g:Int)+(sz:Int)):=(by omega);obtain⟨v0,hv0⟩:∃v0,(zeros W (2*g) j)[2*g+j]?= some v0:=⟨(zeros W (2*g) j)[2*g+j]'(by omega),List.getElem?_eq_getElem _⟩;have hA:2*g+j<W.length:=(by omega);have hA':((2*g+j:Nat):Int)<(W.length:Int):=(by omega);have c1:wr.cell? ⟨gb,2*g+j,none⟩=some (.int .u64 v0):=(hr.cell (R:=[(w1.heap.size,.cells #[.int .u8 1,.int .i64 id,.int .i64 n,.int .i64 sz] 79)]) T.has (2*g+j) (by rw[Nat.mul_one];exact hA)).trans (u64s_get hv0);have f1:wr.frozen? ⟨gb,2*g+j,none⟩=false:=T.free1 (2*g+j);have hr2:=hr.set (2*g+j) (.int .u64 (0:Nat));rw[u64s_setl]at hr2;have HT2:=uh (T.setCell (2*g+j) (.int .u64 (0:Nat)));have Hr2:=uh hr2;have hq:∃q:Nat,q=2*g+j:=⟨_,rfl⟩;obtain⟨q,hq⟩:=hq;rw[←hq]at hlt' hA hA' c1 f1 HT2 Hr2 ⊢;have Hq:=uh hq;clear hr T hr2 hv0 hq hlt2;have hqb:q <= 200000:=by omega
    go_wp2
    go_roundw
    case rel=>exact⟨j+1,_,by omega,by rw[show 2*g+(j+1)=q+1 by have:=Hq.out;omega];go_num,by have h:=Hr2.out;rw[Hq.out]at h;exact h,by have h:=HT2.out;rw[Hq.out]at h ⊢;exact h⟩
    case measure=>have:=Hq.out;simp[intOf];omega
  · obtain rfl:j=2*sz:=by omega
    have hend:¬((2*g+2*sz:Nat):Int)<2*((g:Int)+(sz:Int)):=(by omega);have hend2:¬2*(g:Int)+2*(sz:Int)<2*((g:Int)+(sz:Int)):=(by omega);have hrb:=T.range2;have hA:2*g<W.length:=(by omega);have hA':2*(g:Int)<(W.length:Int):=(by omega);have hgn:(2*(g:Int)).toNat=2*g:=(by omega);obtain⟨v0,hv0⟩:∃v0,(zeros W (2*g) (2*sz))[2*g]?= some v0:=⟨(zeros W (2*g) (2*sz))[2*g]'(by omega),List.getElem?_eq_getElem _⟩;have hr2:=hr.set (2*g) (.int .u64 wd);rw[u64s_setl]at hr2;have HrT:=uh (fun w' (hB:Below wr.heap.size wr w')=>(⟨(hr.cell (R:=[(w1.heap.size,.cells #[.int .u8 1,.int .i64 id,.int .i64 n,.int .i64 sz] 79)]) (T.call hB).has (2*g) (by rw[Nat.mul_one];exact hA)).trans (u64s_get hv0),(T.call hB).free1 (2*g),(T.call hB).setCell (2*g) (.int .u64 wd)⟩:w'.cell? ⟨gb,2*g,none⟩=some (.int .u64 v0) /\ w'.frozen? ⟨gb,2*g,none⟩=false /\ Turn [] w ((gb,.cells (cu.setIfInBounds (2*g) (.int .u64 wd)) 47)::[(w1.heap.size,.cells #[.int .u8 1,.int .i64 id,.int .i64 n,.int .i64 sz] 79)]) (w'.setCell ⟨gb,2*g,none⟩ (.int .u64 wd))));have Hr2:=uh hr2;clear hr T hr2 hv0 hzl
    go_wp2_with (first
     | (show lW 79;refine wpList_load_mid rfl 79 _ rfl w1.heap.size 0 rfl [.int .u8 1,.int .i64 id,.int .i64 n,.int .i64 sz] _ hrb underlying79 rfl hsz ?_)
     | (go_at_call 237;refine(He.out _).mono ?_;rintro e w5 ⟨rfl,hB5⟩;obtain⟨c1,f1,hT5⟩:=HrT.out _ hB5;have HT5:=uh hT5;clear hT5 hB5)
     | fail)
    refine bodyPost_ret (results_tmp2 rfl _ _ _) rfl ?_;exact⟨some ⟨gb,0,none⟩,cap',_,rfl,Hr2.out,HT5.out.sub (List.Sublist.cons_cons _ (List.nil_sublist _))⟩
abbrev ceCells (c:Ce):List Value:=[.int .i64 c.1,.int .u8 c.2.tag,.int .i64 c.2.typ,.int .i64 c.2.len,.int .i64 c.2.size]
def ces (cs:List Ce):List Value:=cs.flatMap ceCells
theorem ces_length (cs:List Ce):(ces cs).length=cs.length*5:=by
 induction cs with
 | nil=>rfl
 | cons a l ih=>
  show(ceCells a++ces l).length=_
  rw[List.length_append,ih,List.length_cons];simp;omega
theorem ces_append (a b:List Ce):ces (a++b)=ces a++ces b:=by simp[ces]
theorem el_cell:Elem prog 75 81 5 40 (.agg #[.int .i64 0,.int .u8 0,.int .i64 0,.int .i64 0,.int .i64 0]):=Elem.of underlying75 (by kernel_rfl) rfl
theorem stands_head {L:List Ty}{W:List Nat}{g:Nat}{h:Hd}(hs:stands L W g h):headAt W g=some h /\ headErr W g=0 /\ fitErr L h=0 /\ g<W.length/2:=by
 have hp:=hs.pos;obtain⟨⟨v,h1,h2⟩,h3,h4⟩:=hs;have hlt:g<W.length/2:=by omega
 obtain⟨e1,e2⟩:=headAt_in hlt h1;rw[e1,e2,h2];exact⟨rfl,rfl,(fit_iff L h).2 h3,hlt⟩
theorem cells9 (w:World){W:List Nat}(ao:Option Addr)(cap:Nat)(hS:Src w ao W.length cap 1 (u64s W))(hf:W.length <= 65536)(hu:∀v∈W,v<18446744073709551616)(L:List Ty)(hTy:∀t∈L,TyIn t)(hL:L.length <= 1000)(ao2:Option Addr)(cap2:Nat)(hS2:Src w ao2 L.length cap2 3 (tys L))
  (cs:List Ce)(hC:Chain L W 0 cs (W.length/2)):
  Calls prog 167 #[.slice ao W.length cap,.slice ao2 L.length cap2] w fun e w'=>∃ao' cap' l,e=.returned (.tuple #[.slice ao' cs.length cap',.bool true]) /\ Row 81 5 ao' cs.length cap' (ces cs) l /\ Turn [] w l w':=by
 have hsz:=sz_head;have Hhd:=uh (fun w' (hB:Below w.heap.size w w') (g:Int)=>head8 w' ao cap (hS.below hB) hf hu g);have HFit:=uh (fun w' (hB:Below w.heap.size w w') h hi=>fits7 w' L hTy hL ao2 cap2 (hS2.below hB) h hi);have hdiv:((W.length:Int)).tdiv 2=((W.length/2:Nat):Int):=tdiv_nat _ 2;have hdiv2:(W.length:Int)/2=((W.length/2:Nat):Int):=by omega
 have hlen:=hC.len;have hn:=uh (Has.nil w);have HC:=uh hC;obtain⟨z,hz⟩:∃z:Nat,W.length/2=z:=⟨_,rfl⟩;rw[hz]at hdiv hdiv2 hlen HC;have hzb:z <= 32768:=by omega
 clear hS hS2 hu hTy hC
 go_enter func167,ntmps167
 go_wp2_with fail
 go_loopw [6,7] (fun v6 v7 wr=>∃(pre post:List Ce) (g:Nat) (a6:Option Addr) (p6:Nat) (lr:List Blk),cs=pre++post /\ v7=.int .i64 g /\ v6=.slice a6 pre.length p6 /\ Chain L W g post z /\ Row 81 5 a6 pre.length p6 (ces pre) lr /\ Turn [] w lr wr) (fun _ v7 _=>z+1-(intOf v7).toNat)
 case atStart=>exact⟨[],cs,0,none,0,[],rfl,rfl,rfl,HC.out,Row.nil _ _,Turn.refl hn.out⟩
 case round=>
  clear HC hn;obtain⟨pre,post,g,a6,p6,lr,hcs,rfl,rfl,hch,hr6,T⟩:=hrel
  cases post with
  | nil=>
   obtain rfl:g=z:=hch;rw[List.append_nil]at hcs;subst hcs;have HT:=uh T;have Hr:=uh hr6;clear T hr6 hlen
   go_wp2
   refine bodyPost_ret (results_tmp2 rfl _ _ _) rfl ?_;exact⟨a6,p6,lr,rfl,Hr.out,HT.out⟩
  | cons c post=>
   obtain⟨cg,h⟩:=c;obtain⟨hcg,hst,hnext⟩:=hch;simp only at hcg hst hnext;subst hcg;have hpos:=hst.pos;have hroom:cg+h.size <= z:=hnext.le;obtain⟨e1,e2,e3,e4⟩:=stands_head hst;have hmay:=hst.2.1.1;have Hh2:=uh (Hhd.out wr T.below cg);rw[e1,e2]at Hh2;have HF2:=uh (fun w' (hB:Below w.heap.size w w')=>HFit.out w' hB h (may_in hmay));rw[e3]at HF2;have hpl:pre.length <= z:=(by rw[hcs,List.length_append,List.length_cons]at hlen;omega);have h63:pre.length+1 <= maxLen:=(by unfold maxLen;omega);have hby:(pre.length+1)*40 <= 140737488355328:=(by omega);have HT:=uh T;have Hr:=uh hr6;have Hnext:=uh hnext;have Hcs:=uh hcs;clear T hr6 hnext hcs hst e1 e2 e3 hlen;obtain⟨xa,xb,xc,xd⟩:=h;simp only at hpos hroom;have hoX:=hd_one ⟨xa,xb,xc,xd⟩;simp only at hoX;have k1:IntKind.i64.wrap ((z:Int)-(cg:Int))=(z:Int)-(cg:Int):=i64_in _ (by omega);have k2:decide (((z:Int)-(cg:Int))<(xd:Int))=false:=decide_eq_false (by omega);have k3:¬((z:Int)-(cg:Int))<(xd:Int):=(by omega);have k4:(cg:Int)<(z:Int):=(by omega);clear hmay e4
   go_wp2_with fail
   refine Hh2.out.mono ?_;rintro e w1 ⟨rfl,hB1⟩;simp only[Option.getD_some];have T2:=(HT.out.call hB1).alloc zH;have hth:(w1.alloc zH).there w1.heap.size 0 4:=T2.there1;have HT2:=uh (T2.laid [.int .u8 xa,.int .i64 xb,.int .i64 xc,.int .i64 xd] rfl);have hr8:=HT2.out.range1;clear T2 hB1 HT Hh2
   go_wp2_with (first
    | (show sW 79;refine wpList_store_mid rfl 79 _ _ rfl _ 0 #[.int .u8 xa,.int .i64 xb,.int .i64 xc,.int .i64 xd] rfl rfl hth hsz hoX ?_;clear hth)
    | (show lW 79;refine wpList_load_g 79 _ rfl (by rfl) w1.heap.size 0 rfl [.int .u8 xa,.int .i64 xb,.int .i64 xc,.int .i64 xd] _ hr8 underlying79 rfl hsz ?_;clear hr8)
    | fail)
   refine(HF2.out _ HT2.out.below).mono ?_;rintro e w2 ⟨rfl,hB2⟩;have HT3:=uh (HT2.out.call hB2);have c3:=HT3.out.cell1 3;have hr8:=HT3.out.range1;clear HT2 hB2 HF2
   go_upto_region 7 with fail
   have hcv:∀u∈([.int .i64 cg,.int .u8 xa,.int .i64 xb,.int .i64 xc,.int .i64 xd]:List Value),u.oneCell'=true:=by simp[Value.oneCell']
   go_wp2_with (first
    | (show lW 79;refine wpList_load_mid rfl 79 _ rfl w1.heap.size 0 rfl [.int .u8 xa,.int .i64 xb,.int .i64 xc,.int .i64 xd] _ hr8 underlying79 rfl hsz ?_;clear hr8)
    | (at_builtin;refine wpList_append_row rfl _ _ rfl el_cell rfl Hr.out (R:=[(w2.heap.size,.cells #[.int .i64 cg,.int .u8 xa,.int .i64 xb,.int .i64 xc,.int .i64 xd] 81),(w1.heap.size,.cells #[.int .u8 xa,.int .i64 xb,.int .i64 xc,.int .i64 xd] 79)]) ((HT3.out.alloc (.cells #[.int .i64 cg,.int .u8 xa,.int .i64 xb,.int .i64 xc,.int .i64 xd] 81)).perm po).has rfl (news:=[.int .i64 cg,.int .u8 xa,.int .i64 xb,.int .i64 xc,.int .i64 xd]) rfl (news_of (heap_alloc_new _ _)) hcv h63 hby ?_;intro a9 p9 l9 w4 hr9 V4 hno;have V5:=uh (((HT3.out.alloc (.cells #[.int .i64 cg,.int .u8 xa,.int .i64 xb,.int .i64 xc,.int .i64 xd] 81)).perm (l2:=lr++[(w2.heap.size,.cells #[.int .i64 cg,.int .u8 xa,.int .i64 xb,.int .i64 xc,.int .i64 xd] 81),(w1.heap.size,.cells #[.int .u8 xa,.int .i64 xb,.int .i64 xc,.int .i64 xd] 79)]) po).trans V4);have Hr9:=uh hr9;have d3:=V5.out.has.cell (b:=w1.heap.size) (c:=#[.int .u8 xa,.int .i64 xb,.int .i64 xc,.int .i64 xd]) (e:=79) (f:=(0,0)) (by simp) 3;clear hr9 V4 hno c3 HT3)
    | fail)
   go_roundw
   case rel=>exact⟨pre++[(cg,⟨xa,xb,xc,xd⟩)],post,cg+xd,a9,p9,l9,by rw[Hcs.out,List.append_assoc];rfl,by go_num,by rw[List.length_append];rfl,Hnext.out,by rw[List.length_append,ces_append];exact Hr9.out,V5.out.sub (List.sublist_append_left l9 _)⟩
   case measure=>simp[intOf];omega
structure RefAt (w:World)(rb:Nat)(ao:Option Addr)(cap:Nat)(W:List Nat)(ao2:Option Addr)(cap2:Nat)(L:List Ty):Prop where
 c0:w.cell? ⟨rb,0,none⟩=some (.slice ao W.length cap)
 c1:w.cell? ⟨rb,1,none⟩=some (.slice ao2 L.length cap2)
 ws:Src w ao W.length cap 1 (u64s W)
 ts:Src w ao2 L.length cap2 3 (tys L)
theorem RefAt.below {w w':World}{rb:Nat}{ao:Option Addr}{cap:Nat}{W:List Nat}{ao2:Option Addr}{cap2:Nat}{L:List Ty}(h:RefAt w rb ao cap W ao2 cap2 L)(hk:Below w.heap.size w w'):RefAt w' rb ao cap W ao2 cap2 L:=
 ⟨(hk.cell (p:=⟨rb,0,none⟩) (World.block_lt_of_cell? w _ h.c0)).trans h.c0,(hk.cell (p:=⟨rb,1,none⟩) (World.block_lt_of_cell? w _ h.c1)).trans h.c1,h.ws.below hk,h.ts.below hk⟩
theorem RefIs.at_ {w:World}{rb:Nat}{ao2:Option Addr}{cap2:Nat}{L:List Ty}{W:List Nat}{l R:List Blk}(h:RefIs rb ao2 L.length cap2 W l)(hH:Has w (l++R))(ht:Src w ao2 L.length cap2 3 (tys L)):∃ao cap,RefAt w rb ao cap W ao2 cap2 L:=by
 obtain⟨ao,cap,lr,hrow,rfl⟩:=h;have hH':=hH.perm (l':=lr++((rb,.cells #[.slice ao W.length cap,.slice ao2 L.length cap2] 109)::R)) po;exact⟨ao,cap,hH.cell (b:=rb) (c:=#[.slice ao W.length cap,.slice ao2 L.length cap2]) (e:=109) (f:=(0,0)) (by simp) 0,hH.cell (b:=rb) (c:=#[.slice ao W.length cap,.slice ao2 L.length cap2]) (e:=109) (f:=(0,0)) (by simp) 1,hrow.src hH',ht⟩
theorem all9 (w:World){rb:Nat}{ao:Option Addr}{cap:Nat}{W:List Nat}{ao2:Option Addr}{cap2:Nat}{L:List Ty}(hR:RefAt w rb ao cap W ao2 cap2 L)(hf:W.length <= 65536)(hu:∀v∈W,v<18446744073709551616)(hTy:∀t∈L,TyIn t)(hL:L.length <= 1000)
  (cs:List Ce)(hC:Chain L W 0 cs (W.length/2)):
  Calls prog 90 #[pt rb] w fun e w'=>∃ao' cap' l,e=.returned (.slice ao' cs.length cap') /\ Row 81 5 ao' cs.length cap' (ces cs) l /\ Turn [] w l w':=by
 have Hc:=uh (fun w' (hB:Below w.heap.size w w')=>cells9 w' ao cap (hR.below hB).ws hf hu L hTy hL ao2 cap2 (hR.below hB).ts cs hC);have hn:=Has.nil w;have HR:=uh (fun w' (hB:Below w.heap.size w w')=>(⟨(hR.below hB).c0,(hR.below hB).c1⟩:w'.cell? ⟨rb,0,none⟩=some (.slice ao W.length cap) /\ w'.cell? ⟨rb,1,none⟩=some (.slice ao2 L.length cap2)));have HT:=uh (Turn.refl hn);clear hR hu hTy hC hn
 go_enter func90,ntmps90
 go_wp2_with fail
 refine wp_abs (fun W'=>Turn [] w [] W'.drew) HT.out.drew fun W1 T1=>?_;have hS:=HR.out _ T1.below;have HT1:=uh T1;clear T1 HT;refine wp_region_noPanic ?_;refine wp_region_listed (S:=fun W'=>W'.cell? ⟨rb,0,none⟩=some (.slice ao W.length cap) /\ W'.cell? ⟨rb,1,none⟩=some (.slice ao2 L.length cap2)) 14 [false,false,false,false,false,false,false,false,false,false,false,false,false,false] rfl rfl (by kernel_rfl) ?_;refine tkA 0 6 hS ?_;refine tkA 1 7 hS ?_;refine tkA 2 8 hS ?_;refine tkB 3 9 hS (fun w hSw=>hSw.1) ?_;refine tkA 4 10 hS ?_;refine tkA 5 11 hS ?_;refine tkA 6 12 hS ?_;refine tkB 7 13 hS (fun w hSw=>hSw.2) ?_;refine rdyA 8 (fun K hK=>?_)
 go_simp
 refine(Hc.out _ HT1.out.below).mono ?_;rintro e W3 ⟨ao',cap',l',rfl,hrow,T3⟩;have HT3:=uh ((HT1.out.trans T3):Turn [] w l' W3);have hS3:=HR.out _ HT3.out.below;have Hrow:=uh hrow;refine hK.out _ _ hS3 fun _=>?_;clear hK K hS T3 hrow HT1;simp only[st0,st1,st2];refine tkA 9 5 hS3 ?_;refine tkA 10 15 hS3 ?_;refine tkA 11 16 hS3 ?_;refine tkA 12 3 hS3 ?_;refine tkA 13 4 hS3 ?_;refine wpAnyH_done (by kernel_rfl) ?_ _;refine NoPanic.normal ?_;clear hS3
 go_wp2
 go_ret;exact⟨ao',cap',l',rfl,Hrow.out,HT3.out⟩
theorem run_make_rows {P:Program}(t e:TypeId)(i:TypeInfo)(z:Value)(ht:P.underlying t=some (.slice e))(hi:P.info? e=some i)(hz:i.zero=some z)
  (kl kc:IntKind)(n:Nat)(hbytes:i.bytes*n <= 281474976710656)(h63:n <= 9223372036854775807)(w:World):
  (Instr.makeSlice t (.int kl (n:Int)) (.int kc (n:Int))).run P w=.ok (.slice (some ⟨w.heap.size,0,none⟩) n n) (w.alloc (.cells (madeCells z.cells (n*i.size)) e)):=by
 have hb:(i.bytes:Int)*(n:Int) <= 281474976710656:=by
  have h:((i.bytes*n:Nat):Int) <= 281474976710656:=by omega
  rwa [Int.natCast_mul]at h
 have hr:=run_make (P:=P) w t e i z ht hi hz kl kc n n (by omega) (by omega) hb (by omega);simp only[Int.toNat_natCast]at hr;exact hr
def mayWords (n:Int):Prop:=16 <= n /\ n <= 65536 /\ n%2=0
instance (n:Int):Decidable (mayWords n):=by unfold mayWords;infer_instance
theorem anew_no (w:World)(n:Int)(h:¬mayWords n):Calls prog 125 #[.int .i64 n] w fun e w'=>e=.returned (.tuple #[.pointer none,.int .i64 2]) /\ w'=w:=by
 by_cases h1:n<16
 · have k1:decide (n<16)=true:=decide_eq_true h1
   clear h
   go_enter func125,ntmps125
   go_wp2
   go_ret2;exact⟨rfl,rfl⟩
 have k1:decide (n<16)=false:=decide_eq_false h1
 by_cases h2:65536<n
 · have k2:decide (65536<n)=true:=decide_eq_true h2
   clear h
   go_enter func125,ntmps125
   go_wp2
   go_ret2;exact⟨rfl,rfl⟩
 have k2:decide (65536<n)=false:=decide_eq_false h2;have h3:¬n%2=0:=fun h3=>h ⟨by omega,by omega,h3⟩;have k3:n.tmod 2=1:=by rw[Int.tmod_eq_emod_of_nonneg (by omega)];omega
 have k4:n%2=1:=by omega
 clear h h3
 go_enter func125,ntmps125
 go_wp2
 go_ret2;exact⟨rfl,rfl⟩
theorem made_words (n:Nat):madeCells (Value.int .u64 0).cells (n*1)=(u64s (List.replicate n 0)).toArray:=by
 apply Array.ext_getElem?
 intro m;rw[Nat.mul_one]
 by_cases hm:m<n
 · have h1:((u64s (List.replicate n 0)).toArray)[m]?= some (.int .u64 0):=by rw[List.getElem?_toArray];exact u64s_get (by rw[List.getElem?_replicate,if_pos hm])
   rw[h1];simp[madeCells,hm];have hc:(Value.int .u64 0).cells=#[.int .u64 0]:=rfl;rw[hc,show m%(#[Value.int .u64 0]:Array Value).size=0 from Nat.mod_one m]
   rfl
 ·rw[Array.getElem?_eq_none (by simp[madeCells];omega),Array.getElem?_eq_none (by simp[u64s];omega)]
theorem anew (w:World)(n:Nat)(h:mayWords n):Calls prog 125 #[.int .i64 n] w fun e w'=>∃a aw,e=.returned (.tuple #[pt a,.int .i64 0]) /\ Turn [] w (arBlks a aw (List.replicate n 0) 0) w':=by
 obtain⟨h1,h2,h3⟩:=h;obtain⟨i,hi,hz,hsz,hby⟩:=el_u64.info;have hmk:=fun W:World=>run_make_rows (P:=prog) 61 47 i _ el_u64.ht hi hz .i64 .i64 n (by rw[hby];omega) (by omega) W;rw[hsz,made_words n]at hmk;have T:=(((Turn.refl (Has.nil w)).alloc (.cells (u64s (List.replicate n 0)).toArray 47)).alloc (.cells #[.slice (some ⟨w.heap.size,0,none⟩) n n,.int .u64 0] 219)).swap;rw[World.size_alloc]at T;have HT:=uh T;generalize hcur:(u64s (List.replicate n 0)).toArray=cur at*;have Hcur:=uh hcur;clear hcur;have k1:decide ((n:Int)<16)=false:=decide_eq_false (by omega);have k2:decide ((65536:Int)<(n:Int))=false:=decide_eq_false (by omega);have k3:((n:Int)).tmod 2=0:=by rw[Int.tmod_eq_emod_of_nonneg (by omega)];omega
 have k4:(n:Int)%2=0:=h3;have k5:¬(n:Int)<16:=by omega
 have k6:¬(65536:Int)<(n:Int):=by omega
 have k7:((n:Int)).toNat=n:=Int.toNat_natCast n;clear hi hz hsz hby T h1 h2 h3
 go_enter func125,ntmps125
 go_wp2
 go_ret2;refine⟨w.heap.size+1,rfl,w.heap.size,?_⟩;unfold arBlks;rw[List.length_replicate];rw[Hcur.out];exact HT.out
theorem Row.fresh (e:TypeId)(size g n:Nat)(xs:List Value)(hx:xs.length=n*size)(hn:n <= maxLen):Row e size (some ⟨g,0,none⟩) n n xs [(g,.cells xs.toArray e)]:=
 ⟨hx,Nat.le_refl _,hn,.inr ⟨g,xs.toArray,rfl,rfl,by simp[hx],by rw[←hx];simp⟩⟩
theorem rnew (w:World)(n:Nat)(h:mayWords n)(lao:Option Addr)(ln lcap:Nat):
  Calls prog 134 #[.int .i64 n,.slice lao ln lcap] w fun e w'=>∃rb l,e=.returned (pt rb) /\ RefIs rb lao ln lcap (lay (List.replicate n 0) 0 (n/2)) l /\ Turn [] w l w':=by
 obtain⟨h1,h2,h3⟩:=h;obtain⟨i,hi,hz,hsz,hby⟩:=el_u64.info;have hmk:=fun W:World=>run_make_rows (P:=prog) 61 47 i _ el_u64.ht hi hz .i64 .i64 n (by rw[hby];omega) (by omega) W;rw[hsz,made_words n]at hmk;have T:=(((Turn.refl (Has.nil w)).alloc (.cells (u64s (List.replicate n 0)).toArray 47)).alloc (.cells #[.slice (some ⟨w.heap.size,0,none⟩) n n,.slice lao ln lcap] 109));rw[World.size_alloc]at T
 have hI:RefIs (w.heap.size+1) lao ln lcap (List.replicate n 0) [(w.heap.size+1,.cells #[.slice (some ⟨w.heap.size,0,none⟩) n n,.slice lao ln lcap] 109),(w.heap.size,.cells (u64s (List.replicate n 0)).toArray 47)]:=
  ⟨some ⟨w.heap.size,0,none⟩,n,[(w.heap.size,.cells (u64s (List.replicate n 0)).toArray 47)],by rw[List.length_replicate];exact Row.fresh _ _ _ _ _ (by simp[u64s]) (by unfold maxLen;omega),by first|rw[List.length_replicate]|simp[List.length_replicate]⟩
 have HL:=uh (lay9 _ (R:=[]) hI (by rw[List.append_nil];exact T) (by rw[List.length_replicate];omega) 0 (n/2) (by rw[List.length_replicate];omega));generalize hcur:(u64s (List.replicate n 0)).toArray=cur at*;clear hcur T hI;have k4:((n:Int)).tdiv 2=((n/2:Nat):Int):=tdiv_nat _ 2;have k5:(n:Int)/2=((n/2:Nat):Int):=by omega
 have k7:((n:Int)).toNat=n:=Int.toNat_natCast n;obtain⟨z,hzz⟩:∃z:Nat,n/2=z:=⟨_,rfl⟩;rw[hzz]at k4 k5 HL ⊢;clear hi hz hsz hby h1 h3 hzz
 go_enter func134,ntmps134
 go_wp2_with fail
 refine HL.out.mono ?_;rintro e w2 ⟨⟨u,rfl⟩,l2,hI2,hT2⟩;have HI2:=uh hI2;have HT2:=uh hT2;clear hI2 hT2
 go_wp2_with fail
 go_ret;refine⟨_,l2,rfl,HI2.out,?_⟩;have h:=HT2.out
 rwa [List.append_nil]at h
theorem sgran (w:World){sb a aw:Nat}{W:List Nat}(c0:w.cell? ⟨sb,0,none⟩=some (pt a))(hA:ArAt w a aw W)(hf:W.length <= 65536):
  Calls prog 13 #[pt sb] w fun e w'=>e=.returned (.int .i64 (W.length/2:Nat)) /\ w'=w:=by
 have Hl:=uh (alen w hA);have hdiv:((W.length:Int)).tdiv 2=((W.length/2:Nat):Int):=tdiv_nat _ 2;have hdiv2:(W.length:Int)/2=((W.length/2:Nat):Int):=by omega
 have hb:W.length/2 <= 32768:=by omega
 generalize W.length/2=z at*;generalize W.length=y at*;clear hA
 go_enter func13,ntmps13
 go_wp2_with fail
 refine Hl.out.mono ?_;rintro e w1 ⟨rfl,rfl⟩;clear Hl
 go_wp2_with fail
 go_ret;exact⟨rfl,rfl⟩
theorem sarena (w:World){sb:Nat}{v:Value}{a:Addr}(hv:v=.pointer (some a))(c0:w.cell? ⟨sb,0,none⟩=some v):
  Calls prog 44 #[pt sb] w fun e w'=>e=.returned v /\ w'=w:=by
 subst hv
 go_enter func44,ntmps44
 go_wp2_with fail
 go_ret;exact⟨rfl,rfl⟩
theorem stable (w:World){sb:Nat}{v:Value}{a:Addr}(hv:v=.pointer (some a))(c1:w.cell? ⟨sb,1,none⟩=some v):
  Calls prog 101 #[pt sb] w fun e w'=>e=.returned v /\ w'=w:=by
 subst hv
 go_enter func101,ntmps101
 go_wp2_with fail
 go_ret;exact⟨rfl,rfl⟩
theorem ces_get {cs:List Ce}{i:Nat}{c:Ce}(hi:cs[i]?= some c){j:Nat}(hj:j<5):(ces cs)[i*5+j]?= (ceCells c)[j]? :=by
 induction cs generalizing i with
 | nil=>cases hi
 | cons a l ih=>
  show(ceCells a++ces l)[i*5+j]?= _
  cases i with
  | zero=>
   have:a=c:=(by simpa using hi);subst this;rw[Nat.zero_mul,Nat.zero_add,List.getElem?_append_left (by exact hj)]
  | succ i=>
   rw[show(i+1)*5+j=5+(i*5+j)by omega,List.getElem?_append_right (by show 5 <= _;omega)];rw[show 5+(i*5+j)-(ceCells a).length=i*5+j from Nat.add_sub_cancel_left ..];exact ih (by simpa using hi)
theorem Src.ce {w:World}{b off n cap:Nat}{cs:List Ce}(h:Src w (some ⟨b,off,none⟩) n cap 5 (ces cs)){i:Nat}{c:Ce}(hi:cs[i]?= some c):w.rangeAt b (off+i*5) (ceCells c):=by
 intro j v hv;have hj:j<5:=(List.getElem?_eq_some_iff.1 hv).1;have h1:=h.at_ _ rfl (i*5+j) v (by rw[ces_get hi hj];exact hv);rw[add_lit]at h1;rw[Nat.add_assoc];exact h1
theorem sz_cell:(prog.info? 81).map (·.size)=some 5:=by kernel_rfl
theorem ce_one (c:Ce):(#[.int .i64 c.1,.int .u8 c.2.tag,.int .i64 c.2.typ,.int .i64 c.2.len,.int .i64 c.2.size]:Array Value).all (·.oneCell')=true:=all_one (cs:=ceCells c) (by simp[Value.oneCell'])
theorem Turn.grow {l0 X A:List Blk}{w0 w w':World}(T:Turn l0 w0 X w)(T':Turn [] w A w'):Turn l0 w0 (A++X) w':=T.trans (by have h:=T'.more (R:=X) (by simpa using T.has);simpa using h)
theorem put9_err {w0:World}(w:World){rb lcap:Nat}{lao:Option Addr}{W:List Nat}{L:List Ty}{l R:List Blk}(hI:RefIs rb lao L.length lcap W l)(T:Turn [] w0 (l++R) w)(hS:Src w0 lao L.length lcap 3 (tys L))(hTy:∀t∈L,TyIn t)(hL:L.length <= 1000)(hf:W.length <= 65536)
  (g id n:Int)(hno:tyErr L id n≠0∨g<0∨((W.length/2:Nat):Int) <= g):
  Calls prog 135 #[pt rb,.int .i64 g,.int .i64 id,.int .i64 n] w fun e w'=>e=.returned (.int .i64 (if tyErr L id n≠0 then tyErr L id n else 2)) /\ Turn [] w0 (l++R) w':=by
 have hsz:=sz_head;have Hof:=uh (fun w' (hB:Below w0.heap.size w0 w')=>of7 w' L hTy hL lao lcap (hS.below hB) id n);obtain⟨ao,cap,lr,hrow,rfl⟩:=hI;have c1:w.cell? ⟨rb,1,none⟩=some (.slice lao L.length lcap):=T.cell1 1
 obtain⟨x0,x1,x2,x3,hx,hox⟩:∃x0 x1 x2 x3:Value,ofCells L id n=[x0,x1,x2,x3] /\ (#[x0,x1,x2,x3]:Array Value).all (·.oneCell')=true:=by
  unfold ofCells
  split
  ·exact⟨_,_,_,_,rfl,all_one (cs:=[.int .u8 1,.int .i64 id,.int .i64 n,.int .i64 (tySize L id n:Nat)]) (by simp[Value.oneCell'])⟩
  ·exact⟨_,_,_,_,rfl,hd0_one⟩
 rw[hx]at Hof;have HT:=uh T;have hdiv:((W.length:Int)).tdiv 2=((W.length/2:Nat):Int):=tdiv_nat _ 2;have hdiv2:(W.length:Int)/2=((W.length/2:Nat):Int):=by omega
 obtain⟨z,hz⟩:∃z:Nat,W.length/2=z:=⟨_,rfl⟩;rw[hz]at hdiv hdiv2 hno;generalize tyErr L id n=er at*;clear T hS hTy hrow hx
 by_cases he:er=0
 · subst he
   rw[if_neg (by simp)];have hno':g<0∨(z:Int) <= g:=hno.resolve_left (by simp);clear hno;rcases hno' with hg|hg
   · have k1:decide (g<0)=true:=decide_eq_true hg
     go_enter func135,ntmps135
     go_wp2_with fail
     refine(Hof.out _ HT.out.below).mono ?_;rintro e w1 ⟨rfl,hB1⟩;have T2:=(HT.out.call hB1).alloc zH;have hth:(w1.alloc zH).there w1.heap.size 0 4:=T2.there1;have HT2:=uh ((T2.laid [x0,x1,x2,x3] rfl).tail);clear T2 hB1
     go_wp2_with (first
      | (show sW 79;refine wpList_store_mid rfl 79 _ _ rfl _ 0 #[x0,x1,x2,x3] rfl rfl hth hsz hox ?_;clear hth)
      | fail)
     go_ret;exact⟨rfl,HT2.out⟩
   · have k1:decide (g<0)=false:=decide_eq_false (by omega)
     have k2:decide ((z:Int) <= g)=true:=decide_eq_true hg;have k3:¬g<0:=by omega
     go_enter func135,ntmps135
     go_wp2_with fail
     refine(Hof.out _ HT.out.below).mono ?_;rintro e w1 ⟨rfl,hB1⟩;have T2:=(HT.out.call hB1).alloc zH;have hth:(w1.alloc zH).there w1.heap.size 0 4:=T2.there1;have T3:=T2.laid [x0,x1,x2,x3] rfl;have c0:=T3.cell2 0;have HT2:=uh T3.tail;clear T2 T3 hB1
     go_wp2_with (first
      | (show sW 79;refine wpList_store_mid rfl 79 _ _ rfl _ 0 #[x0,x1,x2,x3] rfl rfl hth hsz hox ?_;clear hth)
      | fail)
     go_ret;exact⟨rfl,HT2.out⟩
 · rw[if_pos he]
   clear hno;have ke:(er != 0)=true:=by rw[bne_iff_ne];exact he
   go_enter func135,ntmps135
   go_wp2_with fail
   refine(Hof.out _ HT.out.below).mono ?_;rintro e w1 ⟨rfl,hB1⟩;have T2:=(HT.out.call hB1).alloc zH;have hth:(w1.alloc zH).there w1.heap.size 0 4:=T2.there1;have HT2:=uh ((T2.laid [x0,x1,x2,x3] rfl).tail);clear T2 hB1
   go_wp2_with (first
    | (show sW 79;refine wpList_store_mid rfl 79 _ _ rfl _ 0 #[x0,x1,x2,x3] rfl rfl hth hsz hox ?_;clear hth)
    | fail)
   go_ret;exact⟨rfl,HT2.out⟩
end
section
def dropFrm:Nat -> List Ce -> Nat
 | f,[]=>f
 | f,c::cs=>dropFrm (if c.2.tag=1 then c.1+c.2.size else f) cs
def dropTill:Nat -> List Ce -> Nat
 | t,[]=>t
 | t,c::cs=>if c.2.tag=1 then t else dropTill (c.1+c.2.size) cs
theorem dropFrm_append:∀(a b:List Ce) (f:Nat),dropFrm f (a++b)=dropFrm (dropFrm f a) b
 | [],_,_=>rfl
 | _::a,b,_=>dropFrm_append a b _
theorem dropFrm_gaps:∀(a:List Ce) (f:Nat),(∀c∈a,c.2.tag≠1) -> dropFrm f a=f
 | [],_,_=>rfl
 | c::a,f,h=>by
  rw[dropFrm,if_neg (h c (List.mem_cons_self ..)),dropFrm_gaps a f fun d hd=>h d (List.mem_cons_of_mem _ hd)]
theorem dropTill_gaps:∀(a b:List Ce) (t:Nat),(∀c∈a,c.2.tag≠1) -> ∀{L:List Ty} {W:List Nat} {m:Nat},Chain L W t a m -> dropTill t (a++b)=dropTill m b
 | [],b,t,_,_,_,m,h=>by cases h;rfl
 | c::a,b,t,h,L,W,m,hC=>by
  obtain⟨h1,h2,h3⟩:=hC;rw[List.cons_append,dropTill,if_neg (h c (List.mem_cons_self ..)),h1];exact dropTill_gaps a b _ (fun d hd=>h d (List.mem_cons_of_mem _ hd)) h3
theorem dropTill_obj {t:Nat}{b:List Ce}(h:b=[]∨∃d b1,b=d::b1 /\ d.2.tag=1):dropTill t b=t:=by
 rcases h with rfl|⟨d,b1,rfl,hd⟩
 ·rfl
 ·rw[dropTill,if_pos hd]
theorem dropFrm_chain {L:List Ty}{W:List Nat}{a:List Ce}{m:Nat}(hC:Chain L W 0 a m)(h:a=[]∨∃a1 d,a=a1++[d] /\ d.2.tag=1):dropFrm 0 a=m:=by
 rcases h with rfl|⟨a1,d,rfl,hd⟩
 ·exact hC
 · obtain⟨-,-,h3⟩:=hC.split
   rw[dropFrm_append,dropFrm,if_pos hd];exact h3
def dropW (W:List Nat)(pre:List Ce)(c:Ce)(post:List Ce):List Nat:=lay W (dropFrm 0 pre) (dropTill (c.1+c.2.size) post-dropFrm 0 pre)
theorem drop_parts {L:List Ty}{W:List Nat}{pre post:List Ce}{c:Ce}{e:Nat}(hC:Chain L W 0 (pre++c::post) e):
  ∃a ga gb b,pre=a++ga /\ post=gb++b /\ (∀x∈ga,x.2.tag≠1) /\ (∀x∈gb,x.2.tag≠1) /\ (a=[]∨∃a1 d,a=a1++[d] /\ d.2.tag=1) /\ (b=[]∨∃d b1,b=d::b1 /\ d.2.tag=1) /\
   Chain L W 0 a (dropFrm 0 pre) /\ Chain L W (dropFrm 0 pre) (ga++c::gb) (dropTill (c.1+c.2.size) post) /\ Chain L W (dropTill (c.1+c.2.size) post) b e:=by
 obtain⟨h1,h2,h3⟩:=hC.split;obtain⟨a,ga,ha1,ha2,ha3⟩:=lastObj pre;obtain⟨gb,b,hb1,hb2,hb3⟩:=firstObj post;subst ha1;subst hb1;obtain⟨m,h4,h5⟩:=Chain.append.1 h1;obtain⟨q,h6,h7⟩:=Chain.append.1 h3;have e1:dropFrm 0 (a++ga)=m:=by rw[dropFrm_append,dropFrm_gaps ga _ ha2];exact dropFrm_chain h4 ha3
 have e2:dropTill (c.1+c.2.size) (gb++b)=q:=by rw[dropTill_gaps gb b _ hb2 h6];exact dropTill_obj hb3
 rw[e1,e2];exact⟨a,ga,gb,b,rfl,rfl,ha2,hb2,ha3,hb3,h4,Chain.join h5 h2 h6,h7⟩
def noTouch:List Ce -> Prop
 | []=>True
 | [_]=>True
 | c::d::cs=>(c.2.tag=1∨d.2.tag=1) /\ noTouch (d::cs)
theorem noTouch.tail {c:Ce}{cs:List Ce}(h:noTouch (c::cs)):noTouch cs:=by
 cases cs with
 | nil=>trivial
 | cons d cs=>exact h.2
theorem noTouch.cons {c:Ce}{cs:List Ce}(h:noTouch cs)(hc:c.2.tag=1∨cs=[]∨∃d b,cs=d::b /\ d.2.tag=1):noTouch (c::cs):=by
 cases cs with
 | nil=>trivial
 | cons d cs=>
  refine⟨?_,h⟩;rcases hc with hc|hc|⟨d',b,hd,hd'⟩
  ·exact .inl hc
  ·cases hc
  ·cases hd;exact .inr hd'
theorem noTouch.append:∀{a b:List Ce},noTouch a -> noTouch b -> ((a=[]∨∃a1 d,a=a1++[d] /\ d.2.tag=1)∨(b=[]∨∃d b1,b=d::b1 /\ d.2.tag=1)) -> noTouch (a++b)
 | [],_,_,hb,_=>hb
 | [c],b,_,hb,h=>by
  refine noTouch.cons hb ?_;rcases h with(h|⟨a1,d,h,hd⟩)|h
  ·cases h
  · have:a1=[] /\ c=d:=by
      cases a1 with
      | nil=>simpa using h
      | cons x a1=>have:=congrArg List.length h;simp at this
    obtain⟨-,rfl⟩:=this;exact .inl hd
  ·exact .inr h
 | c::d::a,b,ha,hb,h=>by
  refine⟨ha.1,?_⟩;refine noTouch.append (a:=d::a) ha.2 hb ?_;rcases h with(h|⟨a1,x,h,hx⟩)|h
  ·cases h
  · refine .inl (.inr ?_)
    cases a1 with
    | nil=>have:=congrArg List.length h;simp at this
    | cons y a1=>
     rw[List.cons_append]at h;exact⟨a1,x,(List.cons.inj h).2,hx⟩
  ·exact .inr h
theorem noTouch.left:∀{a b:List Ce},noTouch (a++b) -> noTouch a
 | [],_,_=>trivial
 | [_],_,_=>trivial
 | _::d::a,b,h=>⟨h.1,noTouch.left (a:=d::a) (b:=b) h.2⟩
theorem noTouch.right:∀{a b:List Ce},noTouch (a++b) -> noTouch b
 | [],_,h=>h
 | _::a,_,h=>noTouch.right (a:=a) h.tail
theorem Good.drop_all {L:List Ty}{W:List Nat}{pre post:List Ce}{c:Ce}(h:Good L W (pre++c::post))(hn:noTouch (pre++c::post)):
  ∃cs',Good L (dropW W pre c post) cs' /\ noTouch cs' /\ objs cs'=objs pre++objs post:=by
 obtain⟨a,ga,gb,b,rfl,rfl,ha2,hb2,ha3,hb3,h4,h5,h6⟩:=drop_parts h.chain
 have h':Good L W (a++((ga++c::gb)++b)):=by
  have e:a++((ga++c::gb)++b)=(a++ga)++c::(gb++b):=by simp
  rw[e];exact h
 refine⟨a++(dropFrm 0 (a++ga),gapHd (dropTill (c.1+c.2.size) (gb++b)-dropFrm 0 (a++ga)))::b,h'.drop (by simp) ⟨h4,h5⟩,?_,?_⟩
 · have hb':noTouch b:=noTouch.right (a:=(a++ga)++c::gb) (by simpa using hn)
   have ha':noTouch a:=noTouch.left (b:=ga++c::(gb++b)) (by simpa using hn);exact ha'.append (hb'.cons (.inr hb3)) (.inl ha3)
 · rw[objs_append,objs_append,objs_append,objs_none ha2,objs_none hb2,List.append_nil,List.nil_append]
   congr 1
   unfold objs;rw[List.filter_cons_of_neg (by rw[isObj_iff];exact gapHd_tag _)]
theorem noTouch_gapc (g n:Nat):noTouch (gapc g n):=by unfold gapc;split<;>trivial
theorem noTouch.put {a b:List Ce}{c:Ce}(hn:noTouch (a++c::b))(hc:c.2.tag≠1){g:Nat}{h:Hd}(hh:h.tag=1):noTouch (a++putC c g h++b):=by
 have ha:noTouch a:=hn.left;have hcb:noTouch (c::b):=hn.right;have hb:noTouch b:=hcb.tail
 have hb3:b=[]∨∃d b1,b=d::b1 /\ d.2.tag=1:=by
  cases b with
  | nil=>exact .inl rfl
  | cons d b=>exact .inr ⟨d,b,rfl,hcb.1.resolve_left hc⟩
 have ha3:a=[]∨∃a1 d,a=a1++[d] /\ d.2.tag=1:=by
  rcases List.eq_nil_or_concat a with rfl|⟨a1,d,rfl⟩
  ·exact .inl rfl
  · refine .inr ⟨a1,d,by simp,?_⟩
    have h1:noTouch (d::c::b):=noTouch.right (a:=a1) (by simpa using hn);exact h1.1.resolve_right hc
 have h1:noTouch (gapc (g+h.size) (c.1+c.2.size-g-h.size)++b):=(noTouch_gapc _ _).append hb (.inr hb3);have h2:noTouch ((g,h)::(gapc (g+h.size) (c.1+c.2.size-g-h.size)++b)):=h1.cons (.inl hh);have h3:noTouch (gapc c.1 (g-c.1)++(g,h)::(gapc (g+h.size) (c.1+c.2.size-g-h.size)++b)):=(noTouch_gapc _ _).append h2 (.inr (.inr ⟨_,_,rfl,hh⟩));have h4:=ha.append h3 (.inl ha3);unfold putC
 simpa using h4
theorem chain_next {L:List Ty}{W:List Nat}:∀{cs:List Ce} {g e:Nat},Chain L W g cs e -> ∀{j:Nat} {c d:Ce},cs[j]?= some c -> cs[j+1]?= some d -> d.1=c.1+c.2.size
 | [],_,_,_,_,_,_,h,_=>by simp at h
 | x::cs,g,e,hC,0,c,d,hc,hd=>by
  obtain rfl:x=c:=by simpa using hc
  obtain⟨h1,-,h3⟩:=hC
  cases cs with
  | nil=>simp at hd
  | cons y cs=>
   obtain rfl:y=d:=(by simpa using hd);rw[h3.1,h1]
 | x::cs,g,e,hC,j+1,c,d,hc,hd=>chain_next hC.2.2 (j:=j) (by simpa using hc) (by simpa using hd)
theorem chain_first {L:List Ty}{W:List Nat}{cs:List Ce}{g e:Nat}(hC:Chain L W g cs e){c:Ce}(hc:cs[0]?= some c):c.1=g:=by
 cases cs with
 | nil=>simp at hc
 | cons x cs=>
  obtain rfl:x=c:=by simpa using hc
  exact hC.1
theorem take_next {cs:List Ce}{j:Nat}{d:Ce}(h:cs[j]?= some d):cs.take (j+1)=cs.take j++[d]:=by rw[List.take_add_one,h];rfl
theorem drop_next {cs:List Ce}{j:Nat}{d:Ce}(h:cs[j]?= some d):cs.drop j=d::cs.drop (j+1):=by
 obtain⟨hj,rfl⟩:=List.getElem?_eq_some_iff.1 h;exact List.drop_eq_getElem_cons hj
def Dn (cs:List Ce)(F j x:Nat):Prop:=(∃d,cs[j]?= some d /\ d.1=x) /\ dropFrm 0 (cs.take j)=F
theorem Dn.first {L:List Ty}{W:List Nat}{cs:List Ce}{e F x:Nat}(hC:Chain L W 0 cs e)(h:Dn cs F 0 x):x=F:=by
 obtain⟨⟨d,h1,rfl⟩,h2⟩:=h;rw[chain_first hC h1,←h2]
 rfl
theorem Dn.obj {L:List Ty}{W:List Nat}{cs:List Ce}{e F x j:Nat}(hC:Chain L W 0 cs e)(h:Dn cs F (j+1) x){d:Ce}(hd:cs[j]?= some d)(ht:d.2.tag=1):x=F:=by
 obtain⟨⟨d',h1,rfl⟩,h2⟩:=h;rw[chain_next hC hd h1,←h2,take_next hd,dropFrm_append,dropFrm,if_pos ht]
 rfl
theorem Dn.gap {cs:List Ce}{F x j:Nat}(h:Dn cs F (j+1) x){d:Ce}(hd:cs[j]?= some d)(ht:d.2.tag≠1):Dn cs F j d.1:=by
 obtain⟨-,h2⟩:=h;refine⟨⟨d,hd,rfl⟩,?_⟩;rw[←h2,take_next hd,dropFrm_append,dropFrm,if_neg ht]
 rfl
theorem dropTill_here {cs:List Ce}{m:Nat}{d:Ce}(h:cs[m]?= some d)(t:Nat)(ht:d.2.tag=1):dropTill t (cs.drop m)=t:=by rw[drop_next h,dropTill,if_pos ht]
theorem dropTill_on {cs:List Ce}{m:Nat}{d:Ce}(h:cs[m]?= some d)(t:Nat)(ht:d.2.tag≠1):dropTill t (cs.drop m)=dropTill (d.1+d.2.size) (cs.drop (m+1)):=by rw[drop_next h,dropTill,if_neg ht]
theorem dropTill_end {cs:List Ce}{m:Nat}(h:cs.length <= m)(t:Nat):dropTill t (cs.drop m)=t:=by rw[List.drop_eq_nil_of_le h];rfl
/-! ### A Settle -/
theorem objq_some {L:List Ty}{W:List Nat}{g:Int}{h:Hd}(hg:objq L W g=some h):0 <= g /\ stands L W g.toNat h /\ h.tag=1:=by
 unfold objq at hg
 cases hh:headAt W g with
 | none=>rw[hh]at hg;cases hg
 | some h'=>
  rw[hh]at hg;simp only at hg
  split at hg
  · rename_i hc
    cases hg
    obtain⟨h1,h2,h3,-⟩:=headAt_some hh;obtain⟨g,rfl⟩:∃q:Nat,g=q:=⟨g.toNat,by omega⟩;refine⟨h2,⟨?_,(fit_iff L h).1 hc.2.1,by rw[Int.toNat_natCast];omega⟩,hc.1⟩;have hlt:2*g<W.length:=(by omega);refine⟨W[2*g],List.getElem?_eq_getElem hlt,?_⟩
    have:=(headAt_in (W:=W) (g:=g) (v:=W[2*g]) (by omega) (List.getElem?_eq_getElem hlt)).1;rw[←this,hh]
  ·cases hg
theorem objq_of {L:List Ty}{W:List Nat}{g:Nat}{h:Hd}(hs:stands L W g h)(ht:h.tag=1):objq L W (g:Int)=some h:=by
 have hp:=hs.pos;obtain⟨⟨v,h1,h2⟩,h3,h4⟩:=hs;unfold objq;rw[(headAt_in (by omega) h1).1,h2];simp only;rw[if_pos ⟨ht,(fit_iff L h).2 h3,by omega⟩]
def endOf:Nat -> List Ce -> Nat
 | e,[]=>e
 | _,c::cs=>endOf (c.1+c.2.size) cs
theorem endOf_snoc:∀(os:List Ce) (c:Ce) (e:Nat),endOf e (os++[c])=c.1+c.2.size
 | [],_,_=>rfl
 | _::os,c,_=>endOf_snoc os c _
theorem rises_snoc {L:List Ty}{W:List Nat}:∀{os:List Ce} {c:Ce} {e:Nat},rises L W e (os++[c])↔rises L W e os /\ endOf e os <= c.1 /\ stands L W c.1 c.2 /\ c.2.tag=1
 | [],c,e=>⟨fun h=>⟨trivial,h.1,h.2.1,h.2.2.1⟩,fun h=>⟨h.2.1,h.2.2.1,h.2.2.2,trivial⟩⟩
 | d::os,c,e=>by
  constructor
  · intro h
    have h1:=rises_snoc.1 h.2.2.2;exact⟨⟨h.1,h.2.1,h.2.2.1,h1.1⟩,h1.2⟩
  · intro h
    exact⟨h.1.1,h.1.2.1,h.1.2.2.1,rises_snoc.2 ⟨h.1.2.2.2,h.2⟩⟩
def cesAt (os:List Ce):List Int:=os.map fun c=>(c.1:Int)
def settles (L:List Ty)(W:List Nat)(at_:List Int)(os:List Ce):Prop:=at_=cesAt os /\ rises L W 0 os
theorem noTouch_settleC (n:Nat):∀(os:List Ce) (e:Nat),(∀c∈os,c.2.tag=1) -> noTouch (settleC n os e)
 | [],e,_=>noTouch_gapc ..
 | c::os,e,h=>by
  rw[settleC];have h1:=noTouch_settleC n os (c.1+c.2.size) fun d hd=>h d (List.mem_cons_of_mem _ hd);have hc:=h c (List.mem_cons_self ..);exact(noTouch_gapc _ _).append (h1.cons (.inl hc)) (.inr (.inr ⟨_,_,rfl,hc⟩))
end
section
open Go Go.RowKit Go.IntWalk
theorem Src.ce1 {w:World}{b off n cap:Nat}{cs:List Ce}(h:Src w (some ⟨b,off,none⟩) n cap 5 (ces cs)){i:Nat}{c:Ce}(hi:cs[i]?= some c):
  w.cell? ⟨b,off+i*5,none⟩=some (.int .i64 c.1) /\ w.cell? ⟨b,off+i*5+1,none⟩=some (.int .u8 c.2.tag) /\ w.cell? ⟨b,off+i*5+4,none⟩=some (.int .i64 c.2.size):=
 have h1:=h.ce hi
 ⟨h1 0 _ rfl,h1 1 _ rfl,h1 4 _ rfl⟩
theorem drop9_none {w0:World}(w:World){rb lcap:Nat}{lao:Option Addr}{W:List Nat}{L:List Ty}{l R:List Blk}(hI:RefIs rb lao L.length lcap W l)(T:Turn [] w0 (l++R) w)(hS:Src w0 lao L.length lcap 3 (tys L))(hTy:∀t∈L,TyIn t)(hL:L.length <= 1000)(hf:W.length <= 65536)
  (hu:∀v∈W,v<18446744073709551616)(cs:List Ce)(hC:Chain L W 0 cs (W.length/2))(g:Int)(hno:∀c∈cs,¬((c.1:Int)=g /\ c.2.tag=1)):
  Calls prog 136 #[pt rb,.int .i64 g] w fun e w'=>e=.returned (.int .i64 3) /\ Turn [] w0 (l++R) w':=by
 obtain⟨ao0,cap0,hR⟩:=hI.at_ T.has (hS.below T.below);have Hall:=uh (all9 w hR hf hu hTy hL cs hC);have hlen:=hC.len;obtain⟨z,hz⟩:∃z:Nat,W.length/2=z:=⟨_,rfl⟩;have hzb:z <= 32768:=by omega
 rw[hz]at hlen;have HT:=uh T;have hCm:=uh (fun c (h:c∈cs)=>hC.mem c h);clear T hS hTy hu hC hR hI
 go_enter func136,ntmps136
 go_wp2_with fail
 refine Hall.out.mono ?_;rintro e w2 ⟨a11,p11,l11,rfl,hrow11,T4⟩;have HT4:=uh (HT.out.grow T4);have Hr11:=uh hrow11;clear T4 HT hrow11
 go_wp2_with fail
 have HF:=uh (fun(h:0<cs.length)=>((Hr11.out.src HT4.out.has).form (by rw[ces_length];omega)))
 go_loopw [6] (fun v6 wr=>∃i:Nat,i <= cs.length /\ v6=.int .i64 i /\ Turn [] w0 (l11++(l++R)) wr) (fun v6 _=>cs.length-(intOf v6).toNat)
 case atStart=>exact⟨0,Nat.zero_le _,by go_num,HT4.out⟩
 case round=>
  clear HT4;obtain⟨i,hi,rfl,T⟩:=hrel
  by_cases hlt:i<cs.length
  · have hlt':(i:Int)<(cs.length:Int):=by omega
    obtain⟨c,hc⟩:∃c,cs[i]?= some c:=⟨cs[i],List.getElem?_eq_getElem hlt⟩;have hn:=hno c (List.mem_of_getElem? hc);obtain⟨b,off,rfl,-⟩:=HF.out (by omega);obtain⟨d0,d1,-⟩:=(Hr11.out.src T.has).ce1 hc;obtain⟨cg,⟨xa,xb,xc,xd⟩⟩:=c;simp only at hn d0 d1;have HT2:=uh T;clear T hc
    by_cases hg:(cg:Int)=g
    · have k1:((cg:Int) != g)=false:=by rw[bne_eq_false_iff_eq];exact hg
      have k2:((xa:Int) != 1)=true:=(by rw[bne_iff_ne];intro h;exact hn ⟨hg,by omega⟩);have k3:(xa != 1)=true:=(by rw[bne_iff_ne];intro h;exact hn ⟨hg,by omega⟩);clear hg hn hno
      go_wp2_with fail
      go_roundw
      case rel=>exact⟨i+1,by omega,by go_num,HT2.out⟩
      case measure=>simp[intOf];omega
    · have k1:((cg:Int) != g)=true:=by rw[bne_iff_ne];exact hg
      clear hg hn hno
      go_wp2_with fail
      go_roundw
      case rel=>exact⟨i+1,by omega,by go_num,HT2.out⟩
      case measure=>simp[intOf];omega
  · have hnl:¬(i:Int)<(cs.length:Int):=by omega
    have HT2:=uh T.drop;clear T hno
    go_wp2_with fail
    go_ret;exact⟨rfl,HT2.out⟩
theorem drop9 {w0:World}(w:World){rb lcap:Nat}{lao:Option Addr}{W:List Nat}{L:List Ty}{l R:List Blk}(hI:RefIs rb lao L.length lcap W l)(T:Turn [] w0 (l++R) w)(hS:Src w0 lao L.length lcap 3 (tys L))(hTy:∀t∈L,TyIn t)(hL:L.length <= 1000)(hf:W.length <= 65536)
  (hu:∀v∈W,v<18446744073709551616)(pre post:List Ce)(c:Ce)(hC:Chain L W 0 (pre++c::post) (W.length/2))(ht:c.2.tag=1):
  Calls prog 136 #[pt rb,.int .i64 c.1] w fun e w'=>e=.returned (.int .i64 0) /\ ∃l',RefIs rb lao L.length lcap (dropW W pre c post) l' /\ Turn [] w0 (l'++R) w':=by
 obtain⟨ao0,cap0,hR⟩:=hI.at_ T.has (hS.below T.below);obtain⟨cs,hcs⟩:∃cs,pre++c::post=cs:=⟨_,rfl⟩;have Hall:=uh (all9 w hR hf hu hTy hL _ hC)
 have hpre:∀(j:Nat) (d:Ce),j<pre.length -> cs[j]?= some d -> d.1≠c.1:=by
  intro j d hj hd;rw[←hcs,List.getElem?_append_left hj]at hd;have h1:=(hC.split.1).mem d (List.mem_of_getElem? hd);have:=h1.2.2.pos;omega
 have hatc:cs[pre.length]?= some c:=by rw[←hcs,List.getElem?_append_right (Nat.le_refl _),Nat.sub_self];rfl
 have hdp:cs.drop (pre.length+1)=post:=by rw[←hcs];simp
 have hC':Chain L W 0 cs (W.length/2):=by rw[←hcs];exact hC
 have hD0:Dn cs (dropFrm 0 pre) pre.length c.1:=⟨⟨c,hatc,rfl⟩,by rw[←hcs,List.take_left]⟩;obtain⟨a,ga,gb,b0,e1,e2,-,-,-,-,hx1,hx2,hx3⟩:=drop_parts hC;have hle1:=hx2.le;have hle2:=hx3.le;clear e1 e2 hx1 hx2 hx3 a ga gb b0;have hlen:=hC'.len;rw[hcs]at Hall;have hplt:pre.length<cs.length:=(List.getElem?_eq_some_iff.1 hatc).1;have Hlay:=uh (fun w' (l1:List Blk) (V:Turn [] w0 (l++l1) w')=>lay9 w' (R:=l1) hI V hf (dropFrm 0 pre) (dropTill (c.1+c.2.size) post-dropFrm 0 pre) (by omega));unfold dropW;have HC:=uh hC';have Hpre:=uh hpre;have HT:=uh T;have HD0:=uh hD0;have hCm:=uh (fun c (h:c∈cs)=>hC'.mem c h);rw[←hdp]at Hlay hle1 hle2 ⊢;obtain⟨p,hp⟩:∃p,pre.length=p:=⟨_,rfl⟩;obtain⟨Fr,hFr⟩:∃Fr,dropFrm 0 pre=Fr:=⟨_,rfl⟩;rw[hp]at Hlay hle1 hle2 Hpre HD0 hatc hplt ⊢;rw[hFr]at Hlay hle1 HD0 ⊢;obtain⟨z,hz⟩:∃z:Nat,W.length/2=z:=⟨_,rfl⟩;have hzb:z <= 32768:=by omega
 rw[hz]at hlen hle2 hCm HC;have hcm:=hCm.out c (List.mem_of_getElem? hatc);obtain⟨cg,⟨ca,cb,cc,cd⟩⟩:=c;simp only at ht hcm Hlay hle1 hle2 HD0 Hpre ⊢;subst ht;have hcb:cg+cd <= z:=hcm.2.1;obtain⟨Ti,hTi⟩:∃Ti,dropTill (cg+cd) (cs.drop (p+1))=Ti:=⟨_,rfl⟩;rw[hTi]at Hlay hle1 hle2 ⊢;have HTi:=uh hTi;clear T hS hTy hu hC hR hI hC' hpre hD0 hdp hcs hz hp hFr hcm hTi pre post
 go_enter func136,ntmps136
 go_wp2_with fail
 refine Hall.out.mono ?_;rintro e w2 ⟨a11,p11,l11,rfl,hrow11,T4⟩;have HT4:=uh (HT.out.grow T4);have Hr11:=uh hrow11;clear T4 HT hrow11
 go_wp2_with fail
 obtain⟨b,off,rfl,-⟩:=((Hr11.out.src HT4.out.has).form (by rw[ces_length];omega))
 go_loopw [6] (fun v6 wr=>∃i:Nat,i <= p /\ v6=.int .i64 i /\ Turn [] w0 (l11++(l++R)) wr) (fun v6 _=>cs.length-(intOf v6).toNat)
 case atStart=>exact⟨0,Nat.zero_le _,by go_num,HT4.out⟩
 case round=>
  clear HT4;obtain⟨i,hi,rfl,T⟩:=hrel;have hlt':(i:Int)<(cs.length:Int):=by omega
  by_cases hlt:i<p
  · obtain⟨d,hd⟩:∃c,cs[i]?= some c:=⟨cs[i]'(by omega),List.getElem?_eq_getElem _⟩
    have hne:=Hpre.out i d hlt hd;obtain⟨d0,-,-⟩:=(Hr11.out.src T.has).ce1 hd;have k1:((d.1:Int) != (cg:Int))=true:=(by rw[bne_iff_ne];omega);have k2:(d.1 != cg)=true:=(by rw[bne_iff_ne];exact hne);have HT2:=uh T;clear T hd hne
    go_wp2_with fail
    go_roundw
    case rel=>exact⟨i+1,by omega,by go_num,HT2.out⟩
    case measure=>simp[intOf];omega
  · obtain rfl:i=p:=by omega
    obtain⟨d0,d1,d4⟩:=(Hr11.out.src T.has).ce1 hatc;simp only at d0 d1 d4;have HT2:=uh T;clear T
    go_upto_region 6 with fail
    go_quiet (fail)
    clear d0 d1 d4
    go_wp2_with fail
    go_loopw [7,9] (fun v7 v9 wr=>∃j x:Nat,j <= i /\ v9=.int .i64 ((j:Int)-1) /\ v7=.int .i64 x /\ Dn cs Fr j x /\ Turn [] w0 (l11++(l++R)) wr) (fun _ v9 _=>(intOf v9+1).toNat)
    case atStart=>exact⟨i,cg,Nat.le_refl _,by go_num,rfl,HD0.out,HT2.out.drewN _⟩
    case round=>
     clear HT2;obtain⟨j,x,hj,rfl,rfl,hdn,T⟩:=hrel
     by_cases hexit:j=0∨∃j' d,j=j'+1 /\ cs[j']?= some d /\ d.2.tag=1
     · obtain rfl:x=Fr:=by
         rcases hexit with rfl|⟨j',d,rfl,hd,hdt⟩
         ·exact hdn.first HC.out
         ·exact hdn.obj HC.out hd hdt
       have HT3:=uh T;clear hdn hj HD0;rcases hexit with rfl|⟨j',d,rfl,hd,hdt⟩
       case' inl=>(clear T;go_wp2_with fail)
       case' inr=>(
        obtain⟨-,d1,-⟩:=(Hr11.out.src T.has).ce1 hd;rw[hdt]at d1;have hjl:j'<cs.length:=(List.getElem?_eq_some_iff.1 hd).1;have hjl2:(j':Int)<(cs.length:Int):=(by omega);clear T hd hdt
        go_wp2_with fail
        clear d1 hjl hjl2)
       all_goals (
        go_loopw [8,10] (fun v8 v10 wr=>∃m t:Nat,i<m /\ m <= cs.length /\ v10=.int .i64 m /\ v8=.int .i64 t /\ dropTill t (cs.drop m)=Ti /\ t <= z /\ Turn [] w0 (l11++(l++R)) wr) (fun _ v10 _=>cs.length-(intOf v10).toNat)
        case atStart=>exact⟨i+1,cg+cd,by omega,by omega,by go_num,by go_num,HTi.out,hcb,HT3.out⟩
        case round=>
         clear HT3 HTi;obtain⟨m,t,hm1,hm2,rfl,rfl,hti,htz,T⟩:=hrel
         by_cases hexit:m=cs.length∨∃d,cs[m]?= some d /\ d.2.tag=1
         · obtain rfl:t=Ti:=by
             rcases hexit with rfl|⟨d,hd,hdt⟩
             ·rw[dropTill_end (Nat.le_refl _)]at hti;exact hti
             ·rw[dropTill_here hd _ hdt]at hti;exact hti
           have HT3:=uh (T.perm (l2:=l++(l11++R)) po);have HL:=uh (fun w' V=>Hlay.out w' (l11++R) V);have hsub:(t:Int)-(x:Int)=((t-x:Nat):Int):=(by omega);clear hti Hlay;rcases hexit with hml|⟨d,hd,hdt⟩
           case' inl=>(
            have k1:¬(m:Int)<(cs.length:Int):=(by omega);clear T hml
            go_wp2_with fail)
           case' inr=>(
            obtain⟨-,d1,-⟩:=(Hr11.out.src T.has).ce1 hd;rw[hdt]at d1;have hjl:m<cs.length:=(List.getElem?_eq_some_iff.1 hd).1;have hjl2:(m:Int)<(cs.length:Int):=(by omega);clear T hd hdt
            go_wp2_with fail)
           all_goals (
            refine(HL.out _ HT3.out).mono ?_;rintro e W7 ⟨⟨u,rfl⟩,l7,hI7,T7⟩;have HT7:=uh ((T7.perm (l2:=l11++(l7++R)) po).drop);have HI7:=uh hI7;clear T7 hI7 HT3 HL
            go_wp2_with fail
            go_ret;exact⟨rfl,l7,HI7.out,HT7.out⟩)
         · have hml:m<cs.length:=by
             rcases Nat.lt_or_ge m cs.length with h|h
             ·exact h
             ·exact absurd (.inl (by omega)) hexit
           obtain⟨d,hd⟩:∃c,cs[m]?= some c:=⟨cs[m],List.getElem?_eq_getElem hml⟩;have hdt:d.2.tag≠1:=fun h=>hexit (.inr ⟨d,hd,h⟩);rw[dropTill_on hd _ hdt]at hti;have hdb:=(hCm.out d (List.mem_of_getElem? hd)).2.1;obtain⟨d0,d1,d4⟩:=(Hr11.out.src T.has).ce1 hd;have k1:((d.2.tag:Int) != 1)=true:=(by rw[bne_iff_ne];omega);have k2:(d.2.tag != 1)=true:=(by rw[bne_iff_ne];exact hdt);have hjl2:(m:Int)<(cs.length:Int):=(by omega);obtain⟨dg,⟨da,db,dc,dd⟩⟩:=d;simp only at d0 d1 d4 hdb hti k1 k2;have Hti:=uh hti;have HT3:=uh T;clear T hd hdt hexit hti
           go_upto_region 14 with fail
           go_quiet (fail)
           clear d0 d1 d4
           go_wp2_with fail
           go_roundw
           case rel=>exact⟨m+1,dg+dd,by omega,by omega,by go_num,by go_num,Hti.out,hdb,HT3.out.drewN _⟩
           case measure=>simp[intOf];omega)
     · have hj0:j≠0:=fun h=>hexit (.inl h)
       obtain⟨j',rfl⟩:∃j',j=j'+1:=⟨j-1,by omega⟩;obtain⟨d,hd⟩:∃c,cs[j']?= some c:=⟨cs[j']'(by omega),List.getElem?_eq_getElem _⟩;have hdt:d.2.tag≠1:=fun h=>hexit (.inr ⟨j',d,rfl,hd,h⟩);have hdn2:=uh (hdn.gap hd hdt);obtain⟨d0,d1,-⟩:=(Hr11.out.src T.has).ce1 hd;have k1:((d.2.tag:Int) != 1)=true:=(by rw[bne_iff_ne];omega);have k2:(d.2.tag != 1)=true:=(by rw[bne_iff_ne];exact hdt);have hjl2:(j':Int)<(cs.length:Int):=(by omega);have HT3:=uh T;clear T hd hdt hexit hdn
       go_wp2_with fail
       go_roundw
       case rel=>exact⟨j',d.1,by omega,by go_num,rfl,hdn2.out,HT3.out⟩
       case measure=>simp[intOf]
theorem stands_ty {L:List Ty}{W:List Nat}{g:Nat}{h:Hd}(hs:stands L W g h)(ht:h.tag=1)(hTy:∀t∈L,TyIn t):(tyAt L h.typ).err h.len=0 /\ TyIn (tyAt L h.typ):=by
 have h1:=(fit_iff L h).2 hs.2.1;unfold fitErr at h1;rw[if_neg (by simpa using hs.2.1.1),if_neg (by simpa using ht)]at h1
 have h2:tyErr L h.typ h.len=0:=by
  by_cases h9:tyErr L h.typ h.len=0
  ·exact h9
  ·rw[if_neg (fun x=>h9 x.1)]at h1;exact absurd h1 (by decide)
 unfold tyErr at h2;unfold tyAt
 cases hg:getTy L h.typ with
 | none=>rw[hg]at h2;exact absurd h2 (by simp)
 | some t=>
  rw[hg]at h2;obtain⟨k,-,hk,-⟩:=getTy_some hg;exact⟨h2,hTy t (List.mem_of_getElem? hk)⟩
theorem step_store {P:Program}{ops:Array Oper}{Q:Exit -> Act -> World -> Prop}{o:Oper}{ts:List Value}{ds:List Deferred}{K:Act -> World -> Prop}{E:Prop}{w:World}(hdst:o.dst=none)(hg:o.guard=none)(ty:TypeId)(x y:Operand)(ho:o.op=.store ty x y)
  (b off:Nat)(cells:Array Value)(hx:Act.eval { tmps:=ts.toArray,defers:=ds } x=.pointer (some ⟨b,off,none⟩))(hy:Act.eval { tmps:=ts.toArray,defers:=ds } y=.agg cells)
  (ht:w.there b off cells.size)(hi:(P.info? ty).map (·.size)=some cells.size)(h1:cells.all (·.oneCell')=true)(hK:K { tmps:=ts.toArray,defers:=ds } (w.setCells b off cells.toList)):
  if Region.wanted o (yielded ops (Act.tmps { tmps:=ts.toArray,defers:=ds }))=true then Oper.wp P o { tmps:=ts.toArray,defers:=ds } w K Q else E:=by
 have hw:Region.wanted o (yielded ops (Act.tmps { tmps:=ts.toArray,defers:=ds }))=true:=by simp[Region.wanted,hg]
 rw[if_pos hw];refine wp_store_mid ty x y ho b off cells hx hy ht hi h1 ?_
 simpa [Act.put,hdst]using hK
theorem any_mid {I G:Nat -> Nat -> World -> Prop}{C:Prop}(h1:Hid (∀bh bt V,I bh bt V -> G bh bt V) -> C)(h2:∀bh bt V,I bh bt V -> G bh bt V):C:=h1 (uh h2)
theorem wp_mid {P:Program}{c:Code}{Q:Exit -> Act -> World -> Prop}{a:Act}{w:World}{I:Nat -> Nat -> World -> Prop}{F:Nat -> Nat -> Act}(h:c.wp P (fun e a w=>e=.normal /\ ∃bh bt:Nat,a=F bh bt /\ I bh bt w) a w)(hq:∀bh bt w,I bh bt w -> Q .normal (F bh bt) w):c.wp P Q a w:=
 wp_mono h fun e a w ⟨he,bh,bt,ha,hI⟩=>by subst he;subst ha;exact hq bh bt w hI
theorem slots9 {w0:World}(w:World){rb lcap:Nat}{lao:Option Addr}{W:List Nat}{L:List Ty}{l R:List Blk}(hI:RefIs rb lao L.length lcap W l)(T:Turn [] w0 (l++R) w)(hS:Src w0 lao L.length lcap 3 (tys L))(hTy:∀t∈L,TyIn t)(hL:L.length <= 1000)(hf:W.length <= 65536)
  (hu:∀v∈W,v<18446744073709551616)(pre post:List Ce)(c:Ce)(hC:Chain L W 0 (pre++c::post) (W.length/2))(ht:c.2.tag=1):
  Calls prog 137 #[pt rb,.int .i64 c.1] w fun e w'=>e=.returned (.int .i64 ((tyAt L c.2.typ).slots c.2.len:Nat)) /\ Turn [] w0 (l++R) w':=by
 obtain⟨ao0,cap0,hR⟩:=hI.at_ T.has (hS.below T.below);obtain⟨cs,hcs⟩:∃cs,pre++c::post=cs:=⟨_,rfl⟩;have Hall:=uh (all9 w hR hf hu hTy hL _ hC)
 have hpre:∀(j:Nat) (d:Ce),j<pre.length -> cs[j]?= some d -> d.1≠c.1:=by
  intro j d hj hd;rw[←hcs,List.getElem?_append_left hj]at hd;have h1:=(hC.split.1).mem d (List.mem_of_getElem? hd);have:=h1.2.2.pos;omega
 have hatc:cs[pre.length]?= some c:=by rw[←hcs,List.getElem?_append_right (Nat.le_refl _),Nat.sub_self];rfl
 have hstc:=hC.split.2.1;have hC':Chain L W 0 cs (W.length/2):=by rw[←hcs];exact hC
 have hlen:=hC'.len;rw[hcs]at Hall;have hplt:pre.length<cs.length:=(List.getElem?_eq_some_iff.1 hatc).1;have hoq:=objq_of hstc ht
 have hte:(tyAt L c.2.typ).err c.2.len=0 /\ TyIn (tyAt L c.2.typ):=by
  exact stands_ty hstc ht hTy
 obtain⟨ao,cap,lr,hrow,rfl⟩:=hI;have Hof:=uh (fun w' (l11 Y:List Blk) (V:Turn [] w0 (Y++(l11++((rb,rN ao W cap lao L.length lcap)::lr++R))) w')=>of8 w' ao cap (hrow.src (R:=(Y++l11)++((rb,rN ao W cap lao L.length lcap)::R)) (V.has.perm po)) hf hu L hTy hL lao lcap (hS.below V.below) (c.1:Int));rw[hoq]at Hof;simp only at Hof;have Hsl:=uh (fun w'=>rslots w' (tyAt L c.2.typ) hte.2 c.2.len);rw[if_pos hte.1,hte.1,Int.toNat_natCast]at Hsl
 have HS0 := uh (fun w' (l11 Y : List Blk) (V : Turn [] w0 (Y ++ (l11 ++ ((rb, rN ao W cap lao L.length lcap) :: lr ++ R))) w') =>
         (⟨V.has.cell (b:=rb) (c:=#[.slice ao W.length cap,.slice lao L.length lcap]) (e:=109) (f:=(0,0)) (by simp) 0,V.has.cell (b:=rb) (c:=#[.slice ao W.length cap,.slice lao L.length lcap]) (e:=109) (f:=(0,0)) (by simp) 1⟩:w'.cell? ⟨rb,0,none⟩=some (.slice ao W.length cap) /\ w'.cell? ⟨rb,1,none⟩=some (.slice lao L.length lcap)))
 have hszH:=sz_head;have hszT:=sz_type;have Hpre:=uh hpre;have HT:=uh T;have hzb:W.length/2 <= 32768:=by omega
 generalize tyAt L c.2.typ=t at*;obtain⟨tk,tw,tm⟩:=t;obtain⟨p,hp⟩:∃p,pre.length=p:=⟨_,rfl⟩;rw[hp]at Hpre hatc hplt;obtain⟨cg,⟨ca,cb,cc,cd⟩⟩:=c;simp only at ht Hpre Hof Hsl hlen ⊢;subst ht;have hoH:=hd_one ⟨1,cb,cc,cd⟩;have hoT:=ty_one ⟨tk,tw,tm⟩;simp only at hoH hoT;generalize hsv:Ty.slots ⟨tk,tw,tm⟩ cc=sv at*;clear T hS hTy hu hC hR hC' hpre hcs hp hstc hrow hte hoq hsv pre post
 go_enter func137,ntmps137
 go_wp2_with fail
 refine Hall.out.mono ?_;rintro e w2 ⟨a11,p11,l11,rfl,hrow11,T4⟩;have HT4:=uh (HT.out.grow T4);have Hr11:=uh hrow11;have HS:=uh (fun w' Y V=>HS0.out w' l11 Y V);have Hof:=uh (fun w' Y V=>Hof.out w' l11 Y V);clear T4 HT hrow11 HS0
 go_wp2_with fail
 obtain⟨b,off,rfl,-⟩:=((Hr11.out.src HT4.out.has).form (by rw[ces_length];omega))
 go_loopw [6] (fun v6 wr=>∃i:Nat,i <= p /\ v6=.int .i64 i /\ Turn [] w0 (l11++((rb,rN ao W cap lao L.length lcap)::lr++R)) wr) (fun v6 _=>cs.length-(intOf v6).toNat)
 case atStart=>exact⟨0,Nat.zero_le _,by go_num,HT4.out⟩
 case round=>
  clear HT4;obtain⟨i,hi,rfl,T⟩:=hrel;have hlt':(i:Int)<(cs.length:Int):=by omega
  by_cases hlt:i<p
  · obtain⟨d,hd⟩:∃c,cs[i]?= some c:=⟨cs[i]'(by omega),List.getElem?_eq_getElem _⟩
    have hne:=Hpre.out i d hlt hd;obtain⟨d0,-,-⟩:=(Hr11.out.src T.has).ce1 hd;have k1:((d.1:Int) == (cg:Int))=false:=(by rw[beq_eq_false_iff_ne];omega);have k2:(d.1 == cg)=false:=(by rw[beq_eq_false_iff_ne];exact hne);have HT2:=uh T;clear T hd hne
    go_wp2_with fail
    go_roundw
    case rel=>exact⟨i+1,by omega,by go_num,HT2.out⟩
    case measure=>simp[intOf];omega
  · obtain rfl:i=p:=by omega
    obtain⟨d0,d1,-⟩:=(Hr11.out.src T.has).ce1 hatc;simp only at d0 d1;have HT2:=uh T.drew;clear T
    go_upto_region 6 with fail
    clear d0 d1;refine wp_abs (fun W'=>Turn [] w0 (l11++((rb,rN ao W cap lao L.length lcap)::lr++R)) W'.drew) HT2.out fun W1 T1=>?_;have HT1:Hid (Turn [] w0 (l11++((rb,rN ao W cap lao L.length lcap)::lr++R)) W1.drew):=uh T1;clear T1 HT2
    apply wp_mid (I:=fun bh bt w=>Turn [] w0 ((bh,.cells #[.int .u8 1,.int .i64 cb,.int .i64 cc,.int .i64 cd] 79)::(bt,.cells #[.int .u8 tk,.int .i64 tw,.int .u64 tm] 49)::(l11++((rb,rN ao W cap lao L.length lcap)::lr++R))) w)
    case h=>
     have hS1:=HS.out _ [] HT1.out;refine wp_region_noPanic ?_;refine wp_region_listed (S:=fun W'=>W'.cell? ⟨rb,0,none⟩=some (.slice ao W.length cap) /\ W'.cell? ⟨rb,1,none⟩=some (.slice lao L.length lcap)) 19 [false,false,false,false,false,false,false,false,false,false,false,false,false,false,false,false,false,false,false] rfl rfl (by kernel_rfl) ?_;refine tkA 0 37 hS1 ?_;refine tkA 1 38 hS1 ?_;refine tkA 2 39 hS1 ?_;refine tkB 3 40 hS1 (fun w hSw=>hSw.1) ?_;refine tkA 4 41 hS1 ?_;refine tkA 5 42 hS1 ?_;refine tkA 6 43 hS1 ?_;refine tkB 7 44 hS1 (fun w hSw=>hSw.2) ?_;refine tkA 8 45 hS1 ?_;have T0:Turn [] w0 ([]++(l11++((rb,rN ao W cap lao L.length lcap)::lr++R))) W1.drew:=HT1.out;clear hS1;generalize W1.drew=V0 at T0 ⊢;have HT0h:=uh T0;clear T0
     apply any_mid (I:=fun bh bt V=>Turn [] w0 ((bh,zH)::(bt,zT)::(l11++((rb,rN ao W cap lao L.length lcap)::lr++R))) V)
     case h1=>
      intro hG;have T0:=HT0h.out;refine wpAnyH_ready (rs:=[9,14,15]) (by kernel_rfl) (by simp) (AllReadyH.cons rfl (fun K hK=>?_) (AllReadyH.cons rfl (fun K hK=>?_) (AllReadyH.cons rfl (fun K hK=>?_) AllReadyH.nil)))
      · go_simp
        refine(Hof.out _ [] T0).mono ?_;rintro e V1 ⟨rfl,hB⟩;have T1:=T0.call hB;refine hK.out _ _ (HS.out _ [] T1) fun _=>?_;clear hK K hB T0;simp only[st0,st1,st2];have hS1:=HS.out _ [] T1;refine tkA 10 36 hS1 ?_;refine tkA 11 47 hS1 ?_;refine tkA 12 48 hS1 ?_;refine tkA 13 49 hS1 ?_;clear hS1;refine wpAnyH_ready (rs:=[14,15]) (by kernel_rfl) (by simp) (AllReadyH.cons rfl (fun K hK=>?_) (AllReadyH.cons rfl (fun K hK=>?_) AllReadyH.nil))
        · go_simp
          have T2:=T1.alloc zH;refine hK.out _ _ (HS.out _ [_] T2) fun _=>?_;clear hK K T1;simp only[st0,st1,st2];generalize V1.alloc _=V2 at*;generalize V1.heap.size=bh at*;refine rdyA 15 (fun K hK=>?_)
          · go_simp
            have T3:=T2.alloc zT;refine hK.out _ _ (HS.out _ [_,_] T3) fun _=>?_;clear hK K T2;simp only[st0,st1,st2];generalize V2.alloc _=V3 at*;generalize V2.heap.size=bt at*;exact hG.out bh bt V3 (T3.perm po)
        · go_simp
          have T2:=T1.alloc zT;refine hK.out _ _ (HS.out _ [_] T2) fun _=>?_;clear hK K T1;simp only[st0,st1,st2];generalize V1.alloc _=V2 at*;generalize V1.heap.size=bt at*;refine rdyA 14 (fun K hK=>?_)
          · go_simp
            have T3:=T2.alloc zH;refine hK.out _ _ (HS.out _ [_,_] T3) fun _=>?_;clear hK K T2;simp only[st0,st1,st2];generalize V2.alloc _=V3 at*;generalize V2.heap.size=bh at*;exact hG.out bh bt V3 (T3.perm po)
      · go_simp
        have T1:=T0.alloc zH;refine hK.out _ _ (HS.out _ [_] T1) fun _=>?_;clear hK K T0;simp only[st0,st1,st2];generalize V0.alloc _=V1 at*;generalize V0.heap.size=bh at*;refine wpAnyH_ready (rs:=[9,15]) (by kernel_rfl) (by simp) (AllReadyH.cons rfl (fun K hK=>?_) (AllReadyH.cons rfl (fun K hK=>?_) AllReadyH.nil))
        · go_simp
          refine(Hof.out _ [_] T1).mono ?_;rintro e V2 ⟨rfl,hB⟩;have T2:=T1.call hB;refine hK.out _ _ (HS.out _ [_] T2) fun _=>?_;clear hK K hB T1;simp only[st0,st1,st2];have hS2:=HS.out _ [_] T2;refine tkA 10 36 hS2 ?_;refine tkA 11 47 hS2 ?_;refine tkA 12 48 hS2 ?_;refine tkA 13 49 hS2 ?_;clear hS2;refine rdyA 15 (fun K hK=>?_)
          · go_simp
            have T3:=T2.alloc zT;refine hK.out _ _ (HS.out _ [_,_] T3) fun _=>?_;clear hK K T2;simp only[st0,st1,st2];generalize V2.alloc _=V3 at*;generalize V2.heap.size=bt at*;exact hG.out bh bt V3 (T3.perm po)
        · go_simp
          have T2:=T1.alloc zT;refine hK.out _ _ (HS.out _ [_,_] T2) fun _=>?_;clear hK K T1;simp only[st0,st1,st2];generalize V1.alloc _=V2 at*;generalize V1.heap.size=bt at*;refine rdyA 9 (fun K hK=>?_)
          · go_simp
            refine(Hof.out _ [_,_] T2).mono ?_;rintro e V3 ⟨rfl,hB⟩;have T3:=T2.call hB;refine hK.out _ _ (HS.out _ [_,_] T3) fun _=>?_;clear hK K hB T2;simp only[st0,st1,st2];have hS3:=HS.out _ [_,_] T3;refine tkA 10 36 hS3 ?_;refine tkA 11 47 hS3 ?_;refine tkA 12 48 hS3 ?_;refine tkA 13 49 hS3 ?_;clear hS3;exact hG.out bh bt V3 (T3.perm po)
      · go_simp
        have T1:=T0.alloc zT;refine hK.out _ _ (HS.out _ [_] T1) fun _=>?_;clear hK K T0;simp only[st0,st1,st2];generalize V0.alloc _=V1 at*;generalize V0.heap.size=bt at*;refine wpAnyH_ready (rs:=[9,14]) (by kernel_rfl) (by simp) (AllReadyH.cons rfl (fun K hK=>?_) (AllReadyH.cons rfl (fun K hK=>?_) AllReadyH.nil))
        · go_simp
          refine(Hof.out _ [_] T1).mono ?_;rintro e V2 ⟨rfl,hB⟩;have T2:=T1.call hB;refine hK.out _ _ (HS.out _ [_] T2) fun _=>?_;clear hK K hB T1;simp only[st0,st1,st2];have hS2:=HS.out _ [_] T2;refine tkA 10 36 hS2 ?_;refine tkA 11 47 hS2 ?_;refine tkA 12 48 hS2 ?_;refine tkA 13 49 hS2 ?_;clear hS2;refine rdyA 14 (fun K hK=>?_)
          · go_simp
            have T3:=T2.alloc zH;refine hK.out _ _ (HS.out _ [_,_] T3) fun _=>?_;clear hK K T2;simp only[st0,st1,st2];generalize V2.alloc _=V3 at*;generalize V2.heap.size=bh at*;exact hG.out bh bt V3 (T3.perm po)
        · go_simp
          have T2:=T1.alloc zH;refine hK.out _ _ (HS.out _ [_,_] T2) fun _=>?_;clear hK K T1;simp only[st0,st1,st2];generalize V1.alloc _=V2 at*;generalize V1.heap.size=bh at*;refine rdyA 9 (fun K hK=>?_)
          · go_simp
            refine(Hof.out _ [_,_] T2).mono ?_;rintro e V3 ⟨rfl,hB⟩;have T3:=T2.call hB;refine hK.out _ _ (HS.out _ [_,_] T3) fun _=>?_;clear hK K hB T2;simp only[st0,st1,st2];have hS3:=HS.out _ [_,_] T3;refine tkA 10 36 hS3 ?_;refine tkA 11 47 hS3 ?_;refine tkA 12 48 hS3 ?_;refine tkA 13 49 hS3 ?_;clear hS3;exact hG.out bh bt V3 (T3.perm po)
     case h2=>
      intro bh bt V0 U0;refine rdyA 16 (fun K hK=>?_);have hth0:=U0.there1;have U1:=U0.laid [.int .u8 1,.int .i64 cb,.int .i64 cc,.int .i64 cd] rfl;refine step_store rfl rfl 79 _ _ rfl _ 0 #[.int .u8 1,.int .i64 cb,.int .i64 cc,.int .i64 cd] rfl rfl hth0 hszH hoH ?_;refine hK.out _ _ (HS.out _ [_,_] U1) fun _=>?_;clear hK K hth0;simp only[st0,st1,st2];generalize V0.setCells bh 0 _=V9 at*;refine rdyA 17 (fun K hK=>?_);have hth1:=U1.there2;have U2:=U1.laid2 [.int .u8 tk,.int .i64 tw,.int .u64 tm] rfl;refine step_store rfl rfl 49 _ _ rfl _ 0 #[.int .u8 tk,.int .i64 tw,.int .u64 tm] rfl rfl hth1 hszT hoT ?_;refine hK.out _ _ (HS.out _ [_,_] U2) fun _=>?_;clear hK K hth1;simp only[st0,st1,st2];have hSz:=HS.out _ [_,_] U2;refine tkA 18 9 hSz ?_;clear hSz;refine wpAnyH_done (by kernel_rfl) ?_ _;refine NoPanic.normal ?_;exact⟨rfl,bh,bt,rfl,U2⟩
    case hq=>
     intro bh bt w5 T5;have hc3:=((Hr11.out.src (R:=(bh,.cells #[.int .u8 1,.int .i64 cb,.int .i64 cc,.int .i64 cd] 79)::(bt,.cells #[.int .u8 tk,.int .i64 tw,.int .u64 tm] 49)::((rb,rN ao W cap lao L.length lcap)::lr++R)) (T5.has.perm po)).ce hatc) 3 _ rfl
     have Hk:=uh (fun w' (lx:List Blk) (V:Turn [] w0 (lx++((bh,.cells #[.int .u8 1,.int .i64 cb,.int .i64 cc,.int .i64 cd] 79)::(bt,.cells #[.int .u8 tk,.int .i64 tw,.int .u64 tm] 49)::(l11++((rb,rN ao W cap lao L.length lcap)::lr++R)))) w')=>
      (⟨V.has.range (b:=bt) (c:=#[.int .u8 tk,.int .i64 tw,.int .u64 tm]) (e:=49) (f:=(0,0)) (by simp),((Hr11.out.src (R:=lx++((bh,.cells #[.int .u8 1,.int .i64 cb,.int .i64 cc,.int .i64 cd] 79)::(bt,.cells #[.int .u8 tk,.int .i64 tw,.int .u64 tm] 49)::((rb,rN ao W cap lao L.length lcap)::lr++R))) (V.has.perm po)).ce hatc) 3 _ rfl⟩:
        w'.rangeAt bt 0 [.int .u8 tk,.int .i64 tw,.int .u64 tm] /\ w'.cell? ⟨b,off+i*5+3,none⟩=some (.int .i64 cc)))
     have T5':Turn [] w0 ([]++((bh,.cells #[.int .u8 1,.int .i64 cb,.int .i64 cc,.int .i64 cd] 79)::(bt,.cells #[.int .u8 tk,.int .i64 tw,.int .u64 tm] 49)::(l11++((rb,rN ao W cap lao L.length lcap)::lr++R)))) w5:=T5;have HX:=uh T5'.drew;clear T5 T5' hc3 HS Hof
     go_upto_region 7 with fail
     refine wp_abs (fun W'=>Turn [] w0 ([]++((bh,.cells #[.int .u8 1,.int .i64 cb,.int .i64 cc,.int .i64 cd] 79)::(bt,.cells #[.int .u8 tk,.int .i64 tw,.int .u64 tm] 49)::(l11++((rb,rN ao W cap lao L.length lcap)::lr++R)))) W'.drew) HX.out fun W6 T6=>?_;have hS6:=Hk.out _ [] T6;have HT6:=uh T6;clear T6 HX;refine wp_region_noPanic ?_;refine wp_region_listed (S:=fun W'=>W'.rangeAt bt 0 [.int .u8 tk,.int .i64 tw,.int .u64 tm] /\ W'.cell? ⟨b,off+i*5+3,none⟩=some (.int .i64 cc)) 13 [false,false,false,false,false,false,false,false,false,false,false,false,false] rfl rfl (by kernel_rfl) ?_;refine tkC 0 51 hS6 (fun w' hSw=>load_mid_run 49 _ rfl bt 0 rfl [.int .u8 tk,.int .i64 tw,.int .u64 tm] _ hSw.1 underlying49 rfl hszT) ?_;refine tkA 1 52 hS6 ?_;refine tkA 2 53 hS6 ?_;refine tkA 3 54 hS6 ?_;refine tkA 4 55 hS6 ?_;refine tkA 5 56 hS6 ?_;refine tkB 6 57 hS6 (fun w hSw=>hSw.2) ?_;refine rdyA 7 (fun K hK=>?_)
     go_simp
     refine(Hsl.out _).mono ?_;rintro e W7 ⟨rfl,hB⟩;have T7:=HT6.out.call hB;have hS7:=Hk.out _ [] T7;have HT7:=uh T7;clear T7 HT6 hB hS6;refine hK.out _ _ hS7 fun _=>?_;clear hK K;simp only[st0,st1,st2];refine tkA 8 50 hS7 ?_;refine tkA 9 59 hS7 ?_;refine tkA 10 60 hS7 ?_;refine tkA 11 10 hS7 ?_;refine tkA 12 11 hS7 ?_;refine wpAnyH_done (by kernel_rfl) ?_ _;refine NoPanic.normal ?_;clear hS7 Hk;have HT8:=uh ((HT7.out.perm (l2:=((bh,.cells #[.int .u8 1,.int .i64 cb,.int .i64 cc,.int .i64 cd] 79)::(bt,.cells #[.int .u8 tk,.int .i64 tw,.int .u64 tm] 49)::l11)++((rb,rN ao W cap lao L.length lcap)::lr++R)) po).drop);clear HT7
     go_wp2_with fail
     go_ret;exact⟨rfl,HT8.out⟩
def ints (l:List Int):List Value:=l.map (Value.int .i64)
theorem ints_get {l:List Int}{i:Nat}{x:Int}(h:l[i]?= some x):(ints l)[i]?= some (.int .i64 x):=by simp[ints,h]
theorem ints_len (l:List Int):(ints l).length=l.length:=by simp[ints]
theorem cesAt_get {os:List Ce}{i:Nat}{c:Ce}(h:os[i]?= some c):(cesAt os)[i]?= some (c.1:Int):=by simp[cesAt,h]
theorem cesAt_len (os:List Ce):(cesAt os).length=os.length:=by simp[cesAt]
def sizesOf (os:List Ce):List Nat:=os.map fun c=>c.2.size
theorem sizesOf_next {os:List Ce}{i:Nat}{c:Ce}(h:os[i]?= some c):sizesOf (os.take (i+1))=sizesOf (os.take i)++[c.2.size]:=by rw[take_next h];simp[sizesOf]
theorem endOf_next {os:List Ce}{i:Nat}{c:Ce}(h:os[i]?= some c):endOf 0 (os.take (i+1))=c.1+c.2.size:=by rw[take_next h,endOf_snoc]
theorem rises_at {L:List Ty}{W:List Nat}:∀{os:List Ce} {e:Nat},rises L W e os -> ∀{i:Nat} {c:Ce},os[i]?= some c -> endOf e (os.take i) <= c.1 /\ stands L W c.1 c.2 /\ c.2.tag=1
 | d::os,e,h,0,c,hc=>by
  obtain rfl:d=c:=by simpa using hc
  exact⟨h.1,h.2.1,h.2.2.1⟩
 | d::os,e,h,i+1,c,hc=>rises_at h.2.2.2 (i:=i) (by simpa using hc)
theorem settleW_next {n:Nat}{W:List Nat}{os:List Ce}{i:Nat}{c:Ce}{e:Nat}(h:os[i]?= some c):settleW n W (os.drop i) e=settleW n (lay W e (c.1-e)) (os.drop (i+1)) (c.1+c.2.size):=by rw[drop_next h,settleW]
theorem settleW_last {n:Nat}{W:List Nat}{os:List Ce}{i:Nat}{e:Nat}(h:os.length <= i):settleW n W (os.drop i) e=lay W e (n-e):=by rw[List.drop_eq_nil_of_le h,settleW]
theorem endOf_take_le {L:List Ty}{W:List Nat}{os:List Ce}(h:rises L W 0 os):∀i,endOf 0 (os.take i) <= W.length/2
 | 0=>by rw[List.take_zero];exact Nat.zero_le _
 | i+1=>by
  cases hc:os[i]? with
  | none=>
   rw[List.take_add_one,hc];have:=endOf_take_le h i
   simpa using this
  | some c=>
   rw[endOf_next hc];exact(rises_at h hc).2.1.2.2
theorem rises_len {L:List Ty}{W:List Nat}:∀{os:List Ce} {e:Nat},rises L W e os -> e <= W.length/2 -> os.length+e <= W.length/2
 | [],e,_,h=>by simpa using h
 | c::os,e,h,_=>by
  have h1:=h.2.1.pos;have h2:=rises_len h.2.2.2 h.2.1.2.2;have h3:=h.1;simp only[List.length_cons];omega
theorem settle9 {w0:World}(w:World){rb lcap:Nat}{lao:Option Addr}{W:List Nat}{L:List Ty}{l R:List Blk}(hI:RefIs rb lao L.length lcap W l)(T:Turn [] w0 (l++R) w)(hS:Src w0 lao L.length lcap 3 (tys L))(hTy:∀t∈L,TyIn t)(hL:L.length <= 1000)(hf:W.length <= 65536)
  (hu:∀v∈W,v<18446744073709551616)(os:List Ce)(hr:rises L W 0 os)(aa:Option Addr)(acap:Nat)(hA:Src w0 aa os.length acap 1 (ints (cesAt os))):
  Calls prog 139 #[pt rb,.slice aa os.length acap] w fun e w'=>e=.returned (.int .i64 0) /\ ∃l',RefIs rb lao L.length lcap (settleW (W.length/2) W os 0) l' /\ Turn [] w0 (l'++R) w':=by
 have HI0:=uh hI;obtain⟨ao,cap,lr,hrow,rfl⟩:=hI;have hl0:=rises_len hr (Nat.zero_le _);have hzb:W.length/2 <= 32768:=by omega
 have HS0 := uh (fun w' (lr5 Y : List Blk) (V : Turn [] w0 (Y ++ (lr5 ++ ((rb, rN ao W cap lao L.length lcap) :: lr ++ R))) w') =>
         (⟨V.has.cell (b:=rb) (c:=#[.slice ao W.length cap,.slice lao L.length lcap]) (e:=109) (f:=(0,0)) (by simp) 0,V.has.cell (b:=rb) (c:=#[.slice ao W.length cap,.slice lao L.length lcap]) (e:=109) (f:=(0,0)) (by simp) 1⟩:w'.cell? ⟨rb,0,none⟩=some (.slice ao W.length cap) /\ w'.cell? ⟨rb,1,none⟩=some (.slice lao L.length lcap)))
 have Hof0:=uh (fun w' (lr5 Y:List Blk) (V:Turn [] w0 (Y++(lr5++((rb,rN ao W cap lao L.length lcap)::lr++R))) w')=>of8 w' ao cap (hrow.src (R:=(Y++lr5)++((rb,rN ao W cap lao L.length lcap)::R)) (V.has.perm po)) hf hu L hTy hL lao lcap (hS.below V.below));have hszH:=sz_head;have hszT:=sz_type;have Hr:=uh (fun i c=>rises_at hr (i:=i) (c:=c));have Hle:=uh (endOf_take_le hr);have HT:=uh T;have HA:=uh (fun(h:0<os.length) w' (hB:Below w0.heap.size w0 w')=>(hA.below hB).form (by rw[ints_len,cesAt_len];exact h));have HA0:=uh (fun(h:0<os.length)=>hA.form (by rw[ints_len,cesAt_len];exact h));clear T hS hu hrow hA
 go_enter func139,ntmps139
 go_wp2_with fail
 go_loopw [5,6,7] (fun v5 v6 v7 wr=>∃(i:Nat) (a5:Option Addr) (p5:Nat) (lr5:List Blk),i <= os.length /\ v7=.int .i64 i /\ v6=.int .i64 (endOf 0 (os.take i):Nat) /\ v5=.slice a5 i p5 /\ Row 3 1 a5 i p5 (nats (sizesOf (os.take i))) lr5 /\ Turn [] w0 (lr5++((rb,rN ao W cap lao L.length lcap)::lr++R)) wr) (fun _ _ v7 _=>os.length-(intOf v7).toNat)
 case atStart=>exact⟨0,none,0,[],Nat.zero_le _,rfl,rfl,rfl,Row.nil _ _,HT.out⟩
 case round=>
  clear HT;obtain⟨i,a5,p5,lr5,hi,rfl,rfl,rfl,hr5,T⟩:=hrel
  by_cases hlt:i<os.length
  · have hlt':(i:Int)<(os.length:Int):=by omega
    obtain⟨c,hc⟩:∃c,os[i]?= some c:=⟨os[i],List.getElem?_eq_getElem hlt⟩;obtain⟨hce,hst,hct⟩:=Hr.out i c hc;have hoq:=objq_of hst hct;have hte:=stands_ty hst hct hTy;have Hof:=uh (fun w' Y V=>Hof0.out w' lr5 Y V (c.1:Int));rw[hoq]at Hof;simp only at Hof;have Hs1:=uh (sizesOf_next hc);have He1:=uh (endOf_next hc);have hroom:=hst.2.2;have Hat0:=uh (cesAt_get hc);obtain⟨ab,aoff,rfl,hat0⟩:=HA0.out (by omega);have Hat:=uh (fun w' (hB:Below w0.heap.size w0 w')=>(hB.cell (p:=⟨ab,aoff+i,none⟩) (World.block_lt_of_cell? w0 _ (hat0 i _ (ints_get Hat0.out)))).trans (hat0 i _ (ints_get Hat0.out)));have HS:=uh (fun w' Y (V:Turn [] w0 (Y++(lr5++((rb,rN ao W cap lao L.length lcap)::lr++R))) w')=>(⟨(HS0.out w' lr5 Y V).1,(HS0.out w' lr5 Y V).2,Hat.out w' V.below⟩:w'.cell? ⟨rb,0,none⟩=some (.slice ao W.length cap) /\ w'.cell? ⟨rb,1,none⟩=some (.slice lao L.length lcap) /\ w'.cell? ⟨ab,aoff+i,none⟩=some (.int .i64 c.1)));generalize tyAt L c.2.typ=t at*;obtain⟨tk,tw,tm⟩:=t;obtain⟨cg,⟨ca,cb,cc,cd⟩⟩:=c;simp only at hct Hof HS Hat He1 Hs1 hce hroom;subst hct;have hoH:=hd_one ⟨1,cb,cc,cd⟩;have hoT:=ty_one ⟨tk,tw,tm⟩;simp only at hoH hoT;generalize endOf 0 (os.take i)=en at*;have k1:decide ((cg:Int)<(en:Int))=false:=decide_eq_false (by omega);have k2:decide (cg<en)=false:=decide_eq_false (by omega);have HT2:=uh T.drew;have Hr5:=uh hr5;have h63:i+1 <= maxLen:=(by unfold maxLen;omega);have hby:(i+1)*8 <= 140737488355328:=(by omega)
    clear T hr5 hst hoq hte hc hat0 HA HA0 Hat0
    go_upto_region 6 with fail
    refine wp_abs (fun W'=>Turn [] w0 (lr5++((rb,rN ao W cap lao L.length lcap)::lr++R)) W'.drew) HT2.out fun W1 T1=>?_;have HT1:Hid (Turn [] w0 (lr5++((rb,rN ao W cap lao L.length lcap)::lr++R)) W1.drew):=uh T1;clear T1 HT2
    apply wp_mid (I:=fun bh bt w=>Turn [] w0 ((bh,.cells #[.int .u8 1,.int .i64 cb,.int .i64 cc,.int .i64 cd] 79)::(bt,.cells #[.int .u8 tk,.int .i64 tw,.int .u64 tm] 49)::(lr5++((rb,rN ao W cap lao L.length lcap)::lr++R))) w)
    case h=>
     have hS1:=HS.out _ [] HT1.out;refine wp_region_noPanic ?_;refine wp_region_listed (S:=fun W'=>W'.cell? ⟨rb,0,none⟩=some (.slice ao W.length cap) /\ W'.cell? ⟨rb,1,none⟩=some (.slice lao L.length lcap) /\ W'.cell? ⟨ab,aoff+i,none⟩=some (.int .i64 cg)) 22 [false,false,false,false,false,false,false,false,false,false,false,false,false,false,false,false,false,false,false,false,false,false] rfl rfl (by kernel_rfl) ?_;refine tkA 0 19 hS1 ?_;refine tkA 1 20 hS1 ?_;refine tkA 2 21 hS1 ?_;refine tkB 3 22 hS1 (fun w hSw=>hSw.1) ?_;refine tkA 4 23 hS1 ?_;refine tkA 5 24 hS1 ?_;refine tkA 6 25 hS1 ?_;refine tkB 7 26 hS1 (fun w hSw=>hSw.2.1) ?_;refine tkA 8 27 hS1 ?_;refine tkA 9 28 hS1 ?_;refine tkA 10 29 hS1 ?_;refine tkB 11 30 hS1 (fun w hSw=>hSw.2.2) ?_;have T0:Turn [] w0 ([]++(lr5++((rb,rN ao W cap lao L.length lcap)::lr++R))) W1.drew:=HT1.out;clear hS1;generalize W1.drew=V0 at T0 ⊢;have HT0h:=uh T0;clear T0
     apply any_mid (I:=fun bh bt V=>Turn [] w0 ((bh,zH)::(bt,zT)::(lr5++((rb,rN ao W cap lao L.length lcap)::lr++R))) V)
     case h1=>
      intro hG;have T0:=HT0h.out;refine wpAnyH_ready (rs:=[12,17,18]) (by kernel_rfl) (by simp) (AllReadyH.cons rfl (fun K hK=>?_) (AllReadyH.cons rfl (fun K hK=>?_) (AllReadyH.cons rfl (fun K hK=>?_) AllReadyH.nil)))
      · go_simp
        refine(Hof.out _ [] T0).mono ?_;rintro e V1 ⟨rfl,hB⟩;have T1:=T0.call hB;refine hK.out _ _ (HS.out _ [] T1) fun _=>?_;clear hK K hB T0;simp only[st0,st1,st2];have hS1:=HS.out _ [] T1;refine tkA 13 18 hS1 ?_;refine tkA 14 32 hS1 ?_;refine tkA 15 33 hS1 ?_;refine tkA 16 34 hS1 ?_;clear hS1;refine wpAnyH_ready (rs:=[17,18]) (by kernel_rfl) (by simp) (AllReadyH.cons rfl (fun K hK=>?_) (AllReadyH.cons rfl (fun K hK=>?_) AllReadyH.nil))
        · go_simp
          have T2:=T1.alloc zH;refine hK.out _ _ (HS.out _ [_] T2) fun _=>?_;clear hK K T1;simp only[st0,st1,st2];generalize V1.alloc _=V2 at*;generalize V1.heap.size=bh at*;refine rdyA 18 (fun K hK=>?_)
          · go_simp
            have T3:=T2.alloc zT;refine hK.out _ _ (HS.out _ [_,_] T3) fun _=>?_;clear hK K T2;simp only[st0,st1,st2];generalize V2.alloc _=V3 at*;generalize V2.heap.size=bt at*;exact hG.out bh bt V3 (T3.perm po)
        · go_simp
          have T2:=T1.alloc zT;refine hK.out _ _ (HS.out _ [_] T2) fun _=>?_;clear hK K T1;simp only[st0,st1,st2];generalize V1.alloc _=V2 at*;generalize V1.heap.size=bt at*;refine rdyA 17 (fun K hK=>?_)
          · go_simp
            have T3:=T2.alloc zH;refine hK.out _ _ (HS.out _ [_,_] T3) fun _=>?_;clear hK K T2;simp only[st0,st1,st2];generalize V2.alloc _=V3 at*;generalize V2.heap.size=bh at*;exact hG.out bh bt V3 (T3.perm po)
      · go_simp
        have T1:=T0.alloc zH;refine hK.out _ _ (HS.out _ [_] T1) fun _=>?_;clear hK K T0;simp only[st0,st1,st2];generalize V0.alloc _=V1 at*;generalize V0.heap.size=bh at*;refine wpAnyH_ready (rs:=[12,18]) (by kernel_rfl) (by simp) (AllReadyH.cons rfl (fun K hK=>?_) (AllReadyH.cons rfl (fun K hK=>?_) AllReadyH.nil))
        · go_simp
          refine(Hof.out _ [_] T1).mono ?_;rintro e V2 ⟨rfl,hB⟩;have T2:=T1.call hB;refine hK.out _ _ (HS.out _ [_] T2) fun _=>?_;clear hK K hB T1;simp only[st0,st1,st2];have hS2:=HS.out _ [_] T2;refine tkA 13 18 hS2 ?_;refine tkA 14 32 hS2 ?_;refine tkA 15 33 hS2 ?_;refine tkA 16 34 hS2 ?_;clear hS2;refine rdyA 18 (fun K hK=>?_)
          · go_simp
            have T3:=T2.alloc zT;refine hK.out _ _ (HS.out _ [_,_] T3) fun _=>?_;clear hK K T2;simp only[st0,st1,st2];generalize V2.alloc _=V3 at*;generalize V2.heap.size=bt at*;exact hG.out bh bt V3 (T3.perm po)
        · go_simp
          have T2:=T1.alloc zT;refine hK.out _ _ (HS.out _ [_,_] T2) fun _=>?_;clear hK K T1;simp only[st0,st1,st2];generalize V1.alloc _=V2 at*;generalize V1.heap.size=bt at*;refine rdyA 12 (fun K hK=>?_)
          · go_simp
            refine(Hof.out _ [_,_] T2).mono ?_;rintro e V3 ⟨rfl,hB⟩;have T3:=T2.call hB;refine hK.out _ _ (HS.out _ [_,_] T3) fun _=>?_;clear hK K hB T2;simp only[st0,st1,st2];have hS3:=HS.out _ [_,_] T3;refine tkA 13 18 hS3 ?_;refine tkA 14 32 hS3 ?_;refine tkA 15 33 hS3 ?_;refine tkA 16 34 hS3 ?_;clear hS3;exact hG.out bh bt V3 (T3.perm po)
      · go_simp
        have T1:=T0.alloc zT;refine hK.out _ _ (HS.out _ [_] T1) fun _=>?_;clear hK K T0;simp only[st0,st1,st2];generalize V0.alloc _=V1 at*;generalize V0.heap.size=bt at*;refine wpAnyH_ready (rs:=[12,17]) (by kernel_rfl) (by simp) (AllReadyH.cons rfl (fun K hK=>?_) (AllReadyH.cons rfl (fun K hK=>?_) AllReadyH.nil))
        · go_simp
          refine(Hof.out _ [_] T1).mono ?_;rintro e V2 ⟨rfl,hB⟩;have T2:=T1.call hB;refine hK.out _ _ (HS.out _ [_] T2) fun _=>?_;clear hK K hB T1;simp only[st0,st1,st2];have hS2:=HS.out _ [_] T2;refine tkA 13 18 hS2 ?_;refine tkA 14 32 hS2 ?_;refine tkA 15 33 hS2 ?_;refine tkA 16 34 hS2 ?_;clear hS2;refine rdyA 17 (fun K hK=>?_)
          · go_simp
            have T3:=T2.alloc zH;refine hK.out _ _ (HS.out _ [_,_] T3) fun _=>?_;clear hK K T2;simp only[st0,st1,st2];generalize V2.alloc _=V3 at*;generalize V2.heap.size=bh at*;exact hG.out bh bt V3 (T3.perm po)
        · go_simp
          have T2:=T1.alloc zH;refine hK.out _ _ (HS.out _ [_,_] T2) fun _=>?_;clear hK K T1;simp only[st0,st1,st2];generalize V1.alloc _=V2 at*;generalize V1.heap.size=bh at*;refine rdyA 12 (fun K hK=>?_)
          · go_simp
            refine(Hof.out _ [_,_] T2).mono ?_;rintro e V3 ⟨rfl,hB⟩;have T3:=T2.call hB;refine hK.out _ _ (HS.out _ [_,_] T3) fun _=>?_;clear hK K hB T2;simp only[st0,st1,st2];have hS3:=HS.out _ [_,_] T3;refine tkA 13 18 hS3 ?_;refine tkA 14 32 hS3 ?_;refine tkA 15 33 hS3 ?_;refine tkA 16 34 hS3 ?_;clear hS3;exact hG.out bh bt V3 (T3.perm po)
     case h2=>
      intro bh bt V0 U0;refine rdyA 19 (fun K hK=>?_);have hth0:=U0.there1;have U1:=U0.laid [.int .u8 1,.int .i64 cb,.int .i64 cc,.int .i64 cd] rfl;refine step_store rfl rfl 79 _ _ rfl _ 0 #[.int .u8 1,.int .i64 cb,.int .i64 cc,.int .i64 cd] rfl rfl hth0 hszH hoH ?_;refine hK.out _ _ (HS.out _ [_,_] U1) fun _=>?_;clear hK K hth0;simp only[st0,st1,st2];generalize V0.setCells bh 0 _=V9 at*;refine rdyA 20 (fun K hK=>?_);have hth1:=U1.there2;have U2:=U1.laid2 [.int .u8 tk,.int .i64 tw,.int .u64 tm] rfl;refine step_store rfl rfl 49 _ _ rfl _ 0 #[.int .u8 tk,.int .i64 tw,.int .u64 tm] rfl rfl hth1 hszT hoT ?_;refine hK.out _ _ (HS.out _ [_,_] U2) fun _=>?_;clear hK K hth1;simp only[st0,st1,st2];have hSz:=HS.out _ [_,_] U2;refine tkA 21 10 hSz ?_;clear hSz;refine wpAnyH_done (by kernel_rfl) ?_ _;refine NoPanic.normal ?_;exact⟨rfl,bh,bt,rfl,U2⟩
    case hq=>
     intro bh bt w5 T5;have c3:=T5.cell1 3;have hat:=Hat.out w5 T5.below;have HT5:=uh T5;clear T5 HS Hof
     go_wp2_with (first
      | (at_builtin;refine wpList_append_row rfl _ _ rfl el_int rfl Hr5.out (R:=(w5.heap.size,.cells #[.int .i64 cd] 3)::(bh,.cells #[.int .u8 1,.int .i64 cb,.int .i64 cc,.int .i64 cd] 79)::(bt,.cells #[.int .u8 tk,.int .i64 tw,.int .u64 tm] 49)::((rb,rN ao W cap lao L.length lcap)::lr++R)) ((HT5.out.alloc (.cells #[.int .i64 cd] 3)).perm po).has rfl (news:=[.int .i64 cd]) rfl (news_of (heap_alloc_new _ _)) (by simp[Value.oneCell']) h63 hby ?_;intro a9 p9 l9 w9 hr9 V9 hno;have HT9:=uh (((HT5.out.alloc (.cells #[.int .i64 cd] 3)).perm (l2:=lr5++((w5.heap.size,.cells #[.int .i64 cd] 3)::(bh,.cells #[.int .u8 1,.int .i64 cb,.int .i64 cc,.int .i64 cd] 79)::(bt,.cells #[.int .u8 tk,.int .i64 tw,.int .u64 tm] 49)::((rb,rN ao W cap lao L.length lcap)::lr++R))) po).trans V9);have Hr9:=uh hr9;clear hr9 V9 hno)
      | fail)
     have hat9:=Hat.out _ HT9.out.below;have c39:w9.cell? ⟨bh,3,none⟩=some (.int .i64 cd):=HT9.out.has.cell (b:=bh) (c:=#[.int .u8 1,.int .i64 cb,.int .i64 cc,.int .i64 cd]) (e:=79) (f:=(0,0)) (by simp) 3;have HT8:=uh ((HT9.out.perm (l2:=[(w5.heap.size,.cells #[.int .i64 cd] 3),(bh,.cells #[.int .u8 1,.int .i64 cb,.int .i64 cc,.int .i64 cd] 79),(bt,.cells #[.int .u8 tk,.int .i64 tw,.int .u64 tm] 49)]++(l9++((rb,rN ao W cap lao L.length lcap)::lr++R))) po).drop);clear HT9 HT5 c3 hat
     go_quiet (fail)
     go_wp2_with fail
     go_roundw
     case rel=>exact⟨i+1,a9,p9,l9,by omega,by go_num,by rw[He1.out];go_num,rfl,by rw[Hs1.out,nats_append];exact Hr9.out,HT8.out.drewN _⟩
     case measure=>simp[intOf];omega
  · obtain rfl:i=os.length:=by omega
    have hnl:¬((os.length:Nat):Int)<(os.length:Int):=(by omega);rw[List.take_length]at hr5;have HT2:=uh (T.perm (l2:=((rb,rN ao W cap lao L.length lcap)::lr)++(lr5++R)) po);have Hr5:=uh hr5;have hdiv:((W.length:Int)).tdiv 2=((W.length/2:Nat):Int):=tdiv_nat _ 2;have hdiv2:(W.length:Int)/2=((W.length/2:Nat):Int):=(by omega);have HSz:=uh (fun(h:0<os.length) w' (lj:List Blk) (V:Turn [] w0 (lj++(lr5++R)) w')=>(hr5.src (R:=lj++R) (V.has.perm po)).form (by rw[nats_length];unfold sizesOf;simpa using h));have HSz0:=uh (fun(h:0<os.length)=>(hr5.src (R:=((rb,rN ao W cap lao L.length lcap)::lr)++R) (HT2.out.has.perm po)).form (by rw[nats_length];unfold sizesOf;simpa using h));clear T hr5 hi hlt
    go_wp2_with fail
    go_loopw [6,11] (fun v6 v11 wr=>∃(j en:Nat) (Wj:List Nat) (lj:List Blk),j <= os.length /\ v11=.int .i64 j /\ v6=.int .i64 en /\ en=endOf 0 (os.take j) /\ settleW (W.length/2) Wj (os.drop j) en=settleW (W.length/2) W os 0 /\ Wj.length=W.length /\ RefIs rb lao L.length lcap Wj lj /\ Turn [] w0 (lj++(lr5++R)) wr) (fun _ v11 _=>os.length-(intOf v11).toNat)
    case atStart=>exact⟨0,0,W,(rb,rN ao W cap lao L.length lcap)::lr,Nat.zero_le _,by go_num,by go_num,rfl,rfl,rfl,HI0.out,HT2.out⟩
    case round=>
     clear HT2;obtain⟨j,en,Wj,lj,hj,rfl,rfl,hen,hsw,hwl,hIj,T⟩:=hrel
     by_cases hlt:j<os.length
     · have hlt':(j:Int)<(os.length:Int):=by omega
       obtain⟨c,hc⟩:∃c,os[j]?= some c:=⟨os[j],List.getElem?_eq_getElem hlt⟩;obtain⟨hce,hst,hct⟩:=Hr.out j c hc;rw[←hen]at hce;have hroom:=hst.2.2;have hpos:=hst.pos;rw[settleW_next hc]at hsw;have He1:=uh (endOf_next hc);obtain⟨ab,aoff,rfl,hat0⟩:=HA0.out (by omega);have Hat:=uh (fun w' (hB:Below w0.heap.size w0 w')=>(hB.cell (p:=⟨ab,aoff+j,none⟩) (World.block_lt_of_cell? w0 _ (hat0 j _ (ints_get (cesAt_get hc))))).trans (hat0 j _ (ints_get (cesAt_get hc))));obtain⟨sb,soff,rfl,-⟩:=HSz0.out (by omega);have hsz1:(nats (sizesOf os))[j]?= some (.int .i64 c.2.size):=(by simp[nats,sizesOf,hc]);have Hsj:=uh (fun w' (lj:List Blk) (V:Turn [] w0 (lj++(lr5++R)) w')=>((Hr5.out.src (R:=lj++R) (V.has.perm po)).at_ _ rfl j _ hsz1));have HL:=uh (lay9 wr hIj T (by rw[hwl];exact hf) en (c.1-en) (by rw[hwl];omega));have hsub:(c.1:Int)-(en:Int)=((c.1-en:Nat):Int):=(by omega);have hat:=Hat.out _ T.below;have Hsw:=uh hsw;obtain⟨cg,⟨ca,cb,cc,cd⟩⟩:=c;simp only at hsub hat Hsw HL He1 hroom hce Hsj Hat;have HWl:=uh hwl;clear hc hst hct hIj T hsw hat0 hsz1 HSz HSz0 HA HA0 hwl hen hpos
       go_wp2_with fail
       refine HL.out.mono ?_;rintro e w5 ⟨⟨u,rfl⟩,l5,hI5,T5⟩;have hat:=Hat.out _ T5.below;have hsj:=Hsj.out _ _ T5;rw[add_lit]at hsj;have HT5:=uh T5;have HI5:=uh hI5;clear T5 hI5 HL Hat Hsj
       go_wp2_with fail
       go_quiet (fail)
       go_wp2_with fail
       go_roundw
       case rel=>exact⟨j+1,cg+cd,_,l5,by omega,by go_num,by go_num,He1.out.symm,Hsw.out,by rw[lay_len];exact HWl.out,HI5.out,HT5.out.drewN _⟩
       case measure=>simp[intOf];omega
     · obtain rfl:j=os.length:=by omega
       rw[settleW_last (Nat.le_refl _)]at hsw;have hb:=Hle.out os.length;rw[←hen]at hb;have HL:=uh (lay9 wr hIj T (by rw[hwl];exact hf) en (W.length/2-en) (by rw[hwl];omega));rw[hsw]at HL;obtain⟨aj,pj,lj',hrj,rfl⟩:=hIj;have c0:wr.cell? ⟨rb,0,none⟩=some (.slice aj Wj.length pj):=T.cell1 0;rw[hwl]at c0;have hsub:((W.length/2:Nat):Int)-(en:Int)=((W.length/2-en:Nat):Int):=(by omega);clear hrj T hsw hen hwl Hle;obtain⟨z,hz⟩:∃z:Nat,W.length/2=z:=⟨_,rfl⟩;rw[hz]at hdiv hdiv2 hsub HL hb hzb ⊢;have HZ:=uh hz;clear hz
       go_wp2_with fail
       refine HL.out.mono ?_;rintro e w5 ⟨⟨u,rfl⟩,l5,hI5,T5⟩;have HT5:=uh ((T5.perm (l2:=lr5++(l5++R)) po).drop);have HI5:=uh hI5;clear T5 hI5 HL c0
       go_wp2_with fail
       go_ret;exact⟨rfl,l5,by rw[HZ.out];exact HI5.out,HT5.out⟩
def SpIs (sb tb:Nat)(W B:List Nat)(l:List Blk):Prop:=
 ∃a aw bb,∃(n:Int) (lb:List Blk),BitIs bb B (W.length/2) lb /\ l=arBlks a aw W n++(spBlk sb a tb bb::lb)
theorem snew (w:World)(hF:Fields w)(tb n:Nat)(h:mayWords n):
  Calls prog 48 #[.int .i64 n,pt tb] w fun e w'=>∃sb l,e=.returned (.tuple #[pt sb,.int .i64 0]) /\ SpIs sb tb (lay (List.replicate n 0) 0 (n/2)) (List.replicate ((n/2+63)/64) 0) l /\ Turn [] w l w':=by
 have⟨h1,h2,h3⟩:=h;have Ha:=uh (anew w n h);have Hb:=uh (fun w'=>bnew w' (n/2) (by omega));have HF:=uh (fun w' (hB:Below w.heap.size w w')=>range_below hF hB);have hdiv:((n:Int)).tdiv 2=((n/2:Nat):Int):=tdiv_nat _ 2;have hdiv2:(n:Int)/2=((n/2:Nat):Int):=by omega
 have hl0:(List.replicate n 0).length=n:=List.length_replicate;have Hl0:=uh hl0;have hll:(lay (List.replicate n 0) 0 (n/2)).length=n:=by rw[lay_len];exact hl0
 have Hll:=uh hll;have hsm:n <= 65536:=by omega
 obtain⟨z,hz⟩:∃z:Nat,n/2=z:=⟨_,rfl⟩;rw[hz]at hdiv hdiv2 Hb Hll ⊢;have HZ:=uh hz;clear hF h h1 h2 h3 hl0 hll hz
 go_enter func48,ntmps48
 go_wp2_with fail
 refine Ha.out.mono ?_;rintro e w1 ⟨a,aw,rfl,T1⟩;have HT1:=uh T1;clear T1 Ha
 go_wp2_with fail
 refine(Hb.out _).mono ?_;rintro e w2 ⟨bb,lb,rfl,hb,T2⟩;have HT2:=uh (HT1.out.grow T2);have HBi:=uh hb;clear T2 hb Hb HT1;have HT3:=uh ((HT2.out.alloc (.cells #[pt a,pt tb,pt bb] 146)).perm (l2:=arBlks a aw (List.replicate n 0) 0++(spBlk w2.heap.size a tb bb::lb)) (perm_of fun c=>by simp[spBlk];omega));clear HT2;have hcs:(w2.alloc (.cells #[pt a,pt tb,pt bb] 146)).cell? ⟨w2.heap.size,0,none⟩=some (pt a):=HT3.out.has.cell (b:=w2.heap.size) (c:=#[pt a,pt tb,pt bb]) (e:=146) (f:=(0,0)) (by simp[spBlk]) 0;have HG:=uh (sgran _ hcs (arBlks_at HT3.out.has (by rw[Hl0.out];exact hsm)) (by rw[Hl0.out];exact hsm));have HL:=uh (sgap _ (HF.out _ HT3.out.below) HT3.out (List.mem_cons_self ..) (by rw[Hl0.out];exact hsm) 0 z (by rw[Hl0.out];have:=HZ.out;omega));rw[Hl0.out,HZ.out]at HG;clear hcs HF
 go_wp2_with fail
 refine HG.out.mono ?_;rintro e w4 ⟨rfl,rfl⟩;clear HG
 go_wp2_with fail
 refine HL.out.mono ?_;rintro e w5 ⟨⟨u,rfl⟩,c',T5⟩;have HT5:=uh T5;clear T5 HL HT3
 go_wp2_with fail
 refine bodyPost_ret (results_tmp2 rfl _ _ _) rfl ?_;exact⟨_,_,rfl,⟨a,aw,bb,c',lb,by rw[Hll.out,HZ.out];exact HBi.out,rfl⟩,HT5.out⟩
end
section
open Go Go.RowKit
section
variable {F:Fence} {n:Nat} {P:Program} {ops:Array Oper} {Q:Exit -> Act -> World -> Prop} {md:Region.Mode} {S:World -> Prop}
def YieldsHI (P:Program)(ops:Array Oper)(S:World -> Prop)(o:Oper)(v:Value)(a:Act):Prop:=YieldsIf P ops S o v a /\ ∀w,o.about P w a.eval=none
theorem YieldsHI.go {i:Nat}{o:Oper}{v:Value}{a:Act}(hro:F.round=none)(hi:ops[i]?= some o)(hy:YieldsHI P ops S o v a)
  {K:Act -> World -> Prop}{w:World}(hS:S w)(h:K (a.put o.dst v) w):wpOpIn F n P ops Q i K a w:=by
 unfold wpOpIn;simp only[hi];have hab:∀f,o.about P w a.eval=some f -> F.fn f:=fun f hf=>by rw[hy.2 w]at hf;cases hf
 rcases hy.1 with⟨hw,hv⟩|⟨hw,rfl⟩
 ·simp only[hw,if_true,Oper.wpIn,hro,Oper.semAt_none,hv w hS,Oper.uponIn];exact⟨hab,h⟩
 ·simp only[hw,Bool.false_eq_true,if_false];exact⟨hab,h⟩
theorem YieldsHI.of_same {o:Oper}{v:Value}{a a':Act}(hy:YieldsHI P ops S o v a)(he:execOp a'.eval o=execOp a.eval o)
  (hw:Region.wanted o (yielded ops a'.tmps)=Region.wanted o (yielded ops a.tmps))(hb:∀w,o.about P w a'.eval=o.about P w a.eval):YieldsHI P ops S o v a':=
 ⟨hy.1.of_same he hw,fun w=>by rw[hb w];exact hy.2 w⟩
theorem wpOpIn_putHI {j:Nat}{oi oj:Oper}{v:Value}(hro:F.round=none)(hj:ops[j]?= some oj)(hap:oi.apart ops oj=true)
  (hsi:∀cs b,oi.op≠ .select cs b)(hsj:∀cs b,oj.op≠ .select cs b)
  (hQ:∀c a w,Q (.panic c) (a.put oi.dst v) w -> Q (.panic c) a w){K:Act -> World -> Prop}{a:Act}{w:World}
  (hy:YieldsHI P ops S oi v a)(h:wpOpIn F n P ops Q j K (a.put oi.dst v) w):
  wpOpIn F n P ops Q j (fun a' w'=>YieldsHI P ops S oi v a' /\ K (a'.put oi.dst v) w') a w:=by
 obtain⟨h1,h2,h3⟩:=Oper.apart_spec hap
 have keep:∀(a:Act),YieldsHI P ops S oi v a -> ∀u,YieldsHI P ops S oi v (a.put oj.dst u):=fun a hy u=>
  hy.of_same (execOp_put oi hsi a oj.dst u h3) (wanted_put oi a oj.dst u h3) (fun w=>about_put oi w a oj.dst u h3)
 have keepD:∀d,YieldsHI P ops S oi v { a with defers:=d::a.defers }:=fun d=>hy.of_same rfl rfl (fun _=>rfl);unfold wpOpIn at*;simp only[hj]at*;rw[wanted_put oj a oi.dst v h1,about_put oj w a oi.dst v h1]at h
 split
 · rename_i hw
   simp only[hw,if_true]at h;unfold Oper.wpIn at*;rw[about_put oj w a oi.dst v h1]at h;refine⟨h.1,?_⟩;have h:=h.2;rw[hro,Oper.semAt_none,execOp_put oj hsj a oi.dst v h1]at h;rw[hro,Oper.semAt_none];generalize(execOp a.eval oj).run P w=r at*
   cases r with
   | ok x w'=>
    cases x<;>simp only[Oper.uponIn]at h ⊢
    case value u=>exact⟨keep a hy u,by rw[←Act.put_comm a v u h2];exact h⟩
    case skip=>exact⟨keep a hy _,by rw[←Act.put_comm a v undef h2];exact h⟩
    case defer d=>
     refine⟨keep _ (keepD d) _,?_⟩;rw[←Act.put_comm _ v undef h2,←Act.put_defers];exact h
    case enter f args=>
     refine⟨h.1,CallsIn.mono h.2 fun e w'' he=>?_⟩
     cases e with
     | returned u=>exact⟨keep a hy u,by rw[←Act.put_comm a v u h2];exact he⟩
     | panicked c=>exact hQ _ _ _ he
     | outgrown=>exact he
    case row row args=>exact⟨h.1,RowsIn.mono h.2 fun u w'' he=>⟨keep a hy u,by rw[←Act.put_comm a v u h2];exact he⟩⟩
    case round l f tmps assign body=>
     refine⟨h.1,RoundIn.mono h.2 fun e w'' he=>?_⟩
     cases e with
     | returned u=>exact⟨keep a hy u,by rw[←Act.put_comm a v u h2];exact he⟩
     | panicked c=>exact hQ _ _ _ he
     | outgrown=>exact he
   | halt x w'=>
    cases x<;>simp only[Oper.uponIn]at h ⊢
    case panic u=>exact hQ _ _ _ h
 · rename_i hw
   simp only[hw]at h;exact⟨h.1,keep a hy _,by rw[←Act.put_comm a v undef h2];exact h.2⟩
def wpAnyHI (F:Fence)(n:Nat)(P:Program)(md:Region.Mode)(ops:Array Oper)(Q:Exit -> Act -> World -> Prop)(S:World -> Prop):Nat -> Array Bool -> Act -> World -> Prop
 | 0,listed,a,w=>Region.ready md ops listed=[] /\ Q .normal a w
 | fuel+1,listed,a,w=>
  (Region.ready md ops listed=[] -> Q .normal a w) /\
  ∀i∈Region.ready md ops listed,wpOpIn F n P ops Q i (fun a' w'=>S w' /\ wpAnyHI F n P md ops Q S fuel (listed.setIfInBounds i true) a' w') a w
theorem wpAnyIn_of_heldHI:∀(fuel:Nat) (listed:Array Bool) (a:Act) (w:World),wpAnyHI F n P md ops Q S fuel listed a w -> wpAnyIn F n P md ops Q fuel listed a w
 | 0,_,_,_,h=>h
 | fuel+1,_,_,_,h=>⟨h.1,fun i hi=>wpOpIn_mono (fun a' w' h'=>wpAnyIn_of_heldHI fuel _ a' w' h'.2) (h.2 i hi)⟩
theorem wpAnyHI_first {i:Nat}{oi:Oper}{v:Value}(hro:F.round=none)(hi:ops[i]?= some oi)(hsel:∀(j:Nat) (o:Oper) cs b,ops[j]?= some o -> o.op≠ .select cs b)
  (hQ:∀c a w,Q (.panic c) (a.put oi.dst v) w -> Q (.panic c) a w):
  ∀(fuel:Nat) (listed:Array Bool) (a:Act) (w:World),
   (∀j oj,ops[j]?= some oj -> j≠i -> listed.getD j true=false -> (∀e∈oj.after,Region.binds md e=true -> e.on≠i) -> oi.apart ops oj=true) ->
   i∈Region.ready md ops listed -> YieldsHI P ops S oi v a -> S w ->
   wpAnyHI F n P md ops Q S fuel (listed.setIfInBounds i true) (a.put oi.dst v) w -> wpAnyHI F n P md ops Q S (fuel+1) listed a w:=by
 intro fuel
 induction fuel with
 | zero=>
  intro listed a w _ hr hy hS H;refine⟨fun h=>(by rw[h]at hr;cases hr),fun j hj=>?_⟩
  by_cases hji:j=i
  ·subst hji;exact hy.go hro hi hS ⟨hS,H⟩
  · have:=ready_mono hj hji
    rw[H.1]at this
    cases this
 | succ fuel ih=>
  intro listed a w hfree hr hy hS H;refine⟨fun h=>(by rw[h]at hr;cases hr),fun j hj=>?_⟩
  by_cases hji:j=i
  ·subst hji;exact hy.go hro hi hS ⟨hS,H⟩
  · have h1:=H.2 j (ready_mono hj hji)
    obtain⟨hjun,oj,hoj,hall⟩:=mem_ready.1 hj
    have hnot:∀e∈oj.after,Region.binds md e=true -> e.on≠i:=fun e he hb heq=>by
     have h1:=hall e he hb;have h0:=(mem_ready.1 hr).1;rw[heq]at h1;rcases Nat.lt_or_ge i listed.size with h'|h'
     ·simp[h']at h0 h1;rw[h0]at h1;cases h1
     ·simp[Array.getElem?_eq_none h']at h1
    have h2:=wpOpIn_putHI hro hoj (hfree j oj hoj hji hjun hnot) (fun cs b=>hsel i oi cs b hi) (fun cs b=>hsel j oj cs b hoj) hQ hy h1
    have hfree':∀k ok,ops[k]?= some ok -> k≠i -> (listed.setIfInBounds j true).getD k true=false ->
      (∀e∈ok.after,Region.binds md e=true -> e.on≠i) -> oi.apart ops ok=true:=fun k ok hk hki hun hno=>by
     refine hfree k ok hk hki ?_ hno
     by_cases hjk:j=k
     ·subst hjk;exact hjun
     ·rw[getD_set_ne true hjk]at hun;exact hun
    refine wpOpIn_mono (fun a' w' h3=>⟨h3.2.1,ih (listed.setIfInBounds j true) a' w' hfree' (ready_mono hr (Ne.symm hji)) h3.1 h3.2.1 ?_⟩) h2;rw[Array.setIfInBounds_comm _ _ hji];exact h3.2.2
theorem wpIn_region_listedHI {id:Nat}{a:Act}{w:World}(k:Nat)(L:List Bool)(hk:ops.size=k)(hL:(Array.replicate k false).toList=L)(hm:P.follows .mixedOrders=true)
  (h:wpAnyHI F n P .any ops Q S k L.toArray a w.drew):(Code.region id ops true).wpIn F n P Q a w:=by
 subst hk;subst hL;exact wpIn_region_any hm (wpAnyIn_of_heldHI _ _ _ _ h)
theorem takeGI {fuel:Nat}{w:World}(i d:Nat){oi:Oper}{v:Value}{L:List Bool}{ts:List Value}{ds:List Deferred}(hro:F.round=none)(hi:ops[i]?= some oi)(hdst:oi.dst=some d)(hw:Region.wanted oi (yielded ops ts.toArray)=true)
  (hs:Region.noSelect ops=true)(hf:Region.free md ops L.toArray i=true)(hr:(Region.ready md ops L.toArray).contains i=true)
  (hQ:∀c (a:Act) v w,Q (.panic c) (a.put (some d) v) w -> Q (.panic c) a w)(hS:S w)(hab:∀w,oi.about P w (Act.eval { tmps:=ts.toArray,defers:=ds })=none)
  (hy:∀w,S w -> (execOp (Act.eval { tmps:=ts.toArray,defers:=ds }) oi).run P w=.ok (.value v) w)
  (h:wpAnyHI F n P md ops Q S fuel (L.set i true).toArray { tmps:=(ts.set d v).toArray,defers:=ds } w):wpAnyHI F n P md ops Q S (fuel+1) L.toArray { tmps:=ts.toArray,defers:=ds } w:=by
 refine wpAnyHI_first hro hi (Region.noSelect_spec hs) (fun c a w h=>hQ c a v w (by rw[←hdst];exact h)) fuel _ _ _ (Region.free_spec hi hf) (by simpa using hr) ⟨Or.inl ⟨hw,hy⟩,hab⟩ hS ?_
 simpa [Act.put,hdst]using h
theorem takeSI {fuel:Nat}{w:World}(i d:Nat){oi:Oper}{L:List Bool}{ts:List Value}{ds:List Deferred}(hro:F.round=none)(hi:ops[i]?= some oi)(hdst:oi.dst=some d)(hw:Region.wanted oi (yielded ops ts.toArray)=false)
  (hs:Region.noSelect ops=true)(hf:Region.free md ops L.toArray i=true)(hr:(Region.ready md ops L.toArray).contains i=true)
  (hQ:∀c (a:Act) v w,Q (.panic c) (a.put (some d) v) w -> Q (.panic c) a w)(hS:S w)(hab:∀w,oi.about P w (Act.eval { tmps:=ts.toArray,defers:=ds })=none)
  (h:wpAnyHI F n P md ops Q S fuel (L.set i true).toArray { tmps:=(ts.set d undef).toArray,defers:=ds } w):wpAnyHI F n P md ops Q S (fuel+1) L.toArray { tmps:=ts.toArray,defers:=ds } w:=by
 refine wpAnyHI_first hro hi (Region.noSelect_spec hs) (fun c a w h=>hQ c a undef w (by rw[←hdst];exact h)) fuel _ _ _ (Region.free_spec hi hf) (by simpa using hr) ⟨Or.inr ⟨hw,rfl⟩,hab⟩ hS ?_
 simpa [Act.put,hdst]using h
theorem wpAnyHI_done {listed:Array Bool}{a:Act}{w:World}(hr:Region.ready md ops listed=[])(h:Q .normal a w):
  ∀fuel,wpAnyHI F n P md ops Q S fuel listed a w
 | 0=>⟨hr,h⟩
 | _+1=>⟨fun _=>h,by rw[hr];simp⟩
theorem wpAnyHI_call {i:Nat}{o:Oper}{fuel:Nat}{listed:Array Bool}{a:Act}{w:World}(hr:Region.ready md ops listed=[i])(ho:ops[i]?= some o)
  (h:∀K':Act -> World -> Prop,Shut (∀a w,S w -> wpAnyHI F n P md ops Q S fuel (listed.setIfInBounds i true) a w -> K' a w) -> if Region.wanted o (yielded ops a.tmps)=true then Oper.wpIn F n P o a w K' Q else(∀f,o.about P w a.eval=some f -> F.fn f) /\ K' (a.put o.dst undef) w):
  wpAnyHI F n P md ops Q S (fuel+1) listed a w:=by
 refine⟨fun h0=>(by rw[hr]at h0;cases h0),fun j hj=>?_⟩;rw[hr]at hj;obtain rfl:j=i:=by simpa using hj
 exact wpOpIn_step ho (fun K' hK=>h K' (fun a w hS hW=>hK a w ⟨hS,hW⟩))
theorem wpAnyHI_two {i j:Nat}{oi oj:Oper}{fuel:Nat}{listed:Array Bool}{a:Act}{w:World}(hr:Region.ready md ops listed=[i,j])(hi:ops[i]?= some oi)(hj:ops[j]?= some oj)
  (h:∀K':Act -> World -> Prop,Shut (∀a w,S w -> wpAnyHI F n P md ops Q S fuel (listed.setIfInBounds i true) a w -> K' a w) -> if Region.wanted oi (yielded ops a.tmps)=true then Oper.wpIn F n P oi a w K' Q else(∀f,oi.about P w a.eval=some f -> F.fn f) /\ K' (a.put oi.dst undef) w)
  (h':∀K':Act -> World -> Prop,Shut (∀a w,S w -> wpAnyHI F n P md ops Q S fuel (listed.setIfInBounds j true) a w -> K' a w) -> if Region.wanted oj (yielded ops a.tmps)=true then Oper.wpIn F n P oj a w K' Q else(∀f,oj.about P w a.eval=some f -> F.fn f) /\ K' (a.put oj.dst undef) w):
  wpAnyHI F n P md ops Q S (fuel+1) listed a w:=by
 refine⟨fun h0=>(by rw[hr]at h0;cases h0),fun x hx=>?_⟩;rw[hr]at hx;rcases List.mem_cons.1 hx with rfl|hx
 ·exact wpOpIn_step hi (fun K' hK=>h K' (fun a w hS hW=>hK a w ⟨hS,hW⟩))
 · obtain rfl:x=j:=by simpa using hx
   exact wpOpIn_step hj (fun K' hK=>h' K' (fun a w hS hW=>hK a w ⟨hS,hW⟩))
end
section
variable {F:Fence} {n:Nat} {P:Program} {ops:Array Oper} {Q:Exit -> Act -> World -> Prop} {md:Region.Mode} {S:World -> Prop}
theorem tkI {fuel:Nat}{w:World}(i d:Nat){oi:Oper}{v:Value}{L:List Bool}{ts:List Value}{ds:List Deferred}(hro:F.round=none)(hS:S w){L2:List Bool}{ts2:List Value}(h:wpAnyHI F n P md ops Q S fuel L2.toArray { tmps:=ts2.toArray,defers:=ds } w)
  (hi:ops[i]?= some oi:=by rfl)(hdst:oi.dst=some d:=by rfl)(hw:Region.wanted oi (yielded ops ts.toArray)=true:=by rfl)
  (hs:Region.noSelect ops=true:=by kernel_rfl)(hf:Region.free md ops L.toArray i=true:=by kernel_rfl)(hr:(Region.ready md ops L.toArray).contains i=true:=by kernel_rfl)
  (hQ:∀c (a:Act) v w,Q (.panic c) (a.put (some d) v) w -> Q (.panic c) a w:=by exact fun _ _ _ _ h=>h)(hab:∀w,oi.about P w (Act.eval { tmps:=ts.toArray,defers:=ds })=none:=by exact fun _=>rfl)
  (hy:∀w,S w -> (execOp (Act.eval { tmps:=ts.toArray,defers:=ds }) oi).run P w=.ok (.value v) w:=by intro w hSw;clear hSw;go_simp;try rfl)
  (hL:L.set i true=L2:=by simp only[st1,st2];try exact rfl)(ht:ts.set d v=ts2:=by simp only[st1,st2];try exact rfl):
  wpAnyHI F n P md ops Q S (fuel+1) L.toArray { tmps:=ts.toArray,defers:=ds } w:=takeGI i d hro hi hdst hw hs hf hr hQ hS hab hy (by rw[hL,ht];exact h)
theorem tkJ {fuel:Nat}{w:World}{C:World -> Prop}(i d:Nat){oi:Oper}{v:Value}{L:List Bool}{ts:List Value}{ds:List Deferred}(hro:F.round=none)(hS:S w)(hC:∀w,S w -> C w){L2:List Bool}{ts2:List Value}(h:wpAnyHI F n P md ops Q S fuel L2.toArray { tmps:=ts2.toArray,defers:=ds } w)
  (hi:ops[i]?= some oi:=by rfl)(hdst:oi.dst=some d:=by rfl)(hw:Region.wanted oi (yielded ops ts.toArray)=true:=by rfl)
  (hs:Region.noSelect ops=true:=by kernel_rfl)(hf:Region.free md ops L.toArray i=true:=by kernel_rfl)(hr:(Region.ready md ops L.toArray).contains i=true:=by kernel_rfl)
  (hQ:∀c (a:Act) v w,Q (.panic c) (a.put (some d) v) w -> Q (.panic c) a w:=by exact fun _ _ _ _ h=>h)(hab:∀w,oi.about P w (Act.eval { tmps:=ts.toArray,defers:=ds })=none:=by exact fun _=>rfl)
  (hy:∀w,C w -> (execOp (Act.eval { tmps:=ts.toArray,defers:=ds }) oi).run P w=.ok (.value v) w:=by intro w hc;go_simp;try rfl)
  (hL:L.set i true=L2:=by simp only[st1,st2];try exact rfl)(ht:ts.set d v=ts2:=by simp only[st1,st2];try exact rfl):
  wpAnyHI F n P md ops Q S (fuel+1) L.toArray { tmps:=ts.toArray,defers:=ds } w:=takeGI i d hro hi hdst hw hs hf hr hQ hS hab (fun w hw=>hy w (hC w hw)) (by rw[hL,ht];exact h)
theorem tkT {fuel:Nat}{w:World}(i d:Nat){oi:Oper}{L:List Bool}{ts:List Value}{ds:List Deferred}(hro:F.round=none)(hS:S w){L2:List Bool}{ts2:List Value}(h:wpAnyHI F n P md ops Q S fuel L2.toArray { tmps:=ts2.toArray,defers:=ds } w)
  (hi:ops[i]?= some oi:=by rfl)(hdst:oi.dst=some d:=by rfl)(hw:Region.wanted oi (yielded ops ts.toArray)=false:=by rfl)
  (hs:Region.noSelect ops=true:=by kernel_rfl)(hf:Region.free md ops L.toArray i=true:=by kernel_rfl)(hr:(Region.ready md ops L.toArray).contains i=true:=by kernel_rfl)
  (hQ:∀c (a:Act) v w,Q (.panic c) (a.put (some d) v) w -> Q (.panic c) a w:=by exact fun _ _ _ _ h=>h)(hab:∀w,oi.about P w (Act.eval { tmps:=ts.toArray,defers:=ds })=none:=by exact fun _=>rfl)
  (hL:L.set i true=L2:=by simp only[st1,st2];try exact rfl)(ht:ts.set d undef=ts2:=by simp only[st1,st2];try exact rfl):
  wpAnyHI F n P md ops Q S (fuel+1) L.toArray { tmps:=ts.toArray,defers:=ds } w:=takeSI i d hro hi hdst hw hs hf hr hQ hS hab (by rw[hL,ht];exact h)
end
end
section
open Go Go.RowKit
def ownPostX {α:Type}(B:Nat)(Kp Kx:World -> World -> Prop)(I:List α -> World -> Prop)(Ix:Code -> List α -> World -> Prop)(xs:List α)(W:World):Exit -> Act -> World -> Prop
 | .normal,_,W'=>KeepsFrom B W W' /\ Kp W W' /\ I xs W'
 | .ret,_,W'=>KeepsFrom B W W' /\ Kx W W' /\ Ix .ret xs W'
 | .exit id,_,W'=>KeepsFrom B W W' /\ Kx W W' /\ Ix (.exit id) xs W'
 | .goto t,_,W'=>KeepsFrom B W W' /\ Kx W W' /\ Ix (.goto t) xs W'
 | .panic _,_,_=>False
 | .outgrown,_,_=>False
section
variable {F:Fence} {n:Nat} {P:Program}
def SeqX {α:Type}(F:Fence)(n:Nat)(P:Program)(g:Nat)(lb:Array Value)(encs:α -> Array Value)(Kp Kx:World -> World -> Prop)(Nx:List α -> α -> Prop)(S:List α -> Prop)(w:World):Prop:=
 ∀(l:Nat) (J Jx:List α -> World -> Prop) (W:World),Below w.heap.size w W -> AbidesFrom W.heap.size J -> AbidesFrom W.heap.size Jx ->
  (∀pre x W1,Nx pre x -> J pre W1 -> YieldAt F (n-1) P l (encs x) W1 fun e W'=>
    (e=.returned (.bool true) /\ J (pre++[x]) W' /\ Kp W1 W')∨(e=.returned (.bool false) /\ Jx (pre++[x]) W' /\ Kx W1 W')) ->
  J [] W ->
  CallsIn F n P g (#[.func (.yield l) #[] #[]]++lb) W fun e W'=>(∃v,e=.returned v) /\ ((∃xs,S xs /\ J xs W')∨(∃pre,Jx pre W'))
theorem wpIn_rangeFunc_x {α:Type}{g:Operand}{ps:Array Tmp}{assign body:Code}{Q:Exit -> Act -> World -> Prop}{a:Act}{w:World}
  (hro:F.round=none)(h1:1 <= n){gf:Nat}{lb:Array Value}(hg:a.eval g=.func (.func gf) #[] lb)(hFg:F.fn gf)(eg:∀args w,(callFunc gf args).run P w=.ok (.enter gf args) w)
  {encs:α -> Array Value}{Kp Kx:World -> World -> Prop}{Nx:List α -> α -> Prop}{S:List α -> Prop}{w0:World}(hseq:SeqX F (n-1) P gf lb encs Kp Kx Nx S w0)
  (hKt:∀{A B C:World},Kp A B -> Kp B C -> Kp A C)(hKb:∀(W:World) (l:Nat) (o o':Obj),w.heap.size <= l -> W.heap[l]?= some o -> o.isCells=false -> o.isWalk=false -> Kp W (W.putObj l o'))(hKx:∀{A B C:World},Kp A B -> Kx B C -> Kx A C)(hKxb:∀{A B C:World},Kx A B -> Kp B C -> Kx A C)(hb0:Below w0.heap.size w0 w)(hps:∀x,(encs x).size=ps.size)
  (I:List α -> World -> Prop)(Ix:Code -> List α -> World -> Prop)(M:α -> Act -> List α -> World -> Prop)(hI:OwnFrom w.heap.size I)(hIx:∀c,OwnFrom w.heap.size (Ix c))(hM:∀x a',OwnFrom w.heap.size (M x a'))(h0:I [] w)
  (hassign:∀(l:Nat) (pre:List α) (x:α) (W:World),Nx pre x -> I pre W ->
    assign.wpIn (F.inRound l) (n-1-1) P (Exit.then (fun a' W'=>KeepsFrom w.heap.size W W' /\ Kp W W' /\ M x a' pre W') (fun _ _ _=>False)) { tmps:=(ps.zip (encs x)).foldl (fun t (p,v)=>t.setIfInBounds p v) a.tmps,defers:=[] } W)
  (hbody:∀(l:Nat) (pre:List α) (x:α) (a':Act) (W:World),Nx pre x -> M x a' pre W -> body.wpIn (F.inRound l) (n-1-1) P (ownPostX w.heap.size Kp Kx I Ix (pre++[x]) W) a' W)
  (hdone:∀(D:Nat) (xs:List α) (W:World),w.heap.size <= D -> S xs -> I xs W -> W.heap[D]?= some (.deferred (some [])) -> Q .normal { a with defers:={ target:=.collected D,args:=#[] }::a.defers } W)
  (hstop:∀(D:Nat) (c:Code) (pre:List α) (W:World),w.heap.size <= D -> Ix c pre W -> W.heap[D]?= some (.deferred (some [])) -> c.wpIn F n P Q { a with defers:={ target:=.collected D,args:=#[] }::a.defers } W):
  (Code.rangeFunc g ps assign body).wpIn F n P Q a w:=by
 refine wpIn_rangeFunc fun fn hfn=>?_;rw[hro]
 let rc:LoopState -> Option Code -> Loop:=fun st pe=>{ state:=st,pending:=pe,fn,tmps:=a.tmps,params:=ps,assign,body,defers:=w.heap.size }
 have hsz1:((w.alloc (.deferred (some []))).alloc (.loop (rc .ready none))).heap.size=w.heap.size+2:=by simp
 have hm1:Marks w.heap.size (rc .ready none) ((w.alloc (.deferred (some []))).alloc (.loop (rc .ready none))):=by
  refine⟨(Below.heap_alloc _ _ _ (by simp)).trans (World.alloc_heap_new w _),?_⟩;have:=World.alloc_heap_new (w.alloc (.deferred (some []))) (.loop (rc .ready none))
  rwa [World.size_alloc]at this
 have hi1:I [] ((w.alloc (.deferred (some []))).alloc (.loop (rc .ready none))):=hI.alloc _ (hI.alloc _ h0);have hb1:Below w0.heap.size w0 ((w.alloc (.deferred (some []))).alloc (.loop (rc .ready none))):=hb0.trans ((((Below.refl _ w).alloc (Nat.le_refl _) _).alloc (by simp) _).mono hb0.size);have hrun:=run_enterLoop_outer (P:=P) (w:=w) fn a.tmps ps assign body
 change _=Result.ok _ ((w.alloc (.deferred (some []))).alloc (.loop (rc .ready none)))at hrun
 generalize((w.alloc (.deferred (some []))).alloc (.loop (rc .ready none)))=W1 at hsz1 hm1 hi1 hb1 hrun
 refine⟨w.heap.size+1,[{ target:=.collected w.heap.size,args:=#[] }],W1,{ target:=.fn (.func gf) lb,args:=#[.func (.yield (w.heap.size+1)) #[] #[]] },W1,gf,
  #[.func (.yield (w.heap.size + 1)) #[] #[]] ++ lb, W1, hrun, ?_, ?_, ?_, fun _ => h1, ?_⟩
 · simp only[resolve,hg]
   simp[go_sem]
 ·intro f' hf';simp[Target.leads]at hf';subst hf';exact hFg
 ·simp[invoke,go_sem,eg]
 have hrow:∀{A:World} {row:Option Nat},(∀r,row=some r -> W1.heap.size <= r /\ ∃o:Obj,A.heap[r]?= some o /\ o.isWalk=true) -> (∀r,row=some r -> w.heap.size <= r /\ ∃o:Obj,A.heap[r]?= some o /\ o.isCells=false):=
  fun hr r e=>by obtain⟨hB,o,ho,hw⟩:=hr r e;exact⟨by omega,o,ho,Obj.not_cells_of_walk hw⟩
 refine(hseq (w.heap.size+1) (fun pre W=>I pre W /\ Marks w.heap.size (rc .ready none) W) (fun pre W=>∃c,Ix c pre W /\ Marks w.heap.size (rc .done (some c)) W) W1 hb1
  (fun s A B row hs hg' hr=>⟨hI s A B row hs.1 hg' (hrow hr),hs.2.grown hg' fun j e=>(hr j e).2⟩)
  (fun s A B row ⟨c,hc,hm⟩ hg' hr=>⟨c,hIx c s A B row hc hg' (hrow hr),hm.grown hg' fun j e=>(hr j e).2⟩) ?_ ⟨hi1,hm1⟩).mono ?_
 · rintro pre x W hnx ⟨hi,hm⟩
   refine⟨fn,_,assign,body,run_yield hm.loop (hps x),roundIn_of_wpIn hfn (wpIn_mono (hassign _ pre x W hnx hi) ?_)⟩;rintro e a' Wa hp
   cases e with
   | normal=>
    obtain⟨hka,hkpa,hMa⟩:=hp;have hma:=hm.keeps hka;refine⟨_,run_beginRound hma.loop rfl,?_⟩;have hmb:=hma.put (rc .busy none);have hkb:Kp W (Wa.putObj (w.heap.size+1) (.loop (rc .busy none))):=hKt hkpa (hKb _ _ _ _ (Nat.le_succ _) hma.loop rfl rfl);refine wpIn_mono (hbody _ pre x a' _ hnx ((hM x a').putObj _ hMa (Nat.le_succ _) hma.loop rfl)) ?_
    have leave:∀(jump:Option Code) (W3:World),KeepsFrom w.heap.size (Wa.putObj (w.heap.size+1) (.loop (rc .busy none))) W3 ->
      (Instr.endRound (w.heap.size+1) jump).run P W3=.ok (.bool jump.isNone) (W3.putObj (w.heap.size+1) (.loop (rc (if jump.isNone then .ready else .done) jump))) /\
      W3.heap[w.heap.size+1]?= some (.loop (rc .busy none)) /\ Marks w.heap.size (rc (if jump.isNone then .ready else .done) jump) (W3.putObj (w.heap.size+1) (.loop (rc (if jump.isNone then .ready else .done) jump))):=fun jump W3 hk3=>
     ⟨run_endRound (P:=P) jump (hmb.keeps hk3).loop,(hmb.keeps hk3).loop,(hmb.keeps hk3).put _⟩
    rintro e a3 W3 hp
    cases e with
    | normal=>
     obtain⟨hk3,hkp3,hi3⟩:=hp;obtain⟨hr,hl3,hm3⟩:=leave none W3 hk3;exact⟨_,_,hr,.inl ⟨rfl,⟨hI.putObj _ hi3 (Nat.le_succ _) hl3 rfl,hm3⟩,hKt (hKt hkb hkp3) (hKb _ _ _ _ (Nat.le_succ _) hl3 rfl rfl)⟩⟩
    | ret=>
     obtain⟨hk3,hkx3,hi3⟩:=hp;obtain⟨hr,hl3,hm3⟩:=leave (some .ret) W3 hk3;exact⟨_,_,hr,.inr ⟨rfl,⟨.ret,(hIx _).putObj _ hi3 (Nat.le_succ _) hl3 rfl,hm3⟩,hKxb (hKx hkb hkx3) (hKb _ _ _ _ (Nat.le_succ _) hl3 rfl rfl)⟩⟩
    | exit id=>
     obtain⟨hk3,hkx3,hi3⟩:=hp;obtain⟨hr,hl3,hm3⟩:=leave (some (.exit id)) W3 hk3;exact⟨_,_,hr,.inr ⟨rfl,⟨.exit id,(hIx _).putObj _ hi3 (Nat.le_succ _) hl3 rfl,hm3⟩,hKxb (hKx hkb hkx3) (hKb _ _ _ _ (Nat.le_succ _) hl3 rfl rfl)⟩⟩
    | goto t=>
     obtain⟨hk3,hkx3,hi3⟩:=hp;obtain⟨hr,hl3,hm3⟩:=leave (some (.goto t)) W3 hk3;exact⟨_,_,hr,.inr ⟨rfl,⟨.goto t,(hIx _).putObj _ hi3 (Nat.le_succ _) hl3 rfl,hm3⟩,hKxb (hKx hkb hkx3) (hKb _ _ _ _ (Nat.le_succ _) hl3 rfl rfl)⟩⟩
    | panic ch=>exact hp.elim
    | outgrown=>exact hp.elim
   | ret=>exact hp.elim
   | exit id=>exact hp.elim
   | goto t=>exact hp.elim
   | panic ch=>exact hp.elim
   | outgrown=>exact hp.elim
 · rintro e W2 ⟨⟨v,rfl⟩,(⟨xs,hS,hi,hm⟩|⟨pre,c,hi,hm⟩)⟩
   ·exact⟨none,_,run_endLoop (P:=P) hm.loop (by simp[rc]),hdone _ xs _ (Nat.le_refl _) hS (hI.putObj _ hi (Nat.le_succ _) hm.loop rfl) ((World.putObj_heap_other (by omega)).trans hm.dfr)⟩
   ·exact⟨some c,_,run_endLoop (P:=P) hm.loop (by simp[rc]),hstop _ c pre _ (Nat.le_refl _) ((hIx c).putObj _ hi (Nat.le_succ _) hm.loop rfl) ((World.putObj_heap_other (by omega)).trans hm.dfr)⟩
theorem wpIn_rangeFunc_f {α β:Type}{FA:α -> β -> Act}{g:Operand}{ps:Array Tmp}{assign body:Code}{Q:Exit -> Act -> World -> Prop}{a:Act}{w:World}
  (hro:F.round=none)(h1:1 <= n){gf:Nat}{lb:Array Value}(hg:a.eval g=.func (.func gf) #[] lb)(hFg:F.fn gf)(eg:∀args w,(callFunc gf args).run P w=.ok (.enter gf args) w)
  {encs:α -> Array Value}{Kp Kx:World -> World -> Prop}{Nx:List α -> α -> Prop}{S:List α -> Prop}{w0:World}(hseq:SeqX F (n-1) P gf lb encs Kp Kx Nx S w0)
  (hKt:∀{A B C:World},Kp A B -> Kp B C -> Kp A C)(hKb:∀(W:World) (l:Nat) (o o':Obj),w.heap.size <= l -> W.heap[l]?= some o -> o.isCells=false -> o.isWalk=false -> Kp W (W.putObj l o'))(hKx:∀{A B C:World},Kp A B -> Kx B C -> Kx A C)(hKxb:∀{A B C:World},Kx A B -> Kp B C -> Kx A C)(hb0:Below w0.heap.size w0 w)(hps:∀x,(encs x).size=ps.size)
  (I:List α -> World -> Prop)(Ix:Code -> List α -> World -> Prop)(M:α -> β -> List α -> World -> Prop)(hI:OwnFrom w.heap.size I)(hIx:∀c,OwnFrom w.heap.size (Ix c))(hM:∀x nb,OwnFrom w.heap.size (M x nb))(h0:I [] w)
  (hassign:∀(l:Nat) (pre:List α) (x:α) (W:World),Nx pre x -> I pre W ->
    assign.wpIn (F.inRound l) (n-1-1) P (Exit.then (fun a' W'=>KeepsFrom w.heap.size W W' /\ Kp W W' /\ ∃nb,a'=FA x nb /\ M x nb pre W') (fun _ _ _=>False)) { tmps:=(ps.zip (encs x)).foldl (fun t (p,v)=>t.setIfInBounds p v) a.tmps,defers:=[] } W)
  (hbody:∀(l:Nat) (pre:List α) (x:α) (nb:β) (W:World),Nx pre x -> M x nb pre W -> body.wpIn (F.inRound l) (n-1-1) P (ownPostX w.heap.size Kp Kx I Ix (pre++[x]) W) (FA x nb) W)
  (hdone:∀(D:Nat) (xs:List α) (W:World),w.heap.size <= D -> S xs -> I xs W -> W.heap[D]?= some (.deferred (some [])) -> Q .normal { a with defers:={ target:=.collected D,args:=#[] }::a.defers } W)
  (hstop:∀(D:Nat) (c:Code) (pre:List α) (W:World),w.heap.size <= D -> Ix c pre W -> W.heap[D]?= some (.deferred (some [])) -> c.wpIn F n P Q { a with defers:={ target:=.collected D,args:=#[] }::a.defers } W):
  (Code.rangeFunc g ps assign body).wpIn F n P Q a w:=
 wpIn_rangeFunc_x hro h1 hg hFg eg hseq hKt hKb hKx hKxb hb0 hps I Ix (fun x a' pre W=>∃nb,a'=FA x nb /\ M x nb pre W) hI hIx (fun x _ s A B row ⟨nb,ha,hm⟩ hg hr=>⟨nb,ha,hM x nb s A B row hm hg hr⟩) h0 hassign (fun l pre x _ W hnx ⟨nb,ha,hm⟩=>by subst ha;exact hbody l pre x nb W hnx hm) hdone hstop
end
end
section
open Go Go.RowKit Go.Shelf Go.IntWalk
attribute [local go_sem] Oper.semAt_some
structure KpC (n₀ Bs:Nat)(D:Nat -> Prop)(A B:World):Prop where
 below:Below n₀ A B
 box:B.heap[Bs]?= A.heap[Bs]?
 size:A.heap.size <= B.heap.size
 same:∀b o,A.heap[b]?= some o -> o.isCells=true -> ¬D b -> B.heap[b]?= some o
structure KxC (Bs sb m:Nat)(A B:World):Prop where
 box:B.heap[Bs]?= A.heap[Bs]?
 sbk:B.heap[sb]?= A.heap[sb]?
 same:∀b o,A.heap[b]?= some o -> o.isCells=true -> m <= b -> B.heap[b]?= some o
theorem KpC.x {n₀ Bs sb m:Nat}{D:Nat -> Prop}{A B C:World}(hs:sb<n₀)(hD:∀b,D b -> b<m)(h:KpC n₀ Bs D A B)(k:KxC Bs sb m B C):KxC Bs sb m A C:=
 ⟨k.box.trans h.box,k.sbk.trans (h.below.block sb hs),fun b o h1 h2 h3=>k.same b o (h.same b o h1 h2 (fun hd=>by have:=hD b hd;omega)) h2 h3⟩
theorem KxC.p {n₀ Bs sb m:Nat}{D:Nat -> Prop}{A B C:World}(hs:sb<n₀)(hD:∀b,D b -> b<m)(h:KxC Bs sb m A B)(k:KpC n₀ Bs D B C):KxC Bs sb m A C:=
 ⟨k.box.trans h.box,(k.below.block sb hs).trans h.sbk,fun b o h1 h2 h3=>k.same b o (h.same b o h1 h2 h3) h2 (fun hd=>by have:=hD b hd;omega)⟩
theorem cell_of_same {A B:World}{b:Nat}(h:B.heap[b]?= A.heap[b]?)(i:Nat):B.cell? ⟨b,i,none⟩=A.cell? ⟨b,i,none⟩:=World.cell?_of_block h
theorem wpIn_region_noPanic {F:Fence}{n:Nat}{P:Program}{id:Nat}{ops:Array Oper}{b:Bool}{Q:Exit -> Act -> World -> Prop}{a:Act}{w:World}(h:(Code.region id ops b).wpIn F n P (NoPanic Q) a w):(Code.region id ops b).wpIn F n P Q a w:=wpIn_mono h NoPanic.imp
theorem KpC.t {n₀ Bs:Nat}{D:Nat -> Prop}{A B C:World}(h:KpC n₀ Bs D A B)(k:KpC n₀ Bs D B C):KpC n₀ Bs D A C:=
 ⟨h.below.trans k.below,k.box.trans h.box,Nat.le_trans h.size k.size,fun b o h1 h2 h3=>k.same b o (h.same b o h1 h2 h3) h2 h3⟩
theorem KpC.b {n₀ Bs:Nat}{D:Nat -> Prop}{w:World}(hn:n₀ <= w.heap.size)(hB:Bs<w.heap.size)(W:World)(l:Nat)(o o':Obj)(hl:w.heap.size <= l)(h:W.heap[l]?= some o)(hc:o.isCells=false)(hw:o.isWalk=false):KpC n₀ Bs D W (W.putObj l o'):=by
 refine⟨belowK_b hn W l o o' hl h hc hw,World.putObj_heap_other (by omega),(grownBy_putObj' W l o').size,fun b o2 h1 h2 _=>?_⟩
 by_cases hb:b=l
 · subst hb
   rw[h]at h1
   cases h1
   rw[hc]at h2
   cases h2
 · rw[World.putObj_heap_other hb]
   exact h1
theorem KpC.of {n₀ Bs:Nat}{D:Nat -> Prop}{L L':List Blk}{A B:World}(h:Turn L A L' B)(hn:n₀ <= A.heap.size)(hB:Bs<A.heap.size)(hL:∀b∈keys L,D b)(hD:∀b,D b -> n₀ <= b /\ b≠Bs):KpC n₀ Bs D A B:=
 ⟨⟨h.os,h.tape,h.output,h.size,fun b hb=>h.same b (Nat.lt_of_lt_of_le hb hn) (fun hm=>by have:=(hD b (hL b hm)).1;omega)⟩,
  h.same Bs hB (fun hm=>(hD Bs (hL Bs hm)).2 rfl),h.size,fun b o h1 _ h3=>(h.same b (lt_of_block h1) (fun hm=>h3 (hL b hm))).trans h1⟩
theorem Has.one {w:World}{b:Nat}{o:Obj}(h:w.heap[b]?= some o):Has w [(b,o)]:=⟨List.nodup_cons.2 ⟨by simp,List.nodup_nil⟩,fun b' o' hm=>by
 obtain⟨rfl,rfl⟩:=Prod.mk.inj (List.mem_singleton.1 hm);exact h⟩
def ceArgs (c:Ce):Array Value:=#[.agg #[.int .i64 c.1,.int .u8 c.2.tag,.int .i64 c.2.typ,.int .i64 c.2.len,.int .i64 c.2.size]]
structure SpAt (w:World)(sb a aw tb:Nat)(W:List Nat)(tao:Option Addr)(tcap:Nat)(L:List Ty):Prop where
 c0:w.cell? ⟨sb,0,none⟩=some (pt a)
 c1:w.cell? ⟨sb,1,none⟩=some (pt tb)
 ar:ArAt w a aw W
 tab:TabAt w tb tao tcap L
 fields:Fields w
theorem SpAt.below {w w':World}{sb a aw tb:Nat}{W:List Nat}{tao:Option Addr}{tcap:Nat}{L:List Ty}(h:SpAt w sb a aw tb W tao tcap L)(hk:Below w.heap.size w w'):SpAt w' sb a aw tb W tao tcap L:=
 ⟨(hk.cell (p:=⟨sb,0,none⟩) (World.block_lt_of_cell? w _ h.c0)).trans h.c0,(hk.cell (p:=⟨sb,1,none⟩) (World.block_lt_of_cell? w _ h.c1)).trans h.c1,h.ar.below hk,h.tab.below hk,range_below h.fields hk⟩
theorem scells_in (n:Nat)(sb:Nat)(w:World):
  CallsIn Fence.wide n prog 65 #[pt sb] w fun e w'=>e=.returned (.func (.func 149) #[] #[pt w.heap.size]) /\ w'=w.alloc (bS sb):=by
 have hf:Fence.wide.fn 65:= trivial;refine callsIn_of_wp func65 rfl hf ?_ rfl;simp only[ntmps65,List.size_toArray,List.length_cons,List.length_nil,Nat.reduceAdd,Nat.reduceSub,Array.replicate_succ,Array.replicate_zero,List.push_toArray,List.append_toArray,List.nil_append,List.cons_append]
 gi_wp2
 go_ret;exact⟨rfl,rfl⟩
theorem scells_next (n:Nat)(hn:2 <= n)(wb:World)(sb a aw tb:Nat)(W:List Nat)(tao:Option Addr)(tcap:Nat)(L:List Ty)(hA:SpAt wb sb a aw tb W tao tcap L)(hf:W.length <= 65536)(hu:∀v∈W,v<18446744073709551616)(hTy:∀t∈L,TyIn t)(hL:L.length <= 1000)
  (cs:List Ce)(hC:Chain L W 0 cs (W.length/2))(Bs:Nat)(D:Nat -> Prop)(w:World)(hDw:∀b,D b -> b<w.heap.size)(hw:Below wb.heap.size wb w)(hBs:w.heap[Bs]?= some (bS sb)):
  SeqX Fence.wide n prog 149 #[pt Bs] ceArgs (KpC wb.heap.size Bs D) (KxC Bs sb w.heap.size) (fun pre x=>∃post,cs=pre++x::post) (fun xs=>xs=cs) w:=fun l J Jx W0 hW hJ hJx hY h0=>by
 have hBl:Bs<w.heap.size:=lt_of_block hBs;have hB0:W0.heap[Bs]?= some (bS sb):=(hW.block Bs hBl).trans hBs;have hw0:Below wb.heap.size wb W0:=hw.trans (hW.mono hw.size);have hW0:=hW.size;have HA0:=uh hw.size;have HA0:=uh hw.size;have HA0:=uh hw.size;have HA0:=uh hw.size;have hFl:Fence.wide.fn 149:= trivial;have hf1:Fence.wide.fn 13:= trivial;have hf2:Fence.wide.fn 126:= trivial;have hf3:Fence.wide.fn 128:= trivial;refine callsIn_of_wp func149 rfl hFl ?_ rfl;simp only[ntmps149,List.size_toArray,List.length_cons,List.length_nil,Nat.reduceAdd,Nat.reduceSub,Array.replicate_succ,Array.replicate_zero,List.push_toArray,List.append_toArray,List.nil_append,List.cons_append];have h1:1 <= n:=by omega
 have hro:Fence.wide.round=none:=rfl;have h2:1 <= n-1:=by omega
 have HY:=uh hY;have HJ:=uh hJ;have hszH:=sz_head;have Hgr:=uh (fun w' (hB:Below wb.heap.size wb w')=>sgran w' (hA.below hB).c0 (hA.below hB).ar hf);have Hhd:=uh (fun w' (hB:Below wb.heap.size wb w') (g:Int)=>shead w' (hA.below hB).fields (hA.below hB).ar hu g);have Hft:=uh (fun w' (hB:Below wb.heap.size wb w') h hi=>hfits w' (hA.below hB).fields L hTy hL tb tao tcap (hA.below hB).tab h hi);have HA:=uh hA;have HC:=uh hC;have hlen:=hC.len;obtain⟨z,hz⟩:∃z:Nat,W.length/2=z:=⟨_,rfl⟩;have hzb:z <= 32768:=by omega
 rw[hz]at Hgr HC hlen;have Hw0:=uh hw0;have HB0:=uh hB0;have HDw:=uh hDw;clear hY hJ hJx hW hw hBs hB0 hw0 hA hu hTy hC hDw
 gi_wp2_with fail
 gi_loopw [3] (fun v3 wr=>∃(pre post:List Ce) (g:Nat),cs=pre++post /\ v3=.int .i64 g /\ Chain L W g post z /\ J pre wr /\ Below wb.heap.size wb wr /\ wr.heap[Bs]?= some (bS sb) /\ w.heap.size <= wr.heap.size) (fun v3 _=>z+1-(intOf v3).toNat)
 case atStart=>exact⟨[],cs,0,rfl,by go_num,HC.out,h0,Hw0.out,HB0.out,hW0⟩
 case round=>
  clear HC h0 Hw0 HB0;obtain⟨pre,post,g,hcs,rfl,hch,hJw,hwr,hBw,hwl⟩:=hrel;have hH1:Has wr [(Bs,bS sb)]:=Has.one hBw;have hbx:wr.cell? ⟨Bs,0,none⟩=some (pt sb):=hH1.cell (List.mem_cons_self ..) 0;have hsp:=HA.out.below hwr;have q0:=hsp.c0
  cases post with
  | nil=>
   obtain rfl:g=z:=hch;rw[List.append_nil]at hcs;have HX:=uh (⟨hcs.symm,hJw⟩:pre=cs /\ J pre wr);have Hg:=uh (Hgr.out wr hwr);have hnl:¬(g:Int)<(g:Int):=(by omega);clear hJw hsp hH1 hcs hwr hBw
   gi_wp2_with (gi_at_call 13;refine(callsIn_wide.2 Hg.out).mono ?_;rintro e w' ⟨rfl,hw⟩;rw[hw];clear hw w')
   go_end0;exact⟨⟨_,rfl⟩,.inl ⟨pre,HX.out.1,HX.out.2⟩⟩
  | cons c post=>
   obtain⟨cg,h⟩:=c;obtain⟨hcg,hst,hnext⟩:=hch;simp only at hcg hst hnext;subst hcg;have hpos:=hst.pos;have hroom:cg+h.size <= z:=hnext.le;obtain⟨e1,e2,e3,e4⟩:=stands_head hst;have hmay:=hst.2.1.1;have Hh2:=uh (Hhd.out wr hwr cg);rw[e1,e2]at Hh2;simp only[Option.getD_some]at Hh2;have HF1:=uh (fun w' (hB:Below wr.heap.size wr w')=>Hft.out w' (hwr.trans (hB.mono (Nat.le_trans HA0.out hwl))) h (may_in hmay));rw[e3]at HF1;have HY2:=uh (fun W1=>HY.out pre (cg,h) W1 ⟨post,hcs⟩);unfold ceArgs at HY2;have Hgr2:=uh (fun w' X (V:Turn [] wr X w')=>Hgr.out w' (hwr.trans (V.below.mono (Nat.le_trans HA0.out hwl))));obtain⟨xa,xb,xc,xd⟩:=h;simp only at hpos hroom HY2;have hoX:=hd_one ⟨xa,xb,xc,xd⟩;simp only at hoX;have k1:IntKind.i64.wrap ((z:Int)-(cg:Int))=(z:Int)-(cg:Int):=i64_in _ (by omega);have k2:decide (((z:Int)-(cg:Int))<(xd:Int))=false:=decide_eq_false (by omega);have k3:¬((z:Int)-(cg:Int))<(xd:Int):=(by omega);have k4:(cg:Int)<(z:Int):=(by omega);have Hnext:=uh hnext;have Hcs:=uh hcs;have HJw:=uh hJw;have Hg:=uh (Hgr.out wr hwr);have hT0:=uh (Turn.refl (Has.nil wr))
   have HS:=uh (fun w' b4 (V:Turn [] wr [(b4,.cells #[.int .u8 xa,.int .i64 xb,.int .i64 xc,.int .i64 xd] 79)] w')=>
    (⟨(V.below.cell (p:=⟨Bs,0,none⟩) (World.block_lt_of_cell? wr _ hbx)).trans hbx,(V.below.cell (p:=⟨sb,1,none⟩) (World.block_lt_of_cell? wr _ hsp.c1)).trans hsp.c1,V.range1⟩:w'.cell? ⟨Bs,0,none⟩=some (pt sb) /\ w'.cell? ⟨sb,1,none⟩=some (pt tb) /\ w'.rangeAt b4 0 [.int .u8 xa,.int .i64 xb,.int .i64 xc,.int .i64 xd]))
   have hsbl:sb<wb.heap.size:=World.block_lt_of_cell? wb _ HA.out.c0
   have HS2:=uh (fun w8 w' b4 (k:KpC wb.heap.size Bs D w' w8) (V:Turn [] wr [(b4,.cells #[.int .u8 xa,.int .i64 xb,.int .i64 xc,.int .i64 xd] 79)] w')=>by
    have h:=HS.out w' b4 V;have h9:b4∉[] -> wr.heap.size <= b4:=fun _=>(V.new b4 (by simp[keys])).resolve_left (by simp[keys]);have h8:=k.same b4 _ (V.has.own _ _ (List.mem_cons_self ..)) rfl (fun hd=>by have:=HDw.out b4 hd;have:=h9 (by simp);omega);exact(⟨(cell_of_same k.box 0).trans h.1,(k.below.cell (p:=⟨sb,1,none⟩) hsbl).trans h.2.1,(Has.one h8).range (List.mem_cons_self ..)⟩:w8.cell? ⟨Bs,0,none⟩=some (pt sb) /\ w8.cell? ⟨sb,1,none⟩=some (pt tb) /\ w8.rangeAt b4 0 [.int .u8 xa,.int .i64 xb,.int .i64 xc,.int .i64 xd]))
   have HS3:=uh (fun w8 w' b4 (k:KxC Bs sb w.heap.size w' w8) (V:Turn [] wr [(b4,.cells #[.int .u8 xa,.int .i64 xb,.int .i64 xc,.int .i64 xd] 79)] w')=>by
    have h:=HS.out w' b4 V;have h9:wr.heap.size <= b4:=(V.new b4 (by simp[keys])).resolve_left (by simp[keys]);have h8:=k.same b4 _ (V.has.own _ _ (List.mem_cons_self ..)) rfl (by omega);exact(⟨(cell_of_same k.box 0).trans h.1,(cell_of_same k.sbk 1).trans h.2.1,(Has.one h8).range (List.mem_cons_self ..)⟩:w8.cell? ⟨Bs,0,none⟩=some (pt sb) /\ w8.cell? ⟨sb,1,none⟩=some (pt tb) /\ w8.rangeAt b4 0 [.int .u8 xa,.int .i64 xb,.int .i64 xc,.int .i64 xd]))
   have HN8:=uh (fun w8 w' b4 (hj:J (pre++[(cg,⟨xa,xb,xc,xd⟩)]) w8) (k:KpC wb.heap.size Bs D w' w8) (V:Turn [] wr [(b4,.cells #[.int .u8 xa,.int .i64 xb,.int .i64 xc,.int .i64 xd] 79)] w')=>
    (⟨hj,(hwr.trans (V.below.mono (Nat.le_trans HA0.out hwl))).trans k.below,k.box.trans ((V.below.block Bs (lt_of_block hBw)).trans hBw),Nat.le_trans hwl (Nat.le_trans V.size k.size)⟩:J (pre++[(cg,⟨xa,xb,xc,xd⟩)]) w8 /\ Below wb.heap.size wb w8 /\ w8.heap[Bs]?= some (bS sb) /\ w.heap.size <= w8.heap.size))
   clear hJw hsp hH1 hcs hwr hBw hnext hst e1 e2 e3 e4 hmay HY
   gi_wp2_with (first
    | (gi_at_call 13;refine(callsIn_wide.2 Hg.out).mono ?_;rintro e w' ⟨rfl,hw⟩;rw[hw];clear hw w')
    | (gi_at_call 126;refine(callsIn_wide.2 Hh2.out).mono ?_;rintro e w1 ⟨rfl,hB1⟩;have T2:=(hT0.out.call hB1).alloc zH;have hth:(w1.alloc zH).there w1.heap.size 0 4:=T2.there1;have HT2:=uh (T2.laid [.int .u8 xa,.int .i64 xb,.int .i64 xc,.int .i64 xd] rfl);clear hB1 T2)
    | (show wpListIn _ _ _ _ _ (⟨_,Op.store 79 _ _,_,_,_,_⟩::_) _ _;refine wpListIn_by (follows_wide _ _) rfl (by intro c h;cases h) (wp_store_mid 79 _ _ rfl _ 0 #[.int .u8 xa,.int .i64 xb,.int .i64 xc,.int .i64 xd] rfl rfl hth hszH hoX ?_);clear hth)
    | fail)
   generalize(w1.alloc zH).setCells w1.heap.size 0 [.int .u8 xa,.int .i64 xb,.int .i64 xc,.int .i64 xd]=w5 at*;generalize w1.heap.size=b4 at*;have HT5:=uh HT2.out.drew;have hS5:=HS.out _ _ HT5.out;have HF2:=uh (HF1.out _ HT5.out.below);have HY3:=HY2;clear HT2 q0 hbx Hg Hh2 hT0;refine wpIn_region_noPanic ?_;refine wpIn_region_listedHI (S:=fun W'=>W'.cell? ⟨Bs,0,none⟩=some (pt sb) /\ W'.cell? ⟨sb,1,none⟩=some (pt tb) /\ W'.rangeAt b4 0 [.int .u8 xa,.int .i64 xb,.int .i64 xc,.int .i64 xd]) 28 [false,false,false,false,false,false,false,false,false,false,false,false,false,false,false,false,false,false,false,false,false,false,false,false,false,false,false,false] rfl rfl (by kernel_rfl) ?_;refine tkI 0 19 hro hS5 ?_;refine tkI 1 20 hro hS5 ?_;refine tkI 2 21 hro hS5 ?_;refine tkJ 3 22 hro hS5 (fun w hSw=>hSw.1) ?_;refine tkI 4 23 hro hS5 ?_;refine tkI 5 24 hro hS5 ?_;refine tkJ 6 25 hro hS5 (fun w hSw=>hSw.2.1) ?_;refine takeGI 7 26 hro rfl rfl (by rfl) (by kernel_rfl) (by kernel_rfl) (by kernel_rfl) (fun _ _ _ _ h=>h) hS5 (fun _=>rfl) (fun w' hSw=>load_mid_run 79 _ rfl b4 0 rfl [.int .u8 xa,.int .i64 xb,.int .i64 xc,.int .i64 xd] _ hSw.2.2 underlying79 rfl hszH) ?_;simp only[st1,st2];refine wpAnyHI_call (i:=8) (by kernel_rfl) rfl (fun K hK=>?_)
   go_simp
   refine(callsIn_wide.2 HF2.out).mono ?_;rintro e w6 ⟨rfl,hB6⟩;have HT6:=uh (HT5.out.call hB6);have hS6:=HS.out _ _ HT6.out;clear hB6 HF2 HT5 hS5;refine hK.out _ _ hS6 ?_;clear hK K;simp only[st0,st1,st2];refine tkI 9 28 hro hS6 ?_;refine tkI 10 29 hro hS6 ?_;refine tkI 11 30 hro hS6 ?_;refine tkI 12 31 hro hS6 ?_;refine tkJ 13 32 hro hS6 (fun w hSw=>hSw.2.2 3 _ rfl) ?_;refine tkJ 14 33 hro hS6 (fun w hSw=>hSw.1) ?_;refine tkI 16 35 hro hS6 ?_;refine wpAnyHI_call (i:=15) (by kernel_rfl) rfl (fun K hK=>?_)
   go_simp
   refine(callsIn_wide.2 (Hgr2.out _ _ HT6.out)).mono ?_;rintro e w7 ⟨rfl,hw7⟩;subst hw7;refine hK.out _ _ hS6 ?_;clear hK K;simp only[st0,st1,st2];refine tkI 17 36 hro hS6 ?_;refine tkI 18 37 hro hS6 ?_;refine tkI 19 38 hro hS6 ?_;refine tkI 20 39 hro hS6 ?_;refine tkI 21 40 hro hS6 ?_;refine tkI 22 41 hro hS6 ?_;refine takeGI 23 42 hro rfl rfl (by rfl) (by kernel_rfl) (by kernel_rfl) (by kernel_rfl) (fun _ _ _ _ h=>h) hS6 (fun _=>rfl) (fun w' hSw=>load_mid_run 79 _ rfl b4 0 rfl [.int .u8 xa,.int .i64 xb,.int .i64 xc,.int .i64 xd] _ hSw.2.2 underlying79 rfl hszH) ?_;simp only[st1,st2];refine tkI 24 43 hro hS6 ?_;obtain⟨fn,tmps,assign,body,hy,hR⟩:=HY3.out _ (HJ.out pre wr _ none HJw.out (below_grownBy HT6.out.below) (fun r e=>by cases e));have HR:=uh hR;clear hR;refine wpAnyHI_call (i:=25) (by kernel_rfl) rfl (fun K hK=>?_)
   go_simp
   refine HR.out.mono ?_;rintro e w8 (⟨rfl,hJ8,hk8⟩|⟨rfl,hJx8,hk8⟩)
   · have hS8:=HS2.out _ _ _ hk8 HT6.out
     refine hK.out _ _ hS8 ?_;clear hK K;simp only[st0,st1,st2];refine tkI 26 45 hro hS8 ?_;refine tkI 27 46 hro hS8 ?_;refine wpAnyHI_done (by kernel_rfl) ?_ _;refine NoPanic.normal ?_;have hc4:=hS8.2.2 3 _ rfl;have HN:=uh (HN8.out _ _ _ hJ8 hk8 HT6.out);clear hS8 hS6 HT6 HS HS2 hJ8 hk8 HR hy
     gi_wp2_with fail
     go_roundw
     case rel=>exact⟨pre++[(cg,⟨xa,xb,xc,xd⟩)],post,cg+xd,by rw[Hcs.out];simp,by go_num,Hnext.out,HN.out.1,HN.out.2.1,HN.out.2.2.1,HN.out.2.2.2⟩
     case measure=>simp[intOf];omega
   · have hS8:=HS3.out _ _ _ hk8 HT6.out
     refine hK.out _ _ hS8 ?_;clear hK K;simp only[st0,st1,st2];refine tkI 26 45 hro hS8 ?_;refine tkI 27 46 hro hS8 ?_;refine wpAnyHI_done (by kernel_rfl) ?_ _;refine NoPanic.normal ?_;clear hS8 hS6 HT6 HS HS2 HS3 hk8 HR hy
     gi_wp2_with fail
     refine bodyPost_ret (results_none rfl _ _ _) rfl ?_;exact⟨⟨_,rfl⟩,.inr ⟨_,hJx8⟩⟩
end
section
open Go Go.RowKit Go.IntWalk
def takes (c:Ce)(g sz:Nat):Prop:=c.2.tag≠1 /\ c.1 <= g /\ g<c.1+c.2.size /\ g+sz <= c.1+c.2.size
theorem put9 {w0:World}(w:World){rb lcap:Nat}{lao:Option Addr}{W:List Nat}{L:List Ty}{l R:List Blk}(hI:RefIs rb lao L.length lcap W l)(T:Turn [] w0 (l++R) w)(hS:Src w0 lao L.length lcap 3 (tys L))(hTy:∀t∈L,TyIn t)(hL:L.length <= 1000)(hf:W.length <= 65536)
  (hu:∀v∈W,v<18446744073709551616)(cs:List Ce)(hC:Chain L W 0 cs (W.length/2))(g id n sz:Nat)(he:tyErr L id n=0)(hs:tySize L id n=sz)(hm:(Hd.mk 1 id n sz).may)(hg:g<W.length/2)(Qp:Ending -> World -> Prop)
  (HY:Hid (∀c∈cs,takes c g sz -> ∀w' l',RefIs rb lao L.length lcap (putW W c g ⟨1,id,n,sz⟩) l' -> Turn [] w0 (l'++R) w' -> Qp (.returned (.int .i64 0)) w'))
  (HN:Hid ((∀c∈cs,¬takes c g sz) -> ∀w',Turn [] w0 (l++R) w' -> Qp (.returned (.int .i64 3)) w')):
  Calls prog 135 #[pt rb,.int .i64 g,.int .i64 id,.int .i64 n] w Qp:=by
 have hsz:=sz_head;have hszC:=sz_cell;have Hof:=uh (fun w' (hB:Below w0.heap.size w0 w')=>of7 w' L hTy hL lao lcap (hS.below hB) id n);unfold ofCells at Hof;rw[he,if_pos rfl,hs]at Hof;have hRef:=uh (fun w' (X:List Blk) (V:Turn [] w0 (l++X) w')=>hI.at_ V.has (hS.below V.below));obtain⟨ao,cap,lr,hrow,rfl⟩:=hI;have Hsrc:=uh (fun w' (X:List Blk) (V:Turn [] w0 (X++(((rb,rN ao W cap lao L.length lcap)::lr)++R)) w')=>(hrow.src (R:=X++((rb,rN ao W cap lao L.length lcap)::R)) (V.has.perm po)));have Hall:=uh (fun w' (ao:Option Addr) (cap:Nat) (hR:RefAt w' rb ao cap W lao lcap L)=>all9 w' hR hf hu hTy hL cs hC);have Hmk:=uh (fun w' (hB:Below w0.heap.size w0 w') (hSw:Src w' ao W.length cap 1 (u64s W)) (hr:g+sz <= W.length/2)=>make8 w' ao cap hSw hf L hTy hL lao lcap (hS.below hB) g id n sz he hs hm hr);have c1:w.cell? ⟨rb,1,none⟩=some (.slice lao L.length lcap):=T.cell1 1;have hoX:=hd_one ⟨1,id,n,sz⟩;have HT:=uh T;have hCm:=uh (fun c (h:c∈cs)=>hC.mem c h);have hdiv:((W.length:Int)).tdiv 2=((W.length/2:Nat):Int):=tdiv_nat _ 2;have hdiv2:(W.length:Int)/2=((W.length/2:Nat):Int):=by omega
 have hlen:=hC.len;obtain⟨z,hz⟩:∃z:Nat,W.length/2=z:=⟨_,rfl⟩;have hzb:z <= 32768:=by omega
 rw[hz]at hdiv hdiv2 hg Hmk hCm hlen;have hsp:1 <= sz:=hm.1;have hsb:sz<16777216:=hm.2.1;have hlt2:¬(z:Int) <= (g:Int):=by omega
 have hlt3:decide ((z:Int) <= (g:Int))=false:=decide_eq_false hlt2;have hlt4:¬z <= g:=by omega
 have hg0:decide ((g:Int)<0)=false:=decide_eq_false (by omega);clear T hS hTy hrow he hs hm hu hC
 go_enter func135,ntmps135
 go_wp2_with fail
 refine(Hof.out _ HT.out.below).mono ?_;rintro e w1 ⟨rfl,hB1⟩;have T2:=(HT.out.call hB1).alloc zH;have hth:(w1.alloc zH).there w1.heap.size 0 4:=T2.there1;have T3:=T2.laid [.int .u8 1,.int .i64 id,.int .i64 n,.int .i64 sz] rfl;have c0:=T3.cell2 0;have HT3:=uh T3;clear T2 T3 hB1 HT Hof
 go_wp2_with (first
  | (show sW 79;refine wpList_store_mid rfl 79 _ _ rfl _ 0 #[.int .u8 1,.int .i64 id,.int .i64 n,.int .i64 sz] rfl rfl hth hsz hoX ?_;clear hth)
  | fail)
 obtain⟨ao',cap',hR3⟩:=hRef.out _ ((w1.heap.size,.cells #[.int .u8 1,.int .i64 id,.int .i64 n,.int .i64 sz] 79)::R) (HT3.out.perm po);refine(Hall.out _ _ _ hR3).mono ?_;clear hR3 Hall hRef;rintro e w2 ⟨a11,p11,l11,rfl,hrow11,T4⟩;have HT4:=uh (HT3.out.grow T4);have Hr11:=uh hrow11;clear T4 HT3 hrow11 c0 c1
 go_wp2_with fail
 have HF:=uh (fun(h:0<cs.length)=>((Hr11.out.src HT4.out.has).form (by rw[ces_length];omega)))
 go_loopw [12] (fun v12 wr=>∃i:Nat,i <= cs.length /\ v12=.int .i64 i /\ Turn [] w0 (l11++((w1.heap.size,.cells #[.int .u8 1,.int .i64 id,.int .i64 n,.int .i64 sz] 79)::((rb,rN ao W cap lao L.length lcap)::lr++R))) wr /\ ∀c∈cs.take i,¬takes c g sz) (fun v12 _=>cs.length-(intOf v12).toNat)
 case atStart=>exact⟨0,Nat.zero_le _,by go_num,HT4.out,by simp⟩
 case round=>
  clear HT4;obtain⟨i,hi,rfl,T,hno⟩:=hrel
  by_cases hlt:i<cs.length
  · have hlt':(i:Int)<(cs.length:Int):=by omega
    obtain⟨c,hc⟩:∃c,cs[i]?= some c:=⟨cs[i],List.getElem?_eq_getElem hlt⟩;have hcm:c∈cs:=List.mem_of_getElem? hc;have hbd:=hCm.out c hcm;obtain⟨b,off,rfl,-⟩:=HF.out (by omega);have hrg:=(Hr11.out.src T.has).ce hc;have htk:cs.take (i+1)=cs.take i++[c]:=(by rw[List.take_add_one,hc];rfl);have hcmay:=hbd.2.2.2.1.1;obtain⟨cg,⟨xa,xb,xc,xd⟩⟩:=c;have T1:=T.alloc (.cells #[.int .i64 0,.int .u8 0,.int .i64 0,.int .i64 0,.int .i64 0] 81);have hth:(wr.alloc (.cells #[.int .i64 0,.int .u8 0,.int .i64 0,.int .i64 0,.int .i64 0] 81)).there wr.heap.size 0 5:=T1.there1;have T2:=T1.laid [.int .i64 cg,.int .u8 xa,.int .i64 xb,.int .i64 xc,.int .i64 xd] rfl;have HT2:=uh T2;have d0:=T2.cell1 0;have d1:=T2.cell1 1;have d4:=T2.cell1 4;have e3:=T2.has.cell (b:=w1.heap.size) (c:=#[.int .u8 1,.int .i64 id,.int .i64 n,.int .i64 sz]) (e:=79) (f:=(0,0)) (by simp) 3;have hoC:=ce_one (cg,⟨xa,xb,xc,xd⟩);simp only at hoC;have hxd:xd<16777216:=(by have:=hcmay.2.1;exact this);have hcgb:cg <= 32768:=(by have:=hbd.2.1;simp only at this;omega);have hic:(i:Int) <= 65536:=(by omega);have hendb:cg+xd <= z:=(by have:=hbd.2.1;simpa using this);have hmem:=uh hcm;clear T T1 T2 hbd hc hcm hcmay
    go_upto_region 11 with(first
     | (show lW 81;refine wpList_load_mid rfl 81 _ rfl b (off+i*5) rfl [.int .i64 cg,.int .u8 xa,.int .i64 xb,.int .i64 xc,.int .i64 xd] _ hrg underlying81 rfl hszC ?_;clear hrg)
     | (show sW 81;refine wpList_store_mid rfl 81 _ _ rfl _ 0 #[.int .i64 cg,.int .u8 xa,.int .i64 xb,.int .i64 xc,.int .i64 xd] rfl rfl hth hszC hoC ?_;clear hth)
     | fail)
    generalize(wr.alloc (.cells #[.int .i64 0,.int .u8 0,.int .i64 0,.int .i64 0,.int .i64 0] 81)).setCells wr.heap.size 0 [.int .i64 cg,.int .u8 xa,.int .i64 xb,.int .i64 xc,.int .i64 xd]=wq at*;generalize wr.heap.size=bq at*
    by_cases htak:takes (cg,⟨xa,xb,xc,xd⟩) g sz
    · have HYc:=uh (HY.out _ hmem.out htak)
      obtain⟨h1,h2,h3,h4⟩:=htak;simp only at h1 h2 h3 h4;have k1:((xa:Int) == 1)=false:=(by rw[beq_eq_false_iff_ne];omega);have k2:(xa == 1)=false:=(by rw[beq_eq_false_iff_ne];exact h1);have k3:decide ((g:Int)<(cg:Int))=false:=decide_eq_false (by omega);have k4:decide (g<cg)=false:=decide_eq_false (by omega);have k5:decide ((cg:Int)+(xd:Int) <= (g:Int))=false:=decide_eq_false (by omega);have k6:decide (cg+xd <= g)=false:=decide_eq_false (by omega);have k7:decide ((cg:Int)+(xd:Int)-(g:Int)<(sz:Int))=false:=decide_eq_false (by omega);clear h1 hno hmem HY HN hCm HF hi
      go_upto_region 12 with fail
      clear d0 d1 d4 e3 k1 k2 k3 k4 k5 k6 k7;have HD:=HT2.out.drew;clear HT2;refine wp_abs (fun W'=>Turn [] w0 ((bq,.cells #[.int .i64 cg,.int .u8 xa,.int .i64 xb,.int .i64 xc,.int .i64 xd] 81)::(l11++((w1.heap.size,.cells #[.int .u8 1,.int .i64 id,.int .i64 n,.int .i64 sz] 79)::((rb,rN ao W cap lao L.length lcap)::lr++R)))) W'.drew) HD fun W1 T1=>?_;clear HD
      have Hc2:=uh (fun w' (lx:List Blk) (V:Turn [] w0 (lx++((bq,.cells #[.int .i64 cg,.int .u8 xa,.int .i64 xb,.int .i64 xc,.int .i64 xd] 81)::(l11++((w1.heap.size,.cells #[.int .u8 1,.int .i64 id,.int .i64 n,.int .i64 sz] 79)::((rb,rN ao W cap lao L.length lcap)::lr++R))))) w')=>
       (⟨V.has.cell (b:=rb) (c:=#[.slice ao W.length cap,.slice lao L.length lcap]) (e:=109) (f:=(0,0)) (by simp) 0,V.has.cell (b:=rb) (c:=#[.slice ao W.length cap,.slice lao L.length lcap]) (e:=109) (f:=(0,0)) (by simp) 1⟩:w'.cell? ⟨rb,0,none⟩=some (.slice ao W.length cap) /\ w'.cell? ⟨rb,1,none⟩=some (.slice lao L.length lcap)))
      have hS:=Hc2.out _ [] T1;have Hm:=uh (Hmk.out _ T1.below (Hsrc.out _ ((bq,.cells #[.int .i64 cg,.int .u8 xa,.int .i64 xb,.int .i64 xc,.int .i64 xd] 81)::(l11++[(w1.heap.size,.cells #[.int .u8 1,.int .i64 id,.int .i64 n,.int .i64 sz] 79)])) (T1.perm po)) (by omega));have HT1:=uh T1;clear T1 Hmk Hsrc;refine wp_region_noPanic ?_;refine wp_region_listed (S:=fun W'=>W'.cell? ⟨rb,0,none⟩=some (.slice ao W.length cap) /\ W'.cell? ⟨rb,1,none⟩=some (.slice lao L.length lcap)) 17 [false,false,false,false,false,false,false,false,false,false,false,false,false,false,false,false,false] rfl rfl (by kernel_rfl) ?_;refine tkA 0 87 hS ?_;refine tkA 1 88 hS ?_;refine tkA 2 89 hS ?_;refine tkB 3 90 hS (fun w hSw=>hSw.1) ?_;refine tkA 4 91 hS ?_;refine tkA 5 92 hS ?_;refine tkA 6 93 hS ?_;refine tkB 7 94 hS (fun w hSw=>hSw.2) ?_;refine tkA 8 95 hS ?_;refine tkA 9 96 hS ?_;refine tkA 10 97 hS ?_;refine rdyA 11 (fun K hK=>?_)
      go_simp
      refine Hm.out.mono ?_;rintro e W3 ⟨ao8,cap8,l8,rfl,hrow8,T3⟩;have HT3:=uh (HT1.out.grow T3);have Hr8:=uh hrow8;have hS3:=Hc2.out _ _ HT3.out;clear T3 hrow8 HT1 Hm hS;refine hK.out _ _ hS3 fun _=>?_;clear hK K;simp only[st0,st1,st2];refine tkA 12 86 hS3 ?_;refine tkA 13 99 hS3 ?_;refine tkA 14 100 hS3 ?_;refine tkA 15 14 hS3 ?_;refine tkA 16 15 hS3 ?_;refine wpAnyH_done (by kernel_rfl) ?_ _;refine NoPanic.normal ?_;clear hS3 Hc2;have T4:=HT3.out.perm (l2:=(rb,rN ao W cap lao L.length lcap)::(l8++((bq,.cells #[.int .i64 cg,.int .u8 xa,.int .i64 xb,.int .i64 xc,.int .i64 xd] 81)::(l11++((w1.heap.size,.cells #[.int .u8 1,.int .i64 id,.int .i64 n,.int .i64 sz] 79)::(lr++R)))))) po;clear HT3;have c0:=T4.cell1 0;have f0:=T4.free1 0;have T5:=T4.setCell 0 (.slice ao8 W.length cap8);have HT5:=uh (T5.perm (l2:=((rb,.cells #[.slice ao8 W.length cap8,.slice lao L.length lcap] 109)::l8)++((bq,.cells #[.int .i64 cg,.int .u8 xa,.int .i64 xb,.int .i64 xc,.int .i64 xd] 81)::(l11++((w1.heap.size,.cells #[.int .u8 1,.int .i64 id,.int .i64 n,.int .i64 sz] 79)::(lr++R))))) po);clear T4 T5;have hI5:RefIs rb lao L.length lcap (mk W g ⟨1,id,n,sz⟩) ((rb,.cells #[.slice ao8 W.length cap8,.slice lao L.length lcap] 109)::l8):=⟨ao8,cap8,l8,by rw[mk_len];exact Hr8.out,by first|rw[mk_len]|simp[mk_len]⟩;have HI5:=uh hI5;clear hI5 Hr8
      have Hb:=uh (fun w' (lx:List Blk) (V:Turn [] w0 (lx++((bq,.cells #[.int .i64 cg,.int .u8 xa,.int .i64 xb,.int .i64 xc,.int .i64 xd] 81)::(l11++((w1.heap.size,.cells #[.int .u8 1,.int .i64 id,.int .i64 n,.int .i64 sz] 79)::(lr++R))))) w')=>
       (⟨V.has.cell (b:=bq) (c:=#[.int .i64 cg,.int .u8 xa,.int .i64 xb,.int .i64 xc,.int .i64 xd]) (e:=81) (f:=(0,0)) (by simp) 0,V.has.cell (b:=bq) (c:=#[.int .i64 cg,.int .u8 xa,.int .i64 xb,.int .i64 xc,.int .i64 xd]) (e:=81) (f:=(0,0)) (by simp) 4,V.has.cell (b:=w1.heap.size) (c:=#[.int .u8 1,.int .i64 id,.int .i64 n,.int .i64 sz]) (e:=79) (f:=(0,0)) (by simp) 3⟩:
         w'.cell? ⟨bq,0,none⟩=some (.int .i64 cg) /\ w'.cell? ⟨bq,4,none⟩=some (.int .i64 xd) /\ w'.cell? ⟨w1.heap.size,3,none⟩=some (.int .i64 sz)))
      obtain⟨d0,d4,e3⟩:=Hb.out _ _ HT5.out;have hsub1:(g:Int)-(cg:Int)=((g-cg:Nat):Int):=(by omega);have hsub2:(cg:Int)+(xd:Int)-(g:Int)-(sz:Int)=((cg+xd-g-sz:Nat):Int):=(by omega);have hgb:g <= 32768:=by omega
      go_wp2_with fail
      refine(lay9 _ HI5.out HT5.out (by rw[mk_len];exact hf) cg (g-cg) (by rw[mk_len];omega)).mono ?_;rintro e W6 ⟨⟨u,rfl⟩,l6,hI6,T6⟩;have HT6:=uh T6;have HI6:=uh hI6;clear T6 hI6 HI5 HT5 d0 d4 e3;obtain⟨d0,d4,e3⟩:=Hb.out _ _ HT6.out
      go_wp2_with fail
      have HL:=lay9 _ HI6.out HT6.out (by rw[lay_len,mk_len];exact hf) (g+sz) (cg+xd-g-sz) (by rw[lay_len,mk_len];omega);rw[Int.natCast_add]at HL;refine HL.mono ?_;clear HL;rintro e W7 ⟨⟨u,rfl⟩,l7,hI7,T7⟩;have HT7:=uh (HYc.out W7 l7 hI7 ((T7.perm (l2:=((bq,.cells #[.int .i64 cg,.int .u8 xa,.int .i64 xb,.int .i64 xc,.int .i64 xd] 81)::(l11++((w1.heap.size,.cells #[.int .u8 1,.int .i64 id,.int .i64 n,.int .i64 sz] 79)::lr)))++(l7++R)) po).drop));clear T7 hI7 HI6 HT6 d0 d4 e3 HYc
      go_wp2_with fail
      exact HT7.out
    · have Hno':=uh (show ∀c∈cs.take (i+1),¬takes c g sz by
        rw[htk];intro c hc;rcases List.mem_append.1 hc with h|h
        ·exact hno c h
        ·rw[List.mem_singleton.1 h];exact htak)
      have hcase:xa=1∨(xa≠1 /\ g<cg)∨(xa≠1 /\ ¬g<cg /\ cg+xd <= g)∨(xa≠1 /\ ¬g<cg /\ ¬cg+xd <= g /\ cg+xd<g+sz):=by
       by_cases h1:xa=1
       ·exact .inl h1
       · by_cases h2:g<cg
         ·exact .inr (.inl ⟨h1,h2⟩)
         · by_cases h3:cg+xd <= g
           ·exact .inr (.inr (.inl ⟨h1,h2,h3⟩))
           · exact .inr (.inr (.inr ⟨h1,h2,h3,by
               rcases Nat.lt_or_ge (cg+xd) (g+sz)with h4|h4
               ·exact h4
               ·exact absurd ⟨h1,by omega,by simp only;omega,by simp only;omega⟩ htak⟩))
      clear hno htk htak HY HN Hmk Hsrc;rcases hcase with h1|⟨h1,h2⟩|⟨h1,h2,h3⟩|⟨h1,h2,h3,h4⟩
      · have k1:((xa:Int) == 1)=true:=by rw[beq_iff_eq];omega
        have k2:(xa == 1)=true:=(by rw[beq_iff_eq];exact h1);clear h1
        go_wp2_with fail
        go_roundw
        case rel=>exact⟨i+1,by omega,by go_num,HT2.out.tail,Hno'.out⟩
        case measure=>simp[intOf];omega
      · have k1:((xa:Int) == 1)=false:=by rw[beq_eq_false_iff_ne];omega
        have k2:(xa == 1)=false:=(by rw[beq_eq_false_iff_ne];exact h1);have k3:decide ((g:Int)<(cg:Int))=true:=decide_eq_true (by omega);have k4:decide (g<cg)=true:=decide_eq_true h2;clear h1
        go_wp2_with fail
        go_roundw
        case rel=>exact⟨i+1,by omega,by go_num,HT2.out.tail,Hno'.out⟩
        case measure=>simp[intOf];omega
      · have k1:((xa:Int) == 1)=false:=by rw[beq_eq_false_iff_ne];omega
        have k2:(xa == 1)=false:=(by rw[beq_eq_false_iff_ne];exact h1);have k3:decide ((g:Int)<(cg:Int))=false:=decide_eq_false (by omega);have k4:decide (g<cg)=false:=decide_eq_false h2;have k5:decide ((cg:Int)+(xd:Int) <= (g:Int))=true:=decide_eq_true (by omega);have k6:decide (cg+xd <= g)=true:=decide_eq_true h3;clear h1
        go_wp2_with fail
        go_roundw
        case rel=>exact⟨i+1,by omega,by go_num,HT2.out.tail,Hno'.out⟩
        case measure=>simp[intOf];omega
      · have k1:((xa:Int) == 1)=false:=by rw[beq_eq_false_iff_ne];omega
        have k2:(xa == 1)=false:=(by rw[beq_eq_false_iff_ne];exact h1);have k3:decide ((g:Int)<(cg:Int))=false:=decide_eq_false (by omega);have k4:decide (g<cg)=false:=decide_eq_false h2;have k5:decide ((cg:Int)+(xd:Int) <= (g:Int))=false:=decide_eq_false (by omega);have k6:decide (cg+xd <= g)=false:=decide_eq_false h3;have k7:decide ((cg:Int)+(xd:Int)-(g:Int)<(sz:Int))=true:=decide_eq_true (by omega);clear h1
        go_wp2_with fail
        go_roundw
        case rel=>exact⟨i+1,by omega,by go_num,HT2.out.tail,Hno'.out⟩
        case measure=>simp[intOf];omega
  · have hie:i=cs.length:=by omega
    have hnl:¬(i:Int)<(cs.length:Int):=(by omega);have HNc:=uh (HN.out (by rw[hie,List.take_length]at hno;exact hno) wr ((T.perm (l2:=(l11++[(w1.heap.size,.cells #[.int .u8 1,.int .i64 id,.int .i64 n,.int .i64 sz] 79)])++(((rb,rN ao W cap lao L.length lcap)::lr)++R)) po).drop));clear T hno HY HN hie
    go_wp2_with fail
    exact HNc.out
end
section
open Go Go.RowKit Go.Shelf Go.IntWalk
attribute [local go_sem] Oper.semAt_some
theorem stepIn_store {F:Fence}{nn:Nat}{P:Program}{ops:Array Oper}{Q:Exit -> Act -> World -> Prop}{o:Oper}{ts:List Value}{ds:List Deferred}{K:Act -> World -> Prop}{E:Prop}{w:World}(hdst:o.dst=none)(hg:o.guard=none)(ty:TypeId)(x y:Operand)(ho:o.op=.store ty x y)
  (b off:Nat)(cells:Array Value)(hx:Act.eval { tmps:=ts.toArray,defers:=ds } x=.pointer (some ⟨b,off,none⟩))(hy:Act.eval { tmps:=ts.toArray,defers:=ds } y=.agg cells)
  (ht:w.there b off cells.size)(hi:(P.info? ty).map (·.size)=some cells.size)(h1:cells.all (·.oneCell')=true)(hF:Follows F nn P)(hK:K { tmps:=ts.toArray,defers:=ds } (w.setCells b off cells.toList)):
  if Region.wanted o (yielded ops (Act.tmps { tmps:=ts.toArray,defers:=ds }))=true then Oper.wpIn F nn P o { tmps:=ts.toArray,defers:=ds } w K Q else E:=by
 have hw:Region.wanted o (yielded ops (Act.tmps { tmps:=ts.toArray,defers:=ds }))=true:=by simp[Region.wanted,hg]
 rw[if_pos hw];refine hF.op o _ w K Q (by intro c hc;rw[ho]at hc;cases hc) ?_;refine wp_store_mid ty x y ho b off cells hx hy ht hi h1 ?_
 simpa [Act.put,hdst]using hK
theorem wpIn_mid1 {F:Fence}{nn:Nat}{P:Program}{c:Code}{Q:Exit -> Act -> World -> Prop}{a:Act}{w:World}{I:Nat -> World -> Prop}{FA:Nat -> Act}(h:c.wpIn F nn P (fun e a w=>e=.normal /\ ∃b:Nat,a=FA b /\ I b w) a w)(hq:∀b w,I b w -> Q .normal (FA b) w):c.wpIn F nn P Q a w:=
 wpIn_mono h fun e a w ⟨he,b,ha,hI⟩=>by subst he;subst ha;exact hq b w hI
def putBx (s sb:Nat)(g id n:Nat)(er:Value):List Blk:=
 [(s+1+1+1+1,.cells #[er] 33),(s+1+1+1,.cells #[.int .i64 n] 3),(s+1+1,.cells #[.int .i64 id] 3),(s+1,.cells #[.int .i64 g] 3),(s,bS sb)]
theorem putBx_cells (s sb g id n:Nat)(er:Value):∀x∈putBx s sb g id n er,x.2.isCells=true:=by
 intro x hx;simp only[putBx,List.mem_cons,List.not_mem_nil,or_false]at hx;rcases hx with rfl|rfl|rfl|rfl|rfl<;>rfl
def PutEnd (sb a aw tb bb:Nat)(W B:List Nat)(lb:List Blk)(cw:Int)(cs:List Ce)(g id n sz z:Nat)(er:Int)(l':List Blk):Prop:=
 (er=3 /\ l'=arBlks a aw W cw++(spBlk sb a tb bb::lb) /\ ∀c∈cs,¬takes c g sz)∨
 (er=0 /\ ∃c∈cs,takes c g sz /\ ∃(B':List Nat) (lb':List Blk) (cw':Int),SetIn B B' g 1 /\ BitIs bb B' z lb' /\ l'=arBlks a aw (putW W c g ⟨1,id,n,sz⟩) cw'++(spBlk sb a tb bb::lb'))
theorem arBlks_cells (a aw:Nat)(W:List Nat)(n:Int):∀x∈arBlks a aw W n,x.2.isCells=true:=by
 intro x hx;simp only[arBlks,List.mem_cons,List.not_mem_nil,or_false]at hx;rcases hx with rfl|rfl<;>rfl
theorem PutEnd.cells {sb a aw tb bb:Nat}{W B:List Nat}{lb:List Blk}{cw:Int}{cs:List Ce}{g id n sz z:Nat}{er:Int}{l':List Blk}(hB:BitIs bb B z lb)(h:PutEnd sb a aw tb bb W B lb cw cs g id n sz z er l'):∀x∈l',x.2.isCells=true:=by
 have go:∀{W':List Nat} {c:Int} {B':List Nat} {lb':List Blk},BitIs bb B' z lb' -> ∀x∈arBlks a aw W' c++(spBlk sb a tb bb::lb'),x.2.isCells=true:=by
  intro W' c B' lb' hb x hx;rcases List.mem_append.1 hx with hx|hx
  ·exact arBlks_cells _ _ _ _ x hx
  · rcases List.mem_cons.1 hx with rfl|hx
    ·rfl
    ·exact hb.cells x hx
 rcases h with⟨-,rfl,-⟩|⟨-,c,-,-,B',lb',cw',-,hb,rfl⟩
 ·exact go hB
 ·exact go hb
theorem KxC.of {Bs sb m nb:Nat}{onb oB oS:Obj}{X X':List Blk}{A B:World}(h:Turn ((nb,onb)::X) A ((nb,onb)::X') B)(hH:Has A ((nb,onb)::X))(hX:∀b∈keys X,b<m)(h1:(Bs,oB)∈X)(h1':(Bs,oB)∈X')(h2:(sb,oS)∈X)(h2':(sb,oS)∈X'):KxC Bs sb m A B:=by
 refine⟨(h.has.own _ _ (List.mem_cons_of_mem _ h1')).trans (hH.own _ _ (List.mem_cons_of_mem _ h1)).symm,(h.has.own _ _ (List.mem_cons_of_mem _ h2')).trans (hH.own _ _ (List.mem_cons_of_mem _ h2)).symm,fun b o e1 _ e3=>?_⟩
 by_cases hb:b=nb
 · subst hb
   rw[hH.own _ _ (List.mem_cons_self ..)]at e1
   cases e1
   exact h.has.own _ _ (List.mem_cons_self ..)
 · refine(h.same b (lt_of_block e1) (fun hm=>?_)).trans e1
   simp only[keys,List.map_cons,List.mem_cons]at hm;rcases hm with hm|hm
   ·exact hb hm
   · have:=hX b hm
     omega
theorem KpC.refl (n₀ Bs:Nat)(D:Nat -> Prop)(A:World):KpC n₀ Bs D A A:=⟨Below.refl _ _,rfl,Nat.le_refl _,fun _ _ h _ _=>h⟩
theorem chain_upto {L:List Ty}{W:List Nat}{g:Nat}:∀{cs:List Ce} {a e:Nat},Chain L W a cs e -> a <= g -> (∀c∈cs,c.1+c.2.size <= g) -> e <= g
 | [],_,_,h,ha,_=>by cases h;exact ha
 | c::cs,a,e,h,_,hc=>chain_upto h.2.2 (by have:=hc c (List.mem_cons_self ..);have:=h.1;omega) (fun d hd=>hc d (List.mem_cons_of_mem _ hd))
def ceObj (x:Ce):Obj:=.cells #[.int .i64 x.1,.int .u8 x.2.tag,.int .i64 x.2.typ,.int .i64 x.2.len,.int .i64 x.2.size] 81
theorem sput_in (nn:Nat)(hn:5 <= nn){w0:World}(w:World)(sb a aw tb bb:Nat){W B:List Nat}{lb R:List Blk}{cw:Int}(tao:Option Addr)(tcap:Nat)(L:List Ty)(hA:SpAt w sb a aw tb W tao tcap L)(hB:BitIs bb B (W.length/2) lb)(hBu:u64ok B)(hBl:(W.length/2+63)/64 <= B.length)(hRc:∀x∈R,x.2.isCells=true)
  (T:Turn [] w0 (arBlks a aw W cw++(spBlk sb a tb bb::lb)++R) w)(hTab:TabAt w0 tb tao tcap L)(hF0:Fields w0)(hf:W.length <= 65536)(hu:∀v∈W,v<18446744073709551616)(hTy:∀t∈L,TyIn t)(hL:L.length <= 1000)
  (cs:List Ce)(hC:Chain L W 0 cs (W.length/2))(g id n sz:Nat)(he:tyErr L id n=0)(hs:tySize L id n=sz)(hm:(Hd.mk 1 id n sz).may)(hg:g<W.length/2):
  CallsIn Fence.wide nn prog 16 #[pt sb,.int .i64 g,.int .i64 id,.int .i64 n] w fun e w'=>∃(er:Int) (l':List Blk),e=.returned (.int .i64 er) /\ Turn [] w0 (l'++R) w' /\ PutEnd sb a aw tb bb W B lb cw cs g id n sz (W.length/2) er l':=by
 have h1:1 <= nn:=by omega
 have h2:1 <= nn-1-1:=by omega
 have h3:Fence.wide.fn 16:= trivial;have h5:Fence.wide.fn 65:= trivial;have h6:Fence.wide.fn 64:= trivial;have h7:Fence.wide.fn 149:= trivial;have h8:Fence.wide.fn 13:= trivial;have hro:Fence.wide.round=none:=rfl;have hszH:=sz_head;have hoH:=hd_one ⟨1,id,n,sz⟩;simp only at hoH;have Hof:=uh (fun w' (hB:Below w.heap.size w w')=>hof w' L hTy hL tb tao tcap (hA.below hB).tab id n);unfold ofCells at Hof;rw[he,if_pos rfl,hs]at Hof;have Hgr:=uh (fun w' (hB:Below w.heap.size w w')=>sgran w' (hA.below hB).c0 (hA.below hB).ar hf);have T0:=(((((Turn.refl (Has.nil w)).alloc (bS sb)).alloc (.cells #[.int .i64 g] 3)).alloc (.cells #[.int .i64 id] 3)).alloc (.cells #[.int .i64 n] 3)).alloc (.cells #[.int .i64 0] 33);simp only[World.size_alloc]at T0;have HT0:Hid (Turn [] w (putBx w.heap.size sb g id n (.int .i64 0)) (((((w.alloc (bS sb)).alloc (.cells #[.int .i64 g] 3)).alloc (.cells #[.int .i64 id] 3)).alloc (.cells #[.int .i64 n] 3)).alloc (.cells #[.int .i64 0] 33))):=uh T0
 have hq0:∀w' (Y:List Blk),Turn [] w (Y++putBx w.heap.size sb g id n (.int .i64 0)) w' -> w'.cell? ⟨w.heap.size,0,none⟩=some (pt sb):=fun w' Y V=>V.has.cell (b:=w.heap.size) (c:=#[pt sb]) (e:=26) (f:=(0,0)) (by simp[putBx]) 0;have hq:=hq0 _ [] HT0.out
 have HS:=uh (fun w' (Y:List Blk) (V:Turn [] w (Y++putBx w.heap.size sb g id n (.int .i64 0)) w')=>(⟨hq0 w' Y V,(hA.below V.below).c1,
    V.has.cell (b:=w.heap.size+1+1) (c:=#[.int .i64 id]) (e:=3) (f:=(0,0)) (by simp[putBx]) 0,V.has.cell (b:=w.heap.size+1+1+1) (c:=#[.int .i64 n]) (e:=3) (f:=(0,0)) (by simp[putBx]) 0⟩:
    w'.cell? ⟨w.heap.size,0,none⟩=some (pt sb) /\ w'.cell? ⟨sb,1,none⟩=some (pt tb) /\ w'.cell? ⟨w.heap.size+1+1,0,none⟩=some (.int .i64 id) /\ w'.cell? ⟨w.heap.size+1+1+1,0,none⟩=some (.int .i64 n)))
 have HS6:=uh (fun w' (Y:List Blk) (V:Turn [] w (Y++putBx w.heap.size sb g id n (.int .i64 0)) w')=>(⟨hq0 w' Y V,V.has.cell (b:=w.heap.size+1) (c:=#[.int .i64 g]) (e:=3) (f:=(0,0)) (by simp[putBx]) 0⟩:
    w'.cell? ⟨w.heap.size,0,none⟩=some (pt sb) /\ w'.cell? ⟨w.heap.size+1,0,none⟩=some (.int .i64 g)))
 have Hmake:=uh (fun(l0 Lr:List Blk) (wa w':World) (c:Int) (V:Turn l0 wa (arBlks a aw W c++Lr) w') (hF:Fields w') (hT:TabAt w' tb tao tcap L) (hr:g+sz <= W.length/2)=>smake w' hF V hf L hTy hL tao tcap hT g id n sz he hs hm hr);have HA:=uh hA;have HT:=uh T;have HB:=uh hB;have HTab:=uh hTab;have HF0:=uh hF0;have HC:=uh hC;have hzb:W.length/2 <= 32768:=by omega
 obtain⟨z,hz⟩:∃z:Nat,W.length/2=z:=⟨_,rfl⟩;rw[hz]at Hgr HB hg HC hBl hzb ⊢;have HZ:=uh hz;have k0:decide ((g:Int)<0)=false:=decide_eq_false (by omega);have k1:decide ((z:Int) <= (g:Int))=false:=decide_eq_false (by omega);have k2:decide (z <= g)=false:=decide_eq_false (by omega);clear T0 hA T hB hTab hF0 hC hz he hs hq0;refine callsIn_of_wp_marks func16 rfl h3 ?_ hro;simp only[ntmps16,List.size_toArray,List.length_cons,List.length_nil,Nat.reduceAdd,Nat.reduceSub,Array.replicate_succ,Array.replicate_zero,List.push_toArray,List.append_toArray,List.nil_append,List.cons_append]
 gi_wp2_with fail
 have HT1:=uh HT0.out.drew;generalize((((w.alloc (bS sb)).alloc (.cells #[.int .i64 g] 3)).alloc (.cells #[.int .i64 id] 3)).alloc (.cells #[.int .i64 n] 3)).alloc (.cells #[.int .i64 0] 33)=W1 at*;clear HT0 hq
 apply wpIn_mid1 (I:=fun b9 w'=>Turn [] w ((b9,.cells #[.int .u8 1,.int .i64 id,.int .i64 n,.int .i64 sz] 79)::putBx w.heap.size sb g id n (.int .i64 0)) w')
 case h=>
  have T1:=HT1.out;have hS1:=HS.out _ [] T1;refine wpIn_region_noPanic ?_;refine wpIn_region_listedHI (S:=fun W'=>W'.cell? ⟨w.heap.size,0,none⟩=some (pt sb) /\ W'.cell? ⟨sb,1,none⟩=some (pt tb) /\ W'.cell? ⟨w.heap.size+1+1,0,none⟩=some (.int .i64 id) /\ W'.cell? ⟨w.heap.size+1+1+1,0,none⟩=some (.int .i64 n)) 13 [false,false,false,false,false,false,false,false,false,false,false,false,false] rfl rfl (by kernel_rfl) ?_;refine tkJ 0 17 hro hS1 (fun w hSw=>hSw.1) ?_;refine tkI 1 18 hro hS1 ?_;refine tkI 2 19 hro hS1 ?_;refine tkJ 3 20 hro hS1 (fun w hSw=>hSw.2.1) ?_;refine tkJ 4 21 hro hS1 (fun w hSw=>hSw.2.2.1) ?_;refine tkJ 5 22 hro hS1 (fun w hSw=>hSw.2.2.2) ?_;clear hS1;generalize W1.drew=V0 at T1 ⊢;refine wpAnyHI_two (i:=6) (j:=10) (by kernel_rfl) rfl rfl (fun K hK=>?_) (fun K hK=>?_)
  · go_simp
    refine(callsIn_wide.2 (Hof.out _ T1.below)).mono ?_;rintro e V1 ⟨rfl,hB⟩;have T2:=T1.call hB;have hS2:=HS.out _ [] T2;refine hK.out _ _ hS2 ?_;clear hK K;simp only[st0,st1,st2];refine tkI 7 16 hro hS2 ?_;refine tkI 8 24 hro hS2 ?_;refine tkI 9 25 hro hS2 ?_;refine wpAnyHI_call (i:=10) (by kernel_rfl) rfl (fun K hK=>?_)
    go_simp
    have T3:Turn [] w ([(V1.heap.size,zH)]++putBx w.heap.size sb g id n (.int .i64 0)) (V1.alloc zH):=T2.alloc zH;have hS3:=HS.out _ _ T3;refine hK.out _ _ hS3 ?_;clear hK K;simp only[st0,st1,st2];clear hS3 hS2 T2;generalize V1.alloc zH=V3 at*;generalize V1.heap.size=b9 at*;have hth:=T3.there1;have U:=T3.laid [.int .u8 1,.int .i64 id,.int .i64 n,.int .i64 sz] rfl;refine wpAnyHI_call (i:=11) (by kernel_rfl) rfl (fun K hK=>?_);refine stepIn_store rfl rfl 79 _ _ rfl _ 0 #[.int .u8 1,.int .i64 id,.int .i64 n,.int .i64 sz] rfl rfl hth hszH hoH (follows_wide _ _) ?_;have hS4:=HS.out _ [_] U;refine hK.out _ _ hS4 ?_;clear hK K;simp only[st0,st1,st2];refine tkI 12 10 hro hS4 ?_;refine wpAnyHI_done (by kernel_rfl) ?_ _;refine NoPanic.normal ?_;exact⟨rfl,b9,rfl,U⟩
  · go_simp
    have T2:Turn [] w ([(V0.heap.size,zH)]++putBx w.heap.size sb g id n (.int .i64 0)) (V0.alloc zH):=T1.alloc zH;have hS2:=HS.out _ _ T2;refine hK.out _ _ hS2 ?_;clear hK K;simp only[st0,st1,st2];clear hS2;generalize V0.alloc zH=V2 at T2 ⊢;generalize V0.heap.size=b9 at T2 ⊢;refine wpAnyHI_call (i:=6) (by kernel_rfl) rfl (fun K hK=>?_)
    go_simp
    refine(callsIn_wide.2 (Hof.out _ T2.below)).mono ?_;rintro e V3 ⟨rfl,hB⟩;have T3:=T2.call hB;have hS3:=HS.out _ [_] T3;refine hK.out _ _ hS3 ?_;clear hK K;simp only[st0,st1,st2];refine tkI 7 16 hro hS3 ?_;refine tkI 8 24 hro hS3 ?_;refine tkI 9 25 hro hS3 ?_;clear hS3;have hth:=T3.there1;have U:=T3.laid [.int .u8 1,.int .i64 id,.int .i64 n,.int .i64 sz] rfl;refine wpAnyHI_call (i:=11) (by kernel_rfl) rfl (fun K hK=>?_);refine stepIn_store rfl rfl 79 _ _ rfl _ 0 #[.int .u8 1,.int .i64 id,.int .i64 n,.int .i64 sz] rfl rfl hth hszH hoH (follows_wide _ _) ?_;have hS4:=HS.out _ [_] U;refine hK.out _ _ hS4 ?_;clear hK K;simp only[st0,st1,st2];refine tkI 12 10 hro hS4 ?_;refine wpAnyHI_done (by kernel_rfl) ?_ _;refine NoPanic.normal ?_;exact⟨rfl,b9,rfl,U⟩
 case hq=>
  intro b9 w6 T5;have HT5:=uh T5;have T6:Turn [] w ([(b9,.cells #[.int .u8 1,.int .i64 id,.int .i64 n,.int .i64 sz] 79)]++putBx w.heap.size sb g id n (.int .i64 0)) w6.drew:=T5.drew;have hS6:=HS6.out _ _ T6;clear T5
  gi_wp2_with fail
  refine wpIn_region_noPanic ?_;refine wpIn_region_listedHI (S:=fun W'=>W'.cell? ⟨w.heap.size,0,none⟩=some (pt sb) /\ W'.cell? ⟨w.heap.size+1,0,none⟩=some (.int .i64 g)) 8 [false,false,false,false,false,false,false,false] rfl rfl (by kernel_rfl) ?_;refine tkJ 0 29 hro hS6 (fun w hSw=>hSw.2) ?_;refine tkI 1 30 hro hS6 ?_;refine tkI 2 31 hro hS6 ?_;refine tkJ 3 32 hro hS6 (fun w hSw=>hSw.2) ?_;refine tkJ 4 33 hro hS6 (fun w hSw=>hSw.1) ?_;refine wpAnyHI_call (i:=5) (by kernel_rfl) rfl (fun K hK=>?_)
  go_simp
  refine(callsIn_wide.2 (Hgr.out _ T6.below)).mono ?_;rintro e V6 ⟨rfl,hw6⟩;rw[hw6];clear hw6 V6;refine hK.out _ _ hS6 ?_;clear hK K;simp only[st0,st1,st2];refine tkI 6 35 hro hS6 ?_;refine tkI 7 36 hro hS6 ?_;refine wpAnyHI_done (by kernel_rfl) ?_ _;refine NoPanic.normal ?_;have hq6:=hS6.1;have T7:=(HT5.out.alloc (bS sb)).drew;have hsz7:w6.heap.size<(w6.alloc (bS sb)).drew.heap.size:=by simp
  have hsz6:=T6.size;clear hS6 HS HS6 T6
  gi_wp2_with (first
   | (gi_at_call 65;refine(scells_in (nn-1) sb _).mono ?_;rintro e w' ⟨rfl,hw⟩;rw[hw];clear hw w')
   | fail)
  generalize(w6.alloc (bS sb)).drew=W0 at*;have T8:Turn [] w ((w6.heap.size,bS sb)::(b9,.cells #[.int .u8 1,.int .i64 id,.int .i64 n,.int .i64 sz] 79)::putBx w.heap.size sb g id n (.int .i64 0)) W0:=T7;have hsz6':w.heap.size <= w6.heap.size:=hsz6;clear T7 hsz6 hq6;generalize w6.heap.size=Bs at*;have hBs:W0.heap[Bs]?= some (bS sb):=T8.has.own _ _ (List.mem_cons_self ..);have hsbl:sb<w.heap.size:=World.block_lt_of_cell? w _ HA.out.c0
  have hBLc:∀x∈(Bs,bS sb)::(b9,.cells #[.int .u8 1,.int .i64 id,.int .i64 n,.int .i64 sz] 79)::putBx w.heap.size sb g id n (.int .i64 0),x.2.isCells=true:=by
   intro x hx;rcases List.mem_cons.1 hx with rfl|hx
   ·rfl
   rcases List.mem_cons.1 hx with rfl|hx
   ·rfl
   ·exact putBx_cells _ _ _ _ _ _ x hx
  apply wpIn_rangeFunc_f (β:=Nat) hro h1 (gf:=149) (lb:=#[pt Bs]) rfl h7 (enters_of func149 (by kernel_rfl) rfl)
   (scells_next (nn-1) (by omega) w sb a aw tb W tao tcap L HA.out hf hu hTy hL cs (by rw[HZ.out];exact HC.out) Bs (fun b=>w.heap.size <= b /\ b<W0.heap.size /\ b≠Bs) W0 (fun b h=>h.2.1) T8.below hBs)
   (fun h k=>h.t k) (KpC.b T8.size hsz7) (fun h k=>h.x hsbl (fun b hb=>hb.2.1) k) (fun h k=>h.p hsbl (fun b hb=>hb.2.1) k) (Below.refl _ _) (fun _=>rfl)
   (fun pre W'=>(∀c∈pre,c.1+c.2.size <= g) /\ Turn [] w ((Bs,bS sb)::(b9,.cells #[.int .u8 1,.int .i64 id,.int .i64 n,.int .i64 sz] 79)::putBx w.heap.size sb g id n (.int .i64 0)) W')
   (fun c pre W'=>c=.ret /\ ∃(er:Int) (l':List Blk),PutEnd sb a aw tb bb W B lb cw cs g id n sz z er l' /\ Turn [] w0 (putBx w.heap.size sb g id n (.int .i64 er)++(l'++R)) W')
   (fun x nb pre W'=>(∀c∈pre,c.1+c.2.size <= g) /\ Turn [] w ((nb,ceObj x)::(Bs,bS sb)::(b9,.cells #[.int .u8 1,.int .i64 id,.int .i64 n,.int .i64 sz] 79)::putBx w.heap.size sb g id n (.int .i64 0)) W')
   (fun s A D row ⟨e1,hT⟩ hg hr=>⟨e1,hT.grownB T8.size hBLc hg hr⟩)
   (fun c s A D row ⟨e0,er,l',e1,hT⟩ hg hr=>⟨e0,er,l',e1,hT.grownB (Nat.le_trans HT.out.size T8.size) (fun x hx=>(List.mem_append.1 hx).elim (putBx_cells _ _ _ _ _ _ x) (fun hx=>(List.mem_append.1 hx).elim (e1.cells HB.out x) (hRc x))) hg hr⟩)
   (fun x nb s A D row ⟨e1,hT⟩ hg hr=>⟨e1,hT.grownB T8.size (by
     intro y hy;rcases List.mem_cons.1 hy with rfl|hy
     ·rfl
     ·exact hBLc y hy) hg hr⟩)
   ⟨fun c hc=>(by cases hc),T8⟩
  case hassign=>
   rintro l1 pre x W2 hnx ⟨e1,hT⟩;have T2:=hT.alloc (.cells #[.int .i64 0,.int .u8 0,.int .i64 0,.int .i64 0,.int .i64 0] 81);have hth:(W2.alloc (.cells #[.int .i64 0,.int .u8 0,.int .i64 0,.int .i64 0,.int .i64 0] 81)).there W2.heap.size 0 5:=T2.there1;have HT2:=uh (T2.laid [.int .i64 x.1,.int .u8 x.2.tag,.int .i64 x.2.typ,.int .i64 x.2.len,.int .i64 x.2.size] rfl);have HX:=uh (((Turn.refl (Has.nil W2)).alloc (.cells #[.int .i64 0,.int .u8 0,.int .i64 0,.int .i64 0,.int .i64 0] 81)).laid [.int .i64 x.1,.int .u8 x.2.tag,.int .i64 x.2.typ,.int .i64 x.2.len,.int .i64 x.2.size] rfl);have hszC:=sz_cell;have hoC:=ce_one x;have hl9:w.heap.size <= W2.heap.size:=hT.size;have hB9:Bs<W2.heap.size:=hT.has.lt (by simp[keys]);unfold ceArgs;clear T2 hnx hT
   gi_wp2_with (first
    | (show wpListIn _ _ _ _ _ (⟨_,Op.store 81 _ _,_,_,_,_⟩::_) _ _;refine wpListIn_by (follows_round _ _ _) rfl (by intro c h;cases h) (wp_store_mid 81 _ _ rfl _ 0 #[.int .i64 x.1,.int .u8 x.2.tag,.int .i64 x.2.typ,.int .i64 x.2.len,.int .i64 x.2.size] rfl rfl hth hszC hoC ?_);clear hth)
    | fail)
   have HK:=uh (⟨((KeepsOthers.alloc _ _).trans (keepsOthers_setCells _ _ _)).from _,KpC.of HX.out hl9 hB9 (fun b hb=>by cases hb) (fun b hb=>⟨hb.1,hb.2.2⟩)⟩:
    KeepsFrom W0.heap.size W2 ((W2.alloc (.cells #[.int .i64 0,.int .u8 0,.int .i64 0,.int .i64 0,.int .i64 0] 81)).setCells W2.heap.size 0 [.int .i64 x.1,.int .u8 x.2.tag,.int .i64 x.2.typ,.int .i64 x.2.len,.int .i64 x.2.size]) /\
    KpC w.heap.size Bs (fun b=>w.heap.size <= b /\ b<W0.heap.size /\ b≠Bs) W2 ((W2.alloc (.cells #[.int .i64 0,.int .u8 0,.int .i64 0,.int .i64 0,.int .i64 0] 81)).setCells W2.heap.size 0 [.int .i64 x.1,.int .u8 x.2.tag,.int .i64 x.2.typ,.int .i64 x.2.len,.int .i64 x.2.size]))
   clear HX hl9 hB9 hoC;generalize(W2.alloc (.cells #[.int .i64 0,.int .u8 0,.int .i64 0,.int .i64 0,.int .i64 0] 81)).setCells W2.heap.size 0 [.int .i64 x.1,.int .u8 x.2.tag,.int .i64 x.2.typ,.int .i64 x.2.len,.int .i64 x.2.size]=W3 at*;generalize W2.heap.size=nb at*;exact⟨HK.out.1,HK.out.2,nb,rfl,e1,HT2.out⟩
  case hbody=>
   rintro l1 pre x nb W2 ⟨post,hcs⟩ ⟨e1,hT⟩;have hch:=HC.out;rw[hcs]at hch;obtain⟨hc1,hst,hc2⟩:=hch.split;have hge:=chain_upto hc1 (Nat.zero_le _) e1;have hend:=hc2.le;have hlt3:=hst.2.2;have q0:W2.cell? ⟨nb,0,none⟩=some (.int .i64 x.1):=hT.cell1 0;have q1:W2.cell? ⟨nb,1,none⟩=some (.int .u8 x.2.tag):=hT.cell1 1;have q4:W2.cell? ⟨nb,4,none⟩=some (.int .i64 x.2.size):=hT.cell1 4;have qg:W2.cell? ⟨w.heap.size+1,0,none⟩=some (.int .i64 g):=hT.has.cell (b:=w.heap.size+1) (c:=#[.int .i64 g]) (e:=3) (f:=(0,0)) (by simp[putBx]) 0;have q9:W2.cell? ⟨b9,3,none⟩=some (.int .i64 sz):=hT.has.cell (b:=b9) (c:=#[.int .u8 1,.int .i64 id,.int .i64 n,.int .i64 sz]) (e:=79) (f:=(0,0)) (by simp) 3;have hxm:x∈cs:=by rw[hcs];simp
   by_cases hskip:x.1+x.2.size <= g
   · have k3:decide ((x.1:Int)+(x.2.size:Int) <= (g:Int))=true:=decide_eq_true (by omega)
     have k4:decide (x.1+x.2.size <= g)=true:=decide_eq_true hskip;have HX:=uh (⟨fun c hc=>(List.mem_append.1 hc).elim (e1 c) (fun h=>by rw[List.mem_singleton.1 h];exact hskip),hT.tail⟩:(∀c∈pre++[x],c.1+c.2.size <= g) /\ Turn [] w ((Bs,bS sb)::(b9,.cells #[.int .u8 1,.int .i64 id,.int .i64 n,.int .i64 sz] 79)::putBx w.heap.size sb g id n (.int .i64 0)) W2);have hxb:x.1+x.2.size <= 32768:=(by omega);clear hT e1 hch hc1 hst hc2 hcs HC hskip
     gi_wp2_with fail
     exact⟨KeepsFrom.refl _ _,KpC.refl _ _ _ _,HX.out.1,HX.out.2⟩
   · have k3:decide ((x.1:Int)+(x.2.size:Int) <= (g:Int))=false:=decide_eq_false (by omega)
     have k4:decide (x.1+x.2.size <= g)=false:=decide_eq_false hskip;have hxb:x.1+x.2.size <= 32768:=(by omega);have Tabs:=(HT.out.grow hT);have TX:Turn ((nb,ceObj x)::(((Bs,bS sb)::(b9,.cells #[.int .u8 1,.int .i64 id,.int .i64 n,.int .i64 sz] 79)::putBx w.heap.size sb g id n (.int .i64 0))++(arBlks a aw W cw++(spBlk sb a tb bb::lb)++R))) W2 ((nb,ceObj x)::(((Bs,bS sb)::(b9,.cells #[.int .u8 1,.int .i64 id,.int .i64 n,.int .i64 sz] 79)::putBx w.heap.size sb g id n (.int .i64 0))++(arBlks a aw W cw++(spBlk sb a tb bb::lb)++R))) W2:=Turn.refl Tabs.has;have HkX:=uh (fun b (hb:b∈keys (((Bs,bS sb)::(b9,.cells #[.int .u8 1,.int .i64 id,.int .i64 n,.int .i64 sz] 79)::putBx w.heap.size sb g id n (.int .i64 0))++(arBlks a aw W cw++(spBlk sb a tb bb::lb)++R)))=>(HT.out.grow T8).has.lt hb);have HH2:=uh TX.has;have HTabs:=uh Tabs;have HTX:=uh TX;clear TX Tabs
     by_cases htak:takes x g sz
     · have⟨t1,t2,t3,t4⟩:=htak
       have k5:((x.2.tag:Int) == 1)=false:=(by rw[beq_eq_false_iff_ne];omega);have k6:(x.2.tag == 1)=false:=(by rw[beq_eq_false_iff_ne];exact t1);have k7:decide ((x.1:Int)+(x.2.size:Int)-(g:Int)<(sz:Int))=false:=decide_eq_false (by omega);have HFT:=uh (fun w' X (V:Turn ((nb,ceObj x)::(((Bs,bS sb)::(b9,.cells #[.int .u8 1,.int .i64 id,.int .i64 n,.int .i64 sz] 79)::putBx w.heap.size sb g id n (.int .i64 0))++(arBlks a aw W cw++(spBlk sb a tb bb::lb)++R))) W2 X w')=>(⟨range_below HF0.out (HTabs.out.trans V).below,HTab.out.below (HTabs.out.trans V).below⟩:Fields w' /\ TabAt w' tb tao tcap L));have HT14:=uh ((HTX.out.perm (l2:=arBlks a aw W cw++((nb,ceObj x)::(((Bs,bS sb)::(b9,.cells #[.int .u8 1,.int .i64 id,.int .i64 n,.int .i64 sz] 79)::putBx w.heap.size sb g id n (.int .i64 0))++((spBlk sb a tb bb::lb)++R)))) po).drew)
       have HS14:=uh (fun w' (W':List Nat) (c':Int) (V:Turn ((nb,ceObj x)::(((Bs,bS sb)::(b9,.cells #[.int .u8 1,.int .i64 id,.int .i64 n,.int .i64 sz] 79)::putBx w.heap.size sb g id n (.int .i64 0))++(arBlks a aw W cw++(spBlk sb a tb bb::lb)++R))) W2 (arBlks a aw W' c'++((nb,ceObj x)::(((Bs,bS sb)::(b9,.cells #[.int .u8 1,.int .i64 id,.int .i64 n,.int .i64 sz] 79)::putBx w.heap.size sb g id n (.int .i64 0))++((spBlk sb a tb bb::lb)++R)))) w')=>(⟨V.has.cell (b:=w.heap.size) (c:=#[pt sb]) (e:=26) (f:=(0,0)) (by simp[putBx,spBlk]) 0,V.has.cell (b:=sb) (c:=#[pt a,pt tb,pt bb]) (e:=146) (f:=(0,0)) (by simp[putBx,spBlk]) 0,V.has.cell (b:=sb) (c:=#[pt a,pt tb,pt bb]) (e:=146) (f:=(0,0)) (by simp[putBx,spBlk]) 1,V.has.cell (b:=w.heap.size+1) (c:=#[.int .i64 g]) (e:=3) (f:=(0,0)) (by simp[putBx,spBlk]) 0,V.has.cell (b:=w.heap.size+1+1) (c:=#[.int .i64 id]) (e:=3) (f:=(0,0)) (by simp[putBx,spBlk]) 0,V.has.cell (b:=w.heap.size+1+1+1) (c:=#[.int .i64 n]) (e:=3) (f:=(0,0)) (by simp[putBx,spBlk]) 0⟩:
        w'.cell? ⟨w.heap.size,0,none⟩=some (pt sb) /\ w'.cell? ⟨sb,0,none⟩=some (pt a) /\ w'.cell? ⟨sb,1,none⟩=some (pt tb) /\ w'.cell? ⟨w.heap.size+1,0,none⟩=some (.int .i64 g) /\ w'.cell? ⟨w.heap.size+1+1,0,none⟩=some (.int .i64 id) /\ w'.cell? ⟨w.heap.size+1+1+1,0,none⟩=some (.int .i64 n)))
       have Hm14:=uh (Hmake.out _ _ _ _ _ HT14.out (HFT.out _ _ HT14.out).1 (HFT.out _ _ HT14.out).2 (by rw[HZ.out];omega));have hS14:=HS14.out _ _ _ HT14.out;have Hge:=uh (⟨hxm,htak⟩:x∈cs /\ takes x g sz);clear hch hc1 hst hc2 hcs HC htak hT e1 t1
       gi_wp2_with fail
       refine wpIn_region_round (S:=fun W'=>W'.cell? ⟨w.heap.size,0,none⟩=some (pt sb) /\ W'.cell? ⟨sb,0,none⟩=some (pt a) /\ W'.cell? ⟨sb,1,none⟩=some (pt tb) /\ W'.cell? ⟨w.heap.size+1,0,none⟩=some (.int .i64 g) /\ W'.cell? ⟨w.heap.size+1+1,0,none⟩=some (.int .i64 id) /\ W'.cell? ⟨w.heap.size+1+1+1,0,none⟩=some (.int .i64 n)) 13 [false,false,false,false,false,false,false,false,false,false,false,false,false] rfl rfl (by kernel_rfl) (by rfl) (by rintro⟨a,w,h⟩;exact h) ?_;refine tkB 0 61 hS14 (fun w hSw=>hSw.1) ?_;refine tkA 1 62 hS14 ?_;refine tkA 2 63 hS14 ?_;refine tkB 3 64 hS14 (fun w hSw=>hSw.2.1) ?_;refine tkB 4 65 hS14 (fun w hSw=>hSw.1) ?_;refine tkA 5 66 hS14 ?_;refine tkA 6 67 hS14 ?_;refine tkB 7 68 hS14 (fun w hSw=>hSw.2.2.1) ?_;refine tkB 8 69 hS14 (fun w hSw=>hSw.2.2.2.1) ?_;refine tkB 9 70 hS14 (fun w hSw=>hSw.2.2.2.2.1) ?_;refine tkB 10 71 hS14 (fun w hSw=>hSw.2.2.2.2.2) ?_;refine rdyA 11 (fun K hK=>?_)
       go_simp
       refine Hm14.out.mono ?_;rintro e w3 ⟨rfl,c3,T15⟩;have hS15:=HS14.out _ _ _ T15;have HT15:=uh T15;refine hK.out _ _ hS15 fun _=>?_;clear hK K T15 Hm14 hS14 HT14;simp only[st0,st1,st2];refine tkA 12 13 hS15 ?_;refine wpAnyH_done (by kernel_rfl) ?_ _;clear hS15;have HT17:=uh ((HT15.out.perm (l2:=lb++(arBlks a aw (mk W g ⟨1,id,n,sz⟩) c3++((nb,ceObj x)::(((Bs,bS sb)::(b9,.cells #[.int .u8 1,.int .i64 id,.int .i64 n,.int .i64 sz] 79)::putBx w.heap.size sb g id n (.int .i64 0))++(spBlk sb a tb bb::R))))) po).drew)
       have HS17:=uh (fun w' (lb':List Blk) (V:Turn ((nb,ceObj x)::(((Bs,bS sb)::(b9,.cells #[.int .u8 1,.int .i64 id,.int .i64 n,.int .i64 sz] 79)::putBx w.heap.size sb g id n (.int .i64 0))++(arBlks a aw W cw++(spBlk sb a tb bb::lb)++R))) W2 (lb'++(arBlks a aw (mk W g ⟨1,id,n,sz⟩) c3++((nb,ceObj x)::(((Bs,bS sb)::(b9,.cells #[.int .u8 1,.int .i64 id,.int .i64 n,.int .i64 sz] 79)::putBx w.heap.size sb g id n (.int .i64 0))++(spBlk sb a tb bb::R))))) w')=>(⟨V.has.cell (b:=w.heap.size) (c:=#[pt sb]) (e:=26) (f:=(0,0)) (by simp[putBx,spBlk]) 0,V.has.cell (b:=sb) (c:=#[pt a,pt tb,pt bb]) (e:=146) (f:=(0,0)) (by simp[putBx,spBlk]) 2,V.has.cell (b:=w.heap.size+1) (c:=#[.int .i64 g]) (e:=3) (f:=(0,0)) (by simp[putBx,spBlk]) 0⟩:
        w'.cell? ⟨w.heap.size,0,none⟩=some (pt sb) /\ w'.cell? ⟨sb,2,none⟩=some (pt bb) /\ w'.cell? ⟨w.heap.size+1,0,none⟩=some (.int .i64 g)))
       have Hb17:=uh (bset _ bb z g B lb (arBlks a aw (mk W g ⟨1,id,n,sz⟩) c3++((nb,ceObj x)::(((Bs,bS sb)::(b9,.cells #[.int .u8 1,.int .i64 id,.int .i64 n,.int .i64 sz] 79)::putBx w.heap.size sb g id n (.int .i64 0))++(spBlk sb a tb bb::R)))) HB.out hBu hBl hg (by omega) HT17.out);have hS17:=HS17.out _ _ HT17.out;clear HT15 HS14
       gi_wp2_with fail
       refine wpIn_region_round (S:=fun W'=>W'.cell? ⟨w.heap.size,0,none⟩=some (pt sb) /\ W'.cell? ⟨sb,2,none⟩=some (pt bb) /\ W'.cell? ⟨w.heap.size+1,0,none⟩=some (.int .i64 g)) 6 [false,false,false,false,false,false] rfl rfl (by kernel_rfl) (by rfl) (by rintro⟨a,w,h⟩;exact h) ?_;refine tkB 0 76 hS17 (fun w hSw=>hSw.1) ?_;refine tkA 1 77 hS17 ?_;refine tkA 2 78 hS17 ?_;refine tkB 3 79 hS17 (fun w hSw=>hSw.2.1) ?_;refine tkB 4 80 hS17 (fun w hSw=>hSw.2.2) ?_;refine rdyA 5 (fun K hK=>?_)
       go_simp
       refine Hb17.out.mono ?_;rintro e w4 ⟨rfl,B',lb',hsi,hbi,T18⟩;have hS18:=HS17.out _ _ T18;have HT18:=uh T18;have HSI:=uh (⟨hsi,hbi⟩:SetIn B B' g 1 /\ BitIs bb B' z lb');refine hK.out _ _ hS18 fun _=>?_;clear hK K T18 Hb17 hS17 HT17 hsi hbi;simp only[st0,st1,st2];refine wpAnyH_done (by kernel_rfl) ?_ _;clear hS18
       have HS19:=uh (fun w' (W':List Nat) (c':Int) (V:Turn ((nb,ceObj x)::(((Bs,bS sb)::(b9,.cells #[.int .u8 1,.int .i64 id,.int .i64 n,.int .i64 sz] 79)::putBx w.heap.size sb g id n (.int .i64 0))++(arBlks a aw W cw++(spBlk sb a tb bb::lb)++R))) W2 (arBlks a aw W' c'++((nb,ceObj x)::(((Bs,bS sb)::(b9,.cells #[.int .u8 1,.int .i64 id,.int .i64 n,.int .i64 sz] 79)::putBx w.heap.size sb g id n (.int .i64 0))++(spBlk sb a tb bb::(lb'++R))))) w')=>(⟨V.has.cell (b:=w.heap.size) (c:=#[pt sb]) (e:=26) (f:=(0,0)) (by simp[putBx,spBlk]) 0,V.has.cell (b:=w.heap.size+1) (c:=#[.int .i64 g]) (e:=3) (f:=(0,0)) (by simp[putBx,spBlk]) 0,V.has.cell (b:=nb) (c:=#[.int .i64 x.1,.int .u8 x.2.tag,.int .i64 x.2.typ,.int .i64 x.2.len,.int .i64 x.2.size]) (e:=81) (f:=(0,0)) (by simp[ceObj]) 0,V.has.cell (b:=b9) (c:=#[.int .u8 1,.int .i64 id,.int .i64 n,.int .i64 sz]) (e:=79) (f:=(0,0)) (by simp) 3⟩:
        w'.cell? ⟨w.heap.size,0,none⟩=some (pt sb) /\ w'.cell? ⟨w.heap.size+1,0,none⟩=some (.int .i64 g) /\ w'.cell? ⟨nb,0,none⟩=some (.int .i64 x.1) /\ w'.cell? ⟨b9,3,none⟩=some (.int .i64 sz)))
       have T19:=HT18.out.perm (l2:=arBlks a aw (mk W g ⟨1,id,n,sz⟩) c3++((nb,ceObj x)::(((Bs,bS sb)::(b9,.cells #[.int .u8 1,.int .i64 id,.int .i64 n,.int .i64 sz] 79)::putBx w.heap.size sb g id n (.int .i64 0))++(spBlk sb a tb bb::(lb'++R))))) po;have HL1:=uh (sgap _ (HFT.out _ _ T19).1 T19 (s:=sb) (tb:=tb) (bb:=bb) (by simp) (by rw[mk_len];exact hf) x.1 (g-x.1) (by rw[mk_len,HZ.out];omega));obtain⟨u1,u2,u3,u4⟩:=HS19.out _ _ _ T19;have hsub1:(g:Int)-(x.1:Int)=((g-x.1:Nat):Int):=(by omega);have hsub2:(x.1:Int)+(x.2.size:Int)-(g:Int)-(sz:Int)=((x.1+x.2.size-g-sz:Nat):Int):=(by omega);clear T19 HT18 HS17
       gi_wp2_with fail
       refine⟨trivial,(CallsIn.inRound _ (callsIn_wide.2 HL1.out)).mono ?_⟩;rintro e w5 ⟨⟨u,rfl⟩,c5,T20⟩;have HT20:=uh T20;clear u1 u2 u3 u4 HL1 T20;obtain⟨u1,u2,u3,u4⟩:=HS19.out _ _ _ HT20.out;have HL2:=sgap _ (HFT.out _ _ HT20.out).1 HT20.out (s:=sb) (tb:=tb) (bb:=bb) (by simp) (by rw[lay_len,mk_len];exact hf) (g+sz) (x.1+x.2.size-g-sz) (by rw[lay_len,mk_len,HZ.out];omega);rw[Int.natCast_add]at HL2;have HL2:=uh HL2;have hgb:g <= 32768:=(by omega);have hsb9:sz <= 32768:=by omega
       gi_wp2_with fail
       refine⟨trivial,(CallsIn.inRound _ (callsIn_wide.2 HL2.out)).mono ?_⟩;rintro e w6 ⟨⟨u,rfl⟩,c6,T21⟩;have T21':Turn ((nb,ceObj x)::(((Bs,bS sb)::(b9,.cells #[.int .u8 1,.int .i64 id,.int .i64 n,.int .i64 sz] 79)::putBx w.heap.size sb g id n (.int .i64 0))++(arBlks a aw W cw++(spBlk sb a tb bb::lb)++R))) W2 (arBlks a aw (putW W x g ⟨1,id,n,sz⟩) c6++((nb,ceObj x)::(((Bs,bS sb)::(b9,.cells #[.int .u8 1,.int .i64 id,.int .i64 n,.int .i64 sz] 79)::putBx w.heap.size sb g id n (.int .i64 0))++(spBlk sb a tb bb::(lb'++R))))) w6:=T21;have T22:=T21'.perm (l2:=(w.heap.size+1+1+1+1,.cells #[.int .i64 0] 33)::((nb,ceObj x)::(Bs,bS sb)::(b9,.cells #[.int .u8 1,.int .i64 id,.int .i64 n,.int .i64 sz] 79)::((w.heap.size+1+1+1,.cells #[.int .i64 n] 3)::(w.heap.size+1+1,.cells #[.int .i64 id] 3)::(w.heap.size+1,.cells #[.int .i64 g] 3)::(w.heap.size,bS sb)::(arBlks a aw (putW W x g ⟨1,id,n,sz⟩) c6++(spBlk sb a tb bb::lb')++R)))) (perm_of fun c=>by simp[putBx];omega);have c8:w6.cell? ⟨w.heap.size+1+1+1+1,0,none⟩=some (.int .i64 0):=T22.cell1 0;have f8:w6.frozen? ⟨w.heap.size+1+1+1+1,0,none⟩=false:=T22.free1 0
       have T23:=(T22.setCell 0 (.int .i64 0)).perm (l2:=(nb,ceObj x)::(((Bs,bS sb)::(b9,.cells #[.int .u8 1,.int .i64 id,.int .i64 n,.int .i64 sz] 79)::putBx w.heap.size sb g id n (.int .i64 0))++(arBlks a aw (putW W x g ⟨1,id,n,sz⟩) c6++(spBlk sb a tb bb::lb')++R))) (perm_of fun c=>by simp[putBx];omega);have HT23:=uh T23;clear T21 T21' T22 T23 HL2 HT20 u1 u2 u3 u4 HS19
       gi_wp2_with fail
       have HK9:=uh (Turn.keepsOthers HT23.out HH2.out (fun y hy=>by
        rcases List.mem_cons.1 hy with rfl|hy
        ·rfl
        rcases List.mem_append.1 hy with hy|hy
        ·exact hBLc y hy
        rcases List.mem_append.1 hy with hy|hy
        · rcases List.mem_append.1 hy with hy|hy
          ·exact arBlks_cells _ _ _ _ y hy
          · rcases List.mem_cons.1 hy with rfl|hy
            ·rfl
            ·exact HB.out.cells y hy
        ·exact hRc y hy))
       exact⟨HK9.out.from _,KxC.of HT23.out HH2.out HkX.out (List.mem_append_left _ (List.mem_cons_self ..)) (List.mem_append_left _ (List.mem_cons_self ..)) (List.mem_append_right _ (List.mem_append_left _ (List.mem_append_right _ (List.mem_cons_self ..)))) (List.mem_append_right _ (List.mem_append_left _ (List.mem_append_right _ (List.mem_cons_self ..)))),rfl,0,_,.inr ⟨rfl,x,Hge.out.1,Hge.out.2,B',lb',c6,HSI.out.1,HSI.out.2,rfl⟩,((HTabs.out.trans HT23.out).tail.tail.tail)⟩
     · have hno:∀c∈cs,¬takes c g sz:=by
         intro c hc;rw[hcs]at hc;rcases List.mem_append.1 hc with h|h
         · intro ht
           have:=e1 c h;have:=ht.2.2.1;omega
         · rcases List.mem_cons.1 h with rfl|h
           ·exact htak
           · intro ht
             have:=(hc2.mem c h).1;have:=ht.2.1;omega
       have hcase:x.2.tag=1∨(x.2.tag≠1 /\ x.1+x.2.size<g+sz):=by
        by_cases h9:x.2.tag=1
        ·exact .inl h9
        · refine .inr ⟨h9,?_⟩
          rcases Nat.lt_or_ge (x.1+x.2.size) (g+sz)with h|h
          ·exact h
          ·exact absurd ⟨h9,hge,by omega,h⟩ htak
       have T9:=HTX.out.perm (l2:=(w.heap.size+1+1+1+1,.cells #[.int .i64 0] 33)::((nb,ceObj x)::(Bs,bS sb)::(b9,.cells #[.int .u8 1,.int .i64 id,.int .i64 n,.int .i64 sz] 79)::((w.heap.size+1+1+1,.cells #[.int .i64 n] 3)::(w.heap.size+1+1,.cells #[.int .i64 id] 3)::(w.heap.size+1,.cells #[.int .i64 g] 3)::(w.heap.size,bS sb)::(arBlks a aw W cw++(spBlk sb a tb bb::lb)++R)))) (perm_of fun c=>by simp[putBx];omega);have c8:W2.cell? ⟨w.heap.size+1+1+1+1,0,none⟩=some (.int .i64 0):=T9.cell1 0;have f8:W2.frozen? ⟨w.heap.size+1+1+1+1,0,none⟩=false:=T9.free1 0;have T10:=(T9.setCell 0 (.int .i64 3)).perm (l2:=(nb,ceObj x)::(((Bs,bS sb)::(b9,.cells #[.int .u8 1,.int .i64 id,.int .i64 n,.int .i64 sz] 79)::putBx w.heap.size sb g id n (.int .i64 3))++(arBlks a aw W cw++(spBlk sb a tb bb::lb)++R))) (perm_of fun c=>by simp[putBx];omega);have HT10:=uh T10;have Hno:=uh hno;clear T9 T10 hno hch hc1 hst hc2 hcs HC htak hT e1;rcases hcase with h9|⟨h9,h10⟩
       case' inl=>(
        have k5:((x.2.tag:Int) == 1)=true:=(by rw[beq_iff_eq];omega);have k6:(x.2.tag == 1)=true:=(by rw[beq_iff_eq];exact h9);clear h9
        gi_wp2_with fail)
       case' inr=>(
        have k5:((x.2.tag:Int) == 1)=false:=(by rw[beq_eq_false_iff_ne];omega);have k6:(x.2.tag == 1)=false:=(by rw[beq_eq_false_iff_ne];exact h9);have k7:decide ((x.1:Int)+(x.2.size:Int)-(g:Int)<(sz:Int))=true:=decide_eq_true (by omega);clear h9
        gi_wp2_with fail)
       all_goals exact⟨(KeepsOthers.setCell _ _ _).from _,KxC.of HT10.out HH2.out HkX.out (List.mem_append_left _ (List.mem_cons_self ..)) (List.mem_append_left _ (List.mem_cons_self ..)) (List.mem_append_right _ (List.mem_append_left _ (List.mem_append_right _ (List.mem_cons_self ..)))) (List.mem_append_right _ (List.mem_append_left _ (List.mem_append_right _ (List.mem_cons_self ..)))),rfl,3,_,.inl ⟨rfl,rfl,Hno.out⟩,((HTabs.out.trans HT10.out).tail.tail.tail)⟩
  case hdone=>
   rintro D xs W2 hD rfl ⟨e1,hT⟩ hK
   exfalso
   obtain⟨pa,c,pb,hcs,h8,h9,-,-⟩:=HC.out.find g (Nat.zero_le _) hg;have:=e1 c (by rw[hcs];simp);omega
  case hstop=>
   rintro D c pre W2 hD ⟨rfl,er,l',e1,hT⟩ hK;have T5:=hT.grownB (B:=W0.heap.size) (Nat.le_trans HT.out.size T8.size) (fun x hx=>(List.mem_append.1 hx).elim (putBx_cells _ _ _ _ _ _ x) (fun hx=>(List.mem_append.1 hx).elim (e1.cells HB.out x) (hRc x))) (grownBy_putObj' W2 D (.deferred none)) (fun r e=>by cases e;exact⟨hD,_,hK,rfl⟩);have c8:(W2.putObj D (.deferred none)).cell? ⟨w.heap.size+1+1+1+1,0,none⟩=some (.int .i64 er):=T5.cell1 0;have HX:=uh (⟨T5.drop,e1⟩:Turn [] w0 (l'++R) (W2.putObj D (.deferred none)) /\ PutEnd sb a aw tb bb W B lb cw cs g id n sz z er l');clear T5 hT e1
   gi_wp2_with fail
   refine⟨by simp,.inl ⟨_,_,rfl,run_takeDeferred hK,?_⟩⟩;refine⟨.int .i64 er,?_,er,l',rfl,HX.out.1,HX.out.2⟩;simp[results,results16,go_sem,c8]
end
section
open Go Go.RowKit Go.IntWalk
def grBx (gb ob fb tb:Nat)(g:Nat)(ov:Bool)(f t:Nat):List Blk:=
 [(gb,.cells #[.int .i64 g] 3),(ob,.cells #[.bool ov] 4),(fb,.cells #[.int .i64 f] 3),(tb,.cells #[.int .i64 t] 3)]
theorem drop1 {l0 R:List Blk}{w0:World}(w:World)(gb ob fb tb g f t:Nat)(ov:Bool)(x:Ce)(T:Turn l0 w0 (grBx gb ob fb tb g ov f t++R) w)(hx:x.1+x.2.size <= 65536):
  Calls prog 73 #[.agg #[.int .i64 x.1,.int .u8 x.2.tag,.int .i64 x.2.typ,.int .i64 x.2.len,.int .i64 x.2.size],pt gb,pt ob,pt fb,pt tb] w fun e w'=>(∃v,e=.returned v) /\
   Turn l0 w0 (grBx gb ob fb tb g ov (if x.2.tag=1 /\ x.1≠g /\ ov=false then x.1+x.2.size else f) (if x.2.tag=1 /\ x.1≠g then t else x.1+x.2.size)++R) w':=by
 obtain⟨cg,⟨xa,xb,xc,xd⟩⟩:=x;simp only at hx ⊢;have T1:=T.alloc (.cells #[.int .i64 cg,.int .u8 xa,.int .i64 xb,.int .i64 xc,.int .i64 xd] 81);have d0:(w.alloc (.cells #[.int .i64 cg,.int .u8 xa,.int .i64 xb,.int .i64 xc,.int .i64 xd] 81)).cell? ⟨w.heap.size,0,none⟩=some (.int .i64 cg):=T1.cell1 0;have d1:(w.alloc (.cells #[.int .i64 cg,.int .u8 xa,.int .i64 xb,.int .i64 xc,.int .i64 xd] 81)).cell? ⟨w.heap.size,1,none⟩=some (.int .u8 xa):=T1.cell1 1;have d4:(w.alloc (.cells #[.int .i64 cg,.int .u8 xa,.int .i64 xb,.int .i64 xc,.int .i64 xd] 81)).cell? ⟨w.heap.size,4,none⟩=some (.int .i64 xd):=T1.cell1 4;have qg:(w.alloc (.cells #[.int .i64 cg,.int .u8 xa,.int .i64 xb,.int .i64 xc,.int .i64 xd] 81)).cell? ⟨gb,0,none⟩=some (.int .i64 g):=T1.has.cell (b:=gb) (c:=#[.int .i64 g]) (e:=3) (f:=(0,0)) (by simp[grBx]) 0;have qo:(w.alloc (.cells #[.int .i64 cg,.int .u8 xa,.int .i64 xb,.int .i64 xc,.int .i64 xd] 81)).cell? ⟨ob,0,none⟩=some (.bool ov):=T1.has.cell (b:=ob) (c:=#[.bool ov]) (e:=4) (f:=(0,0)) (by simp[grBx]) 0;have qf:(w.alloc (.cells #[.int .i64 cg,.int .u8 xa,.int .i64 xb,.int .i64 xc,.int .i64 xd] 81)).cell? ⟨fb,0,none⟩=some (.int .i64 f):=T1.has.cell (b:=fb) (c:=#[.int .i64 f]) (e:=3) (f:=(0,0)) (by simp[grBx]) 0
 have ff:(w.alloc (.cells #[.int .i64 cg,.int .u8 xa,.int .i64 xb,.int .i64 xc,.int .i64 xd] 81)).frozen? ⟨fb,0,none⟩=false:=T1.has.free (b:=fb) (c:=#[.int .i64 f]) (e:=3) (by simp[grBx]) 0;have qt:(w.alloc (.cells #[.int .i64 cg,.int .u8 xa,.int .i64 xb,.int .i64 xc,.int .i64 xd] 81)).cell? ⟨tb,0,none⟩=some (.int .i64 t):=T1.has.cell (b:=tb) (c:=#[.int .i64 t]) (e:=3) (f:=(0,0)) (by simp[grBx]) 0;have ft:(w.alloc (.cells #[.int .i64 cg,.int .u8 xa,.int .i64 xb,.int .i64 xc,.int .i64 xd] 81)).frozen? ⟨tb,0,none⟩=false:=T1.has.free (b:=tb) (c:=#[.int .i64 t]) (e:=3) (by simp[grBx]) 0;have HTf:=uh (((T1.perm (l2:=(fb,.cells #[.int .i64 f] 3)::((w.heap.size,.cells #[.int .i64 cg,.int .u8 xa,.int .i64 xb,.int .i64 xc,.int .i64 xd] 81)::(gb,.cells #[.int .i64 g] 3)::(ob,.cells #[.bool ov] 4)::(tb,.cells #[.int .i64 t] 3)::R)) (perm_of fun c=>by simp[grBx];omega)).setCell 0 (.int .i64 ((cg:Int)+(xd:Int)))).perm (l2:=(w.heap.size,.cells #[.int .i64 cg,.int .u8 xa,.int .i64 xb,.int .i64 xc,.int .i64 xd] 81)::((gb,.cells #[.int .i64 g] 3)::(ob,.cells #[.bool ov] 4)::(fb,.cells #[.int .i64 ((cg:Int)+(xd:Int))] 3)::(tb,.cells #[.int .i64 t] 3)::R)) po)
 have HTt:=uh (((T1.perm (l2:=(tb,.cells #[.int .i64 t] 3)::((w.heap.size,.cells #[.int .i64 cg,.int .u8 xa,.int .i64 xb,.int .i64 xc,.int .i64 xd] 81)::(gb,.cells #[.int .i64 g] 3)::(ob,.cells #[.bool ov] 4)::(fb,.cells #[.int .i64 f] 3)::R)) (perm_of fun c=>by simp[grBx];omega)).setCell 0 (.int .i64 ((cg:Int)+(xd:Int)))).perm (l2:=(w.heap.size,.cells #[.int .i64 cg,.int .u8 xa,.int .i64 xb,.int .i64 xc,.int .i64 xd] 81)::((gb,.cells #[.int .i64 g] 3)::(ob,.cells #[.bool ov] 4)::(fb,.cells #[.int .i64 f] 3)::(tb,.cells #[.int .i64 ((cg:Int)+(xd:Int))] 3)::R)) po);have HT1:=uh T1.tail;have hcast:((cg+xd:Nat):Int)=(cg:Int)+(xd:Int):=Int.natCast_add ..;have Hc:=uh hcast;clear T T1 hcast
 by_cases ht:xa=1
 · have k1:((xa:Int) == 1)=true:=by rw[beq_iff_eq];omega
   have k2:(xa == 1)=true:=by rw[beq_iff_eq];exact ht
   by_cases hg:cg=g
   · rw[if_neg (fun h=>h.2.1 hg),if_neg (fun h=>h.2 hg)]
     have k3:((cg:Int) != (g:Int))=false:=(by rw[bne_eq_false_iff_eq];omega);have k4:(cg != g)=false:=(by rw[bne_eq_false_iff_eq];exact hg);clear ht hg
     go_enter func73,ntmps73
     go_wp2_with fail
     go_end0;exact⟨⟨_,rfl⟩,by unfold grBx;rw[Hc.out];exact HTt.out.tail⟩
   · have k3:((cg:Int) != (g:Int))=true:=by rw[bne_iff_ne];omega
     have k4:(cg != g)=true:=by rw[bne_iff_ne];exact hg
     cases ov with
     | false=>
      rw[if_pos ⟨ht,hg,rfl⟩,if_pos ⟨ht,hg⟩];clear ht hg
      go_enter func73,ntmps73
      go_wp2_with fail
      go_end0;exact⟨⟨_,rfl⟩,by unfold grBx;rw[Hc.out];exact HTf.out.tail⟩
     | true=>
      rw[if_neg (fun h=>absurd h.2.2 (by decide)),if_pos ⟨ht,hg⟩];clear ht hg
      go_enter func73,ntmps73
      go_wp2_with fail
      go_end0;exact⟨⟨_,rfl⟩,HT1.out⟩
 · rw[if_neg (fun h=>ht h.1),if_neg (fun h=>ht h.1)]
   have k1:((xa:Int) == 1)=false:=(by rw[beq_eq_false_iff_ne];omega);have k2:(xa == 1)=false:=(by rw[beq_eq_false_iff_ne];exact ht);clear ht
   go_enter func73,ntmps73
   go_wp2_with fail
   go_end0;exact⟨⟨_,rfl⟩,by unfold grBx;rw[Hc.out];exact HTt.out.tail⟩
end
section
def DropSt (P:List Ce)(c0:Ce)(Q:List Ce)(pre:List Ce)(f t:Nat)(ov:Bool):Prop:=
 (ov=false /\ f=dropFrm 0 pre /\ ∃rest,P=pre++rest)∨
 (ov=true /\ f=dropFrm 0 P /\ ∃Q1 Q2,pre=P++c0::Q1 /\ Q=Q1++Q2 /\ dropTill (c0.1+c0.2.size) Q=dropTill t Q2)
theorem DropSt.step {L:List Ty}{W:List Nat}{P Q pre post:List Ce}{c0 x:Ce}{f t e:Nat}{ov:Bool}(hC:Chain L W 0 (P++c0::Q) e)(h:DropSt P c0 Q pre f t ov)(hx:P++c0::Q=pre++x::post):
  (c0.1<x.1 /\ x.2.tag=1 /\ f=dropFrm 0 P /\ t=dropTill (c0.1+c0.2.size) Q)∨
  (¬(c0.1<x.1 /\ x.2.tag=1) /\ DropSt P c0 Q (pre++[x]) (if x.2.tag=1 /\ x.1≠c0.1 /\ ov=false then x.1+x.2.size else f) (if x.2.tag=1 /\ x.1≠c0.1 then t else x.1+x.2.size) (ov || x.1 == c0.1)):=by
 obtain⟨h1,h2,h3⟩:=hC.split;rcases h with⟨rfl,hf,rest,rfl⟩|⟨rfl,hf,Q1,Q2,rfl,rfl,ht⟩
 · cases rest with
   | nil=>
    rw[List.append_nil]at hx h1;rw[List.append_nil]
    have hxc:c0=x /\ Q=post:=by
     have:=List.append_cancel_left hx;exact⟨(List.cons.inj this).1,(List.cons.inj this).2⟩
    obtain⟨rfl,rfl⟩:=hxc;refine .inr ⟨fun h=>by omega,.inr ⟨by simp,?_,[],Q,rfl,rfl,?_⟩⟩
    · rw[if_neg (fun h=>h.2.1 rfl)]
      exact hf
    ·rw[if_neg (fun h=>h.2 rfl)]
   | cons y ys=>
    have hxy:y=x:=by
     rw[List.append_assoc]at hx;have:=List.append_cancel_left hx;exact(List.cons.inj this).1
    subst hxy;have hm:=h1.mem y (by simp);have hp:=hm.2.2.pos;have hlt:y.1<c0.1:=(by omega);refine .inr ⟨fun h=>by omega,.inl ⟨?_,?_,ys,by simp⟩⟩
    · simp
      omega
    · rw[dropFrm_append,dropFrm,dropFrm,←hf]
      by_cases ht:y.2.tag=1
      ·rw[if_pos ⟨ht,by omega,rfl⟩,if_pos ht]
      ·rw[if_neg (fun h=>ht h.1),if_neg ht]
 · have hxq:Q2=x::post:=by
     have h9:P++c0::(Q1++Q2)=(P++c0::Q1)++Q2:=(by simp);rw[h9]at hx;exact List.append_cancel_left hx
   subst hxq;have hm:=h3.mem x (by simp);have hp:=h2.pos;have hlt:c0.1<x.1:=by omega
   by_cases hxt:x.2.tag=1
   · refine .inl ⟨hlt,hxt,hf,?_⟩
     rw[ht,dropTill,if_pos hxt]
   · refine .inr ⟨fun h=>hxt h.2,.inr ⟨by simp,?_,Q1++[x],post,by simp,by simp,?_⟩⟩
     · rw[if_neg (fun h=>hxt h.1)]
       exact hf
     ·rw[if_neg (fun h=>hxt h.1),ht,dropTill,if_neg hxt]
theorem DropSt.done {P Q:List Ce}{c0:Ce}{f t:Nat}{ov:Bool}(h:DropSt P c0 Q (P++c0::Q) f t ov):f=dropFrm 0 P /\ t=dropTill (c0.1+c0.2.size) Q:=by
 rcases h with⟨-,-,rest,hr⟩|⟨-,hf,Q1,Q2,hp,hq,ht⟩
 · have:=congrArg List.length hr
   simp at this
 · have h1:Q=Q1:=by
     have:=List.append_cancel_left hp;exact(List.cons.inj this).2
   subst h1
   have h2:Q2=[]:=by
    have:=congrArg List.length hq;simp at this;exact this
   subst h2;exact⟨hf,ht.symm⟩
theorem DropSt.start (P:List Ce)(c0:Ce)(Q:List Ce):DropSt P c0 Q [] 0 0 false:=.inl ⟨rfl,rfl,P,rfl⟩
end
end Go.Proofs.YtbecgkejdacidaaGreatDoor
