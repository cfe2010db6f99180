/-
  AuditTells holds for any case, any weak handles, any number of black granules, any words laid over those of its arena, any breaches: what is wrong of it, which kinds there are, and how each is told; the listed variables tied to the program text.
  Conditions: none.
-/
import Derived.Test.YtoaofpohakaliaaGreatDoorCards
import Derived.Test.YtoaofpohakaliaaGreatDoorTie
import Derived.SevenTiedAt
import Derived.Test.YtoaofpohakaliaaGreatDoorQt6
set_option maxRecDepth 100000
set_option maxHeartbeats 12800000
open Go.Proofs.Tryz
namespace Go.Proofs.YtoaofpohakaliaaGreatDoor.auditTells
open Go Go.RowKit Go.ChangeShapes Go.WideShapes Go.ChangeAt Go.Deep
theorem own:ownKnob prog.godebug=none:=by kernel_rfl
theorem laidOut:laidOutB prog=true:=by kernel_rfl
theorem witness (os:Os)(H:Type)(enc:TypeId×Value -> H):
  ∃(w:World) (r:Tape) (i:Input),w.os=os /\ (w.forCall r i).Shaped prog /\ i.vars=[] /\ Input.okWide prog (w.forCall r i) .any w.heap.size 3 i /\
   ((Rows.auditTellsSpec.pre enc prog Tryz.f3 Rows.auditTellsRow.domain false (w.forCall r i).memory i.args /\ laidMetH prog Rows.auditTellsRow.laid (w.forCall r i).memory) /\ sizedMet enc prog Tryz.f3 (OpenSpec.ofChange Rows.auditTellsSpec) false (w.forCall r i).memory i.args) /\ ({}:Assume).holds prog (lone (Frame.enter prog 3 i.args .normal) [] (w.forCall r i)):=
 ChangeSpec.witness_shaped (enc:=enc) (C:=Tryz.checked) (os:=os) (X:=fun w _=>laidMetH prog Rows.auditTellsRow.laid w) false
  { World.holding prog os ⟨#[],#[],[]⟩with heap:=(varsWorld prog 200 (varsId prog) os (fun _ _=>0)).heap }
  #[.agg #[.int .i64 0, .slice none 0 0, .slice none 0 0, .slice none 0 0, .slice none 0 0, .slice none 0 0], .slice none 0 0, .int .i64 0, .slice none 0 0, .slice none 0 0] 8 rfl (World.shaped_of_RefB kr kr) kr kr kr
  (by rw[MakeChecks.laidMetH_plain _ _ _ kr];exact laidMet_of_run' 8 kr kr)
theorem lifted (os:Os)(V:os.Started)(H:Type)(enc:TypeId×Value -> H):
  ReturnsInHanded {} Tryz.checked os 3 .any (fun w args=>(Rows.auditTellsSpec.pre enc prog Tryz.f3 Rows.auditTellsRow.domain false w args /\ laidMetH prog Rows.auditTellsRow.laid w) /\ sizedMet enc prog Tryz.f3 (OpenSpec.ofChange Rows.auditTellsSpec) false w args)
   (Rows.auditTellsSpec.post enc prog Tryz.f3 false true false false):=by
 refine returns_listed9 (C:=Tryz.checked) own V kr func3 (witness os H enc) ?_;intro W base args ds gs am N hW aK a4 hL;obtain⟨a9,av⟩:=env9_of W (show laidMet prog Rows.auditTellsRow.laid W by have h:=hL;rw[MakeChecks.laidMetH_plain _ _ _ kr]at h;exact h);have ae:(DataW.weightsEach prog (Tryz.f3.params.toList++Rows.auditTellsSpec.plain.varTypes prog) (ds++gs)).all (· <= reachBytes)=true:=a4;clear a4;have r:∀(j:Nat) t v,Tryz.f3.params[j]?= some t -> args[j]?= some v -> Value.okWide prog W .any base t v:=N;have y:=hW;obtain⟨p,q,a8,hV,rfl,aL,aN⟩:=hW;have hA:DataW.TrodAll enc prog W 0 (fun _=>true) true Tryz.f3.params.toList args.toList ds p:=a8;rw[Tryz.params3]at hA r ae;obtain⟨v0,v1,v2,v3,v4,d0,d1,d2,d3,d4,p0,p1,p2,p3,p4,rfl,rfl,rfl,h0,h1,h2,h3,h4⟩:=trodAll_five9 hA;obtain⟨rfl,rfl⟩:=trodVars_none hV;have an:=h0;have ap:=h1;have aq:=h3;have au:=h4;obtain⟨n0,L,lao,a7,ka,ha,pa,lcap,J,kc,hc,pc,ss,kl,hl,pl,rfl,ax,hS,aM,aa,aC,M,hk,hh,hp⟩:=open_case (r 0 26 v0 rfl rfl) h0 (fun n E=>of_decide_eq_true (List.all_eq_true.1 ae _ (DataW.weights_mem_each (j:=0) (t:=26) (d:=d0) rfl rfl n E)));obtain⟨a5,af,a6,rfl⟩:=okWide_slice underlying24 (r 1 24 v1 rfl rfl);obtain⟨gr,rfl,rfl,rfl,aF⟩:=open_int underlying3 (r 2 3 v2 rfl rfl) h2
 obtain⟨aG,ab⟩:=h1;obtain⟨aH,ay⟩:=h3;obtain⟨aJ,az⟩:=h4;have c1:(Value.cells (.slice a5 af a6)).toList=[.slice a5 af a6]:=by simp[Value.cells]
 rw[c1]at ab;obtain⟨ql,qa,qc,ac,hQ,aQ,aB⟩:=open_words ab;obtain⟨ol,oa,oc,rfl,aA,hO,aP⟩:=open_spoils (okWide_slice underlying27 (r 3 27 v3 rfl rfl)) ay;obtain⟨zs,za,zc,rfl,aE,hZ,aR⟩:=open_breaches (okWide_slice underlying28 (r 4 28 v4 rfl rfl)) az;simp only[Value.slice.injEq]at ac;obtain⟨rfl,rfl,rfl⟩:=ac;clear a8 N;simp only[p_,L_]at y;have ag:∀x∈p0,x.block<W.heap.size:=fun x G=>by simpa using y.lt x (by simp[G])
 have ah:∀x∈p1,x.block<W.heap.size:=fun x G=>by simpa using y.lt x (by simp[G])
 have aj:∀x∈p3,x.block<W.heap.size:=fun x G=>by simpa using y.lt x (by simp[G])
 have ak:∀x∈p4,x.block<W.heap.size:=fun x G=>by simpa using y.lt x (by simp[G])
 have a0:=fun(W':World) (E:Below W.heap.size W W')=>Below.trod laidOut kr (of_decide_eq_true kr) an E ag;have a1:=fun(W':World) (E:Below W.heap.size W W')=>Below.trod laidOut kr (of_decide_eq_true kr) ap E ah;have a2:=fun(W':World) (E:Below W.heap.size W W')=>Below.trod laidOut kr (of_decide_eq_true kr) aq E aj;have a3:=fun(W':World) (E:Below W.heap.size W W')=>Below.trod laidOut kr (of_decide_eq_true kr) au E ak;refine(auditTells_walk W a9 av n0 L lao lcap a7 ka ha pa ss.length J kc hc pc kl hl pl (heavy n0 L.length ss) (fun w1 U=>heavy9 w1 n0 lao L.length lcap a7 J ss (aa.below U) O aC fun s hs=>(M s hs).2.2) (fun hv w1 U=>played_all w1 (range_below a9 U) L lao lcap (hS.below U) ax n0 a7 J ss (aa.below U) (fun s hs=>⟨(M s hs).1,(M s hs).2.1.below U,(M s hs).2.2⟩) hv) hk.1 hh.1 hp.1 hk.2.2 hh.2.2 hp.2.2 a5 a6 ql hQ aB gr oa oc ol hO (fun x G=>(aA x G).2.2) za zc zs hZ aE).mono fun e W' ⟨he,Z⟩=>?_;subst he;refine⟨_,rfl,_,_,_,[],p0++(p1++([]++(p3++(p4++[])))),[],y,?_,?_,rfl,Z.frame _,fun h=>by cases h⟩
 ·exact(trodAll_cons_mk (shut_bool underlying4 _) trodAll_mk0)
 ·exact trodAll_cons_mk (a0 _ Z) (trodAll_cons_mk (a1 _ Z) (trodAll_cons_mk (shut_int underlying3 aF) (trodAll_cons_mk (a2 _ Z) (trodAll_cons_mk (a3 _ Z) trodAll_mk0))))
theorem over:Rows.AuditTellsSaid:=
 OpenClaim.holds_of_wide 3 Tryz.f3 rfl rfl rfl rfl rfl rfl rfl ⟨rfl,rfl,rfl,rfl,rfl⟩ rfl rfl rfl rfl rfl named func3 closed
  (of_decide_eq_true kr) (by unfold Func.isWrapper;first|(rw[v_ (by decide +kernel)];kernel_rfl)|(rw[y_ (by decide +kernel)];exact⟨rfl,rfl⟩))
  (fun os r H enc _=>lifted os r H enc)
theorem proved:Rows.AuditTellsCardSaid:=
 Claim7.holds_tied_plain_at .later [] [.data, .data, .data, .data] true (true, "56121a0ca5cf8b9dfe35f9dea7b0e922189f894c93db66608b679e2b94dd32e3") false
  over (fun _ h=>by cases h) wfText (fun _ h=>by cases h) auditTells_row_tie rfl ⟨rfl,rfl⟩ mainIs rfl
  (fun f G J y=>by
    obtain rfl:f=3:= Option.some.inj (named.symm.trans J) |>.symm;obtain rfl:G=Tryz.f3:= (Option.some.inj (func3.symm.trans y)).symm
    exact⟨looks,fun j t E=>by
     rw[Tryz.params3]at E;have M:t∈[26,24,3,27,28]:=(by simpa using Array.mem_of_getElem? E);have r:([26,24,3,27,28].all fun u=> !prog.wantsStandIn u)=true:=(by kernel_rfl);exact(show prog.wantsStandIn t=false by simpa using List.all_eq_true.1 r t M)⟩)
  goesBy
end Go.Proofs.YtoaofpohakaliaaGreatDoor.auditTells
