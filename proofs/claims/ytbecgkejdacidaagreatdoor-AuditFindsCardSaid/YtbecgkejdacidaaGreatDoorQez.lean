/-
  AuditFinds holds for any case, any address, any of the four: who lays a reference, a handle, a pin or a weak handle to where no object begins is found out, just that one, where all else is right; the listed variables tied to the program text.
  Conditions: none.
-/
import Derived.Test.YtbecgkejdacidaaGreatDoorCards
import Derived.Test.YtbecgkejdacidaaGreatDoorTie
import Derived.SevenTiedAt
import Derived.Test.YtbecgkejdacidaaGreatDoorQe6
set_option maxRecDepth 100000
set_option maxHeartbeats 12800000
open Go.Proofs.Tryz
namespace Go.Proofs.YtbecgkejdacidaaGreatDoor.auditFinds
open Go Go.RowKit Go.ChangeShapes Go.WideShapes Go.ChangeAt Go.Deep
theorem own:ownKnob prog.godebug=none:=by kernel_rfl
theorem laidOut:laidOutB prog=true:=by kernel_rfl
theorem witness (os:Os)(H:Type)(enc:TypeId×Value -> H):
  ∃(w:World) (tape:Tape) (i:Input),w.os=os /\ (w.forCall tape i).Shaped prog /\ i.vars=[] /\ Input.okWide prog (w.forCall tape i) .any w.heap.size 6 i /\
   ((Rows.auditFindsSpec.pre enc prog Tryz.f6 Rows.auditFindsRow.domain false (w.forCall tape i).memory i.args /\ laidMetH prog Rows.auditFindsRow.laid (w.forCall tape i).memory) /\ sizedMet enc prog Tryz.f6 (OpenSpec.ofChange Rows.auditFindsSpec) false (w.forCall tape i).memory i.args) /\ ({}:Assume).holds prog (lone (Frame.enter prog 6 i.args .normal) [] (w.forCall tape i)):=
 ChangeSpec.witness_shaped (enc:=enc) (C:=Tryz.checked) (os:=os) (X:=fun w _=>laidMetH prog Rows.auditFindsRow.laid w) false
  { World.holding prog os ⟨#[],#[],[]⟩with heap:=(varsWorld prog 200 (varsId prog) os (fun _ _=>0)).heap }
  #[.agg #[.int .i64 0, .slice none 0 0, .slice none 0 0, .slice none 0 0, .slice none 0 0, .slice none 0 0], .int .u64 0, .int .u8 0] 8 rfl (World.shaped_of_RefB (by kernel_rfl) (by kernel_rfl)) (by kernel_rfl) (by kernel_rfl) (by kernel_rfl)
  (by rw[MakeChecks.laidMetH_plain _ _ _ (by kernel_rfl)];exact laidMet_of_run' 8 (by kernel_rfl) (by kernel_rfl))
theorem lifted (os:Os)(started:os.Started)(H:Type)(enc:TypeId×Value -> H):
  ReturnsInHanded {} Tryz.checked os 6 .any (fun w args=>(Rows.auditFindsSpec.pre enc prog Tryz.f6 Rows.auditFindsRow.domain false w args /\ laidMetH prog Rows.auditFindsRow.laid w) /\ sizedMet enc prog Tryz.f6 (OpenSpec.ofChange Rows.auditFindsSpec) false w args)
   (Rows.auditFindsSpec.post enc prog Tryz.f6 false true false false):=by
 refine returns_listed9 (C:=Tryz.checked) own started (by kernel_rfl) func6 (witness os H enc) ?_;intro W base args ds gs before hval0 hW hcnd hsz0 hL;obtain⟨hFd,hTb⟩:=env9_of W (show laidMet prog Rows.statsSumRow.laid W by have h:=hL;rw[MakeChecks.laidMetH_plain _ _ _ (by kernel_rfl)]at h;exact h);have hsz:(DataW.weightsEach prog (Tryz.f6.params.toList++Rows.auditFindsSpec.plain.varTypes prog) (ds++gs)).all (· <= reachBytes)=true:=hsz0;clear hsz0;have hval:∀(j:Nat) t v,Tryz.f6.params[j]?= some t -> args[j]?= some v -> Value.okWide prog W .any base t v:=hval0;have hW':=hW;obtain⟨p,q,hA0,hV,rfl,hfz,hnd⟩:=hW;have hA:DataW.TrodAll enc prog W 0 (fun _=>true) true Tryz.f6.params.toList args.toList ds p:=hA0;rw[Tryz.params6]at hA hval hsz;obtain⟨v0,v1,v2,d0,d1,d2,p0,p1,p2,rfl,rfl,rfl,h0,h1,h2⟩:=trodAll_three hA;obtain⟨rfl,rfl⟩:=trodVars_none hV;have h0k:=h0;obtain⟨n0,L,lao,sao,ka,ha,pa,lcap,scap,kc,hc,pc,ss,kl,hl,pl,rfl,hTy,hS,hlm,hSt,hsm,hin,hk,hh,hp⟩:=open_case (hval 0 63 v0 rfl rfl) h0 (fun n hn=>of_decide_eq_true (List.all_eq_true.1 hsz _ (DataW.weights_mem_each (j:=0) (t:=63) (d:=d0) rfl rfl n hn)));obtain⟨a1,rfl,rfl,rfl,wn1⟩:=open_int underlying47 (hval 1 47 v1 rfl rfl) h1
 obtain⟨a2,rfl,rfl,rfl,wn2⟩:=open_int underlying5 (hval 2 5 v2 rfl rfl) h2;have b1:=bounds_u64 wn1;have b2:=bounds_u8 wn2;obtain⟨addr,rfl⟩:=Int.eq_ofNat_of_zero_le b1.1;obtain⟨which,rfl⟩:=Int.eq_ofNat_of_zero_le b2.1;have h64:addr<18446744073709551616:=by omega
 clear hA0 hval0;simp only[List.append_nil]at hW';have hlt0:∀x∈p0,x.block<W.heap.size:=fun x hx=>by simpa using hW'.lt x (by simp[hx])
 have hargs0:=fun(W':World) (hn:Below W.heap.size W W')=>Below.trod laidOut (by kernel_rfl) (of_decide_eq_true (by kernel_rfl)) h0k hn hlt0;refine(auditFinds_walk W hFd hTb n0 L lao lcap sao ka ha pa ss.length scap kc hc pc kl hl pl addr h64 which (heavy n0 L.length ss) (fun w1 hB=>heavy9 w1 n0 lao L.length lcap sao scap ss (hSt.below hB) (by omega) hsm fun s hs=>(hin s hs).2.2) (fun hv w1 hB=>played_all w1 (range_below hFd hB) L lao lcap (hS.below hB) hTy n0 sao scap ss (hSt.below hB) (fun s hs=>⟨(hin s hs).1,(hin s hs).2.1.below hB,(hin s hs).2.2⟩) hv) hk.1 hh.1 hp.1 hk.2.2 hh.2.2 hp.2.2).mono fun e W' ⟨he,hT⟩=>?_;subst he;refine⟨_,rfl,_,_,_,[],p0++([]++([]++[])),[],hW',?_,?_,rfl,hT.frame _,fun h=>by cases h⟩
 ·exact(trodAll_cons_mk (shut_bool underlying4 _) trodAll_mk0)
 ·exact trodAll_cons_mk (hargs0 _ hT) (trodAll_cons_mk (shut_int underlying47 wn1) (trodAll_cons_mk (shut_int underlying5 wn2) trodAll_mk0))
theorem over:Rows.AuditFindsSaid:=
 OpenClaim.holds_of_wide 6 Tryz.f6 rfl rfl rfl rfl rfl rfl rfl ⟨rfl,rfl,rfl,rfl,rfl⟩ rfl rfl rfl rfl rfl named func6 closed
  (of_decide_eq_true (by kernel_rfl)) (by unfold Func.isWrapper;first|(rw[if_pos (by decide +kernel)];kernel_rfl)|(rw[if_neg (by decide +kernel)];exact⟨rfl,rfl⟩))
  (fun os started H enc _=>lifted os started H enc)
theorem proved:Rows.AuditFindsCardSaid:=
 Claim7.holds_tied_plain_at .later [] [.data, .data, .data, .data] true (true, "367503d1219b5296946ea50cbce7af74187deeecb45e1afd359862ce6c042c1c") false
  over (fun _ h=>by cases h) wfText (fun _ h=>by cases h) auditFinds_row_tie rfl ⟨rfl,rfl⟩ mainIs rfl
  (fun f fn hf hfn=>by
    obtain rfl:f=6:= Option.some.inj (named.symm.trans hf) |>.symm;obtain rfl:fn=Tryz.f6:= (Option.some.inj (func6.symm.trans hfn)).symm
    exact⟨looks,fun j t ht=>by
     rw[Tryz.params6]at ht;have hm:t∈[63,47,5]:=(by simpa using Array.mem_of_getElem? ht);have hall:([63,47,5].all fun u=> !prog.wantsStandIn u)=true:=(by kernel_rfl);exact(show prog.wantsStandIn t=false by simpa using List.all_eq_true.1 hall t hm)⟩)
  goesBy
end Go.Proofs.YtbecgkejdacidaaGreatDoor.auditFinds
