/-
  A part of a proof: texts packed by a program of mine.
  Conditions: those that each theorem states.
-/
import Derived.WalkKit
import Derived.WalkLawsBesides
import Derived.Lib.Hide
import Derived.Deep.MidRow
import Derived.Deep.RegionHeld
import Derived.Deep.RegionHeld3
import Derived.Deep.Cut
import Derived.Deep.CutRange
import Derived.Deep.CutBlock
import Derived.Deep.DeepCutAuto
import Derived.RangeFuncCalls
import Derived.OrdersIn
import Derived.TacticsIn
import Derived.Laws.AppendOwn
import Derived.StillTailTactics
import Derived.RangeFuncNested
import Derived.RangeFuncBox
import Derived.Laws.Bits64
import Derived.Laws.Bits64b
import Derived.Laws.BitsLemmas
import Derived.Test.YtbecgkejdacidaaGreatDoorProg
import Derived.BigFrame
import Derived.MapKept
import Derived.Maps.OwnOps
import Derived.Shelf.Abstract
import Derived.Laws.StructEq
import Derived.RangeFuncBound
import Derived.RangeFuncLeaves
import Derived.Shelf.RegionOpen
import Derived.OwnWalkIn
import Derived.TacticsInMore
import Derived.LoopNIn
import Derived.LoopIn
import Derived.BigRegionIn
import Derived.Deep.QuietTactic
import Derived.BigQuiet
set_option maxRecDepth 100000
set_option maxHeartbeats 12800000
namespace Go.Proofs.YtbecgkejdacidaaGreatDoor
section
open Go Go.RowKit
abbrev Blk:=Nat×Obj
def keys (l:List Blk):List Nat:=l.map (·.1)
@[simp] theorem keys_nil : keys [] = [] := rfl
@[simp] theorem keys_cons (x : Blk) (l : List Blk) : keys (x :: l) = x.1 :: keys l := rfl
@[simp] theorem keys_append (a b : List Blk) : keys (a ++ b) = keys a ++ keys b := by simp [keys]
theorem mem_keys {l:List Blk}{b:Nat}:b∈keys l↔∃o,(b,o)∈l:=by
  simp[keys]
/-- The world holds these blocks, each once. -/
structure Has (w:World)(l:List Blk):Prop where
  nd:(keys l).Nodup
  own:∀b o,(b,o)∈l -> w.heap[b]?= some o
theorem Has.nil (w:World):Has w []:=⟨List.nodup_nil,fun _ _ h=>by cases h⟩
theorem Has.perm {w:World}{l l':List Blk}(h:Has w l)(p:l.Perm l'):Has w l':=
  ⟨(p.map _).nodup_iff.1 h.nd,fun b o hm=>h.own b o (p.mem_iff.2 hm)⟩
theorem Has.sub {w:World}{l l':List Blk}(h:Has w l)(s:l'.Sublist l):Has w l':=
  ⟨(s.map _).nodup h.nd,fun b o hm=>h.own b o (s.subset hm)⟩
theorem Has.left {w:World}{a b:List Blk}(h:Has w (a++b)):Has w a:=h.sub (List.sublist_append_left a b)
theorem Has.right {w:World}{a b:List Blk}(h:Has w (a++b)):Has w b:=h.sub (List.sublist_append_right a b)
theorem Has.lt {w:World}{l:List Blk}(h:Has w l){b:Nat}(hb:b∈keys l):b<w.heap.size:=by
  obtain⟨o,ho⟩:=mem_keys.1 hb;exact lt_of_block (h.own b o ho)
theorem Has.drew {w:World}{l:List Blk}(h:Has w l):Has w.drew l:=⟨h.nd,h.own⟩
/-- A block that is held: a cell of it, and whether it may be written. -/
theorem Has.cell {w:World}{l:List Blk}(h:Has w l){b:Nat}{c:Array Value}{e:TypeId}{f:Nat×Nat}(hm:(b,Obj.cells c e f)∈l)(i:Nat):
    w.cell? ⟨b,i,none⟩=c[i]? :=by simp[World.cell?,h.own _ _ hm]
theorem Has.free {w:World}{l:List Blk}(h:Has w l){b:Nat}{c:Array Value}{e:TypeId}(hm:(b,Obj.cells c e (0,0))∈l)(i:Nat):
    w.frozen? ⟨b,i,none⟩=false:=by simp[World.frozen?,h.own _ _ hm]
/-- Of an owned list l in w a list l' in w' has come; nothing else has turned. -/
structure Turn (l:List Blk)(w:World)(l':List Blk)(w':World):Prop where
  os:w'.os=w.os
  tape:w'.tape=w.tape
  output:w'.output=w.output
  size:w.heap.size <= w'.heap.size
  has:Has w' l'
  new:∀b,b∈keys l' -> b∈keys l∨w.heap.size <= b
  same:∀b,b<w.heap.size -> b∉keys l -> w'.heap[b]?= w.heap[b]?
theorem Turn.refl {l:List Blk}{w:World}(h:Has w l):Turn l w l w:=⟨rfl,rfl,rfl,Nat.le_refl _,h,fun _ hb=>.inl hb,fun _ _ _=>rfl⟩
theorem Turn.trans {l l1 l2:List Blk}{w w1 w2:World}(h:Turn l w l1 w1)(k:Turn l1 w1 l2 w2):Turn l w l2 w2:=by
  refine⟨k.os.trans h.os,k.tape.trans h.tape,k.output.trans h.output,Nat.le_trans h.size k.size,k.has,fun b hb=>?_,fun b hb hn=>?_⟩
  · rcases k.new b hb with h1|h1
    ·exact h.new b h1
    ·exact .inr (Nat.le_trans h.size h1)
  · refine(k.same b (Nat.lt_of_lt_of_le hb h.size) (fun hm=>?_)).trans (h.same b hb hn)
    rcases h.new b hm with h1|h1
    ·exact hn h1
    ·omega
theorem Turn.perm {l l1 l2:List Blk}{w w':World}(h:Turn l w l1 w')(p:l1.Perm l2):Turn l w l2 w':=
  ⟨h.os,h.tape,h.output,h.size,h.has.perm p,fun b hb=>h.new b ((p.map _).mem_iff.2 hb),h.same⟩
theorem Turn.sub {l l1 l2:List Blk}{w w':World}(h:Turn l w l1 w')(s:l2.Sublist l1):Turn l w l2 w':=
  ⟨h.os,h.tape,h.output,h.size,h.has.sub s,fun b hb=>h.new b ((s.map _).subset hb),h.same⟩
theorem Turn.drop {l a l1:List Blk}{w w':World}(h:Turn l w (a++l1) w'):Turn l w l1 w':=h.sub (List.sublist_append_right a l1)
theorem Turn.tail {l l1:List Blk}{x:Blk}{w w':World}(h:Turn l w (x::l1) w'):Turn l w l1 w':=h.sub (List.sublist_cons_self x l1)
/-- More may be owned at the start. -/
theorem Turn.more {l l1:List Blk}{w w':World}(h:Turn l w l1 w'){R:List Blk}(hR:Has w (l++R)):Turn (l++R) w (l1++R) w':=by
  have hd:=hR.nd;rw[keys_append,List.nodup_append]at hd;refine⟨h.os,h.tape,h.output,h.size,⟨?_,fun b o hm=>?_⟩,fun b hb=>?_,fun b hb hn=>h.same b hb (fun hm=>hn (by simp[hm]))⟩
  · rw[keys_append,List.nodup_append]
    refine⟨h.has.nd,hd.2.1,fun x hx y hy=>?_⟩;have hy':=hR.right.lt hy;rcases h.new x hx with h1|h1
    ·exact hd.2.2 x h1 y hy
    ·omega
  · rcases List.mem_append.1 hm with h1|h1
    ·exact h.has.own b o h1
    · have hk:b∈keys R:=mem_keys.2 ⟨o,h1⟩
      rw[h.same b (hR.right.lt hk) (fun hm=>hd.2.2 b hm b hk rfl)];exact hR.right.own b o h1
  · rw[keys_append,List.mem_append]at hb
    rcases hb with h1|h1
    ·exact(h.new b h1).imp (fun h2=>by simp[h2]) id
    ·exact .inl (by simp[h1])
theorem Turn.drew {l l1:List Blk}{w w':World}(h:Turn l w l1 w'):Turn l w l1 w'.drew:=⟨h.os,h.tape,h.output,h.size,h.has.drew,h.new,h.same⟩
theorem Turn.drewN {l l1:List Blk}{w w':World}(h:Turn l w l1 w')(n:Nat):Turn l w l1 (w'.drewN n):=⟨h.os,h.tape,h.output,h.size,⟨h.has.nd,h.has.own⟩,h.new,h.same⟩
theorem Turn.alloc {l l1:List Blk}{w w':World}(h:Turn l w l1 w')(o:Obj):Turn l w ((w'.heap.size,o)::l1) (w'.alloc o):=by
  refine⟨h.os,h.tape,h.output,by rw[World.size_alloc];exact Nat.le_succ_of_le h.size,⟨?_,fun b o' hm=>?_⟩,fun b hb=>?_,fun b hb hn=>?_⟩
  · rw[keys_cons,List.nodup_cons]
    exact⟨fun hm=>Nat.lt_irrefl _ (h.has.lt hm),h.has.nd⟩
  · rcases List.mem_cons.1 hm with h1|h1
    · cases h1
      exact heap_alloc_new w' o
    · rw[Below.heap_alloc _ _ _ (h.has.lt (mem_keys.2 ⟨o',h1⟩))]
      exact h.has.own b o' h1
  · rw[keys_cons,List.mem_cons]at hb
    rcases hb with h1|h1
    ·exact .inr (by rw[h1];exact h.size)
    ·exact h.new b h1
  · rw[Below.heap_alloc _ _ _ (Nat.lt_of_lt_of_le hb h.size)]
    exact h.same b hb hn
theorem heap_setCell_at {w:World}{b:Nat}{c:Array Value}{e:TypeId}{f:Nat×Nat}(h:w.heap[b]?= some (.cells c e f))(i:Nat)(u:Value):
    (w.setCell ⟨b,i,none⟩ u).heap[b]?= some (.cells (c.setIfInBounds i u) e f):=by
  have hlt:=lt_of_block h;have h':w.heap[b]=.cells c e f:=by simpa [Array.getElem?_eq_getElem hlt]using h
  show(w.heap.modify b _)[b]?= _
  rw[Array.getElem?_eq_getElem (by simpa using hlt),Array.getElem_modify_self,h']
  rfl
theorem Turn.setCell {l l1:List Blk}{w w':World}{b:Nat}{c:Array Value}{e:TypeId}{f:Nat×Nat}(h:Turn l w ((b,.cells c e f)::l1) w')(i:Nat)(u:Value):
    Turn l w ((b,.cells (c.setIfInBounds i u) e f)::l1) (w'.setCell ⟨b,i,none⟩ u):=by
  have hd:=h.has.nd;rw[keys_cons,List.nodup_cons]at hd;refine⟨h.os,h.tape,h.output,by rw[World.size_setCell];exact h.size,⟨h.has.nd,fun b' o hm=>?_⟩,h.new,fun b' hb hn=>?_⟩
  · rcases List.mem_cons.1 hm with h1|h1
    · cases h1
      exact heap_setCell_at (h.has.own b _ (List.mem_cons_self ..)) i u
    · rw[Below.heap_setCell _ _ _ _ (fun he=>hd.1 (mem_keys.2 ⟨o,by rw[←show b'=b from he];exact h1⟩))]
      exact h.has.own b' o (List.mem_cons_of_mem _ h1)
  · rw[Below.heap_setCell _ _ _ _ (fun he=>?_)]
    ·exact h.same b' hb hn
    · rcases h.new b (by simp)with h1|h1
      ·exact hn (by rw[show b'=b from he];exact h1)
      · have:b'=b:=he
        omega
/-- The first of the owned blocks is written anew. -/
theorem Turn.setRow {l l1:List Blk}{w w':World}{b:Nat}{c:Array Value}{e:TypeId}{f:Nat×Nat}(h:Turn l w ((b,.cells c e f)::l1) w')(c':Array Value):
    Turn l w ((b,.cells c' e f)::l1) (w'.setRow b c'):=by
  have hd:=h.has.nd;rw[keys_cons,List.nodup_cons]at hd;refine⟨h.os,h.tape,h.output,by simpa [World.setRow]using h.size,⟨h.has.nd,fun b' o hm=>?_⟩,h.new,fun b' hb hn=>?_⟩
  · rcases List.mem_cons.1 hm with h1|h1
    · cases h1
      exact setRow_heap w' b c _ e f (h.has.own b _ (List.mem_cons_self ..))
    · rw[setRow_other _ _ _ _ (fun he=>hd.1 (mem_keys.2 ⟨o,by rw[←he];exact h1⟩))]
      exact h.has.own b' o (List.mem_cons_of_mem _ h1)
  · rw[setRow_other _ _ _ _ (fun he=>?_)]
    ·exact h.same b' hb hn
    · rcases h.new b (by simp)with h1|h1
      ·exact hn (by rw[he];exact h1)
      ·omega
theorem Turn.below {l1:List Blk}{w w':World}(h:Turn [] w l1 w'):Below w.heap.size w w':=
  ⟨h.os,h.tape,h.output,h.size,fun k hk=>h.same k hk (by simp)⟩
/-- Permutations by weights. -/
def wt (c:Blk -> Nat):List Blk -> Nat
  | []=>0
  | x::l=>c x+wt c l
@[simp] theorem wt_nil (c : Blk -> Nat) : wt c [] = 0 := rfl
@[simp] theorem wt_cons (c : Blk -> Nat) (x : Blk) (l : List Blk) : wt c (x :: l) = c x + wt c l := rfl
@[simp] theorem wt_append (c : Blk -> Nat) (a b : List Blk) : wt c (a ++ b) = wt c a + wt c b := by
  induction a with
  | nil=>simp
  | cons x a ih=>simp[ih];omega
theorem perm_of {l l':List Blk}(h:∀c:Blk -> Nat,wt c l=wt c l'):l.Perm l':=by
  classical
  refine List.perm_iff_count.2 fun x=>?_
  have hc:∀m:List Blk,wt (fun y=>if y=x then 1 else 0) m=m.count x:=by
    intro m
    induction m with
    | nil=>rfl
    | cons y m ih=>
      rw[wt_cons,ih,List.count_cons]
      by_cases hy:y=x<;>simp[hy]<;>omega
  rw[←hc,←hc];exact h _
/-- A slice of n elements (of type e, 'size' cells each) lies in a block of its own, or is nil. -/
def Row (e:TypeId)(size:Nat)(ao:Option Addr)(n cap:Nat)(xs:List Value)(l:List Blk):Prop:=
  xs.length=n*size /\ n <= cap /\ cap <= maxLen /\
  ((ao=none /\ cap=0 /\ l=[])∨
   ∃g cur,ao=some ⟨g,0,none⟩ /\ l=[(g,.cells cur e (0,0))] /\ cap*size <= cur.size /\ cur.toList.take (n*size)=xs)
theorem Row.nil (e:TypeId)(size:Nat):Row e size none 0 0 [] []:=⟨by simp,Nat.le_refl _,Nat.zero_le _,.inl ⟨rfl,rfl,rfl⟩⟩
theorem Row.some_of {e:TypeId}{size:Nat}{ao:Option Addr}{n cap:Nat}{xs:List Value}{l:List Blk}(h:Row e size ao n cap xs l)(hn:0<n):
    ∃g cur,ao=some ⟨g,0,none⟩ /\ l=[(g,.cells cur e (0,0))] /\ cap*size <= cur.size /\ cur.toList.take (n*size)=xs:=by
  rcases h.2.2.2 with⟨_,h1,_⟩|h1
  · have:=h.2.1
    omega
  ·exact h1
theorem take_get {α:Type}{c:Array α}{m:Nat}{xs:List α}(h:c.toList.take m=xs)(j:Nat)(hj:j<m):c[j]?= xs[j]? :=by
  subst h;rw[List.getElem?_take_of_lt hj,Array.getElem?_toList]
theorem Row.cell {e:TypeId}{size:Nat}{g n cap:Nat}{xs:List Value}{l:List Blk}(h:Row e size (some ⟨g,0,none⟩) n cap xs l){w:World}{R:List Blk}(hH:Has w (l++R))
    (j:Nat)(hj:j<n*size):w.cell? ⟨g,j,none⟩=xs[j]? :=by
  rcases h.2.2.2 with⟨h1,_⟩|⟨g',cur,h1,h2,h3,h4⟩
  ·cases h1
  · cases h1
    subst h2;rw[hH.cell (b:=g) (c:=cur) (e:=e) (f:=(0,0)) (by simp) j];exact take_get h4 j hj
theorem Row.set {e:TypeId}{size:Nat}{g n cap:Nat}{xs:List Value}{cur:Array Value}(h:Row e size (some ⟨g,0,none⟩) n cap xs [(g,.cells cur e (0,0))])(j:Nat)(u:Value):
    Row e size (some ⟨g,0,none⟩) n cap (xs.set j u) [(g,.cells (cur.setIfInBounds j u) e (0,0))]:=by
  obtain⟨hl,hn,hc,h3⟩:=h;refine⟨by simpa using hl,hn,hc,.inr ⟨g,_,rfl,rfl,?_,?_⟩⟩
  · rcases h3 with⟨h4,_⟩|⟨g',cur',h4,h5,h6,h7⟩
    ·cases h4
    · cases h4;cases h5
      simpa using h6
  · rcases h3 with⟨h4,_⟩|⟨g',cur',h4,h5,h6,h7⟩
    ·cases h4
    · cases h4;cases h5
      rw[Array.toList_setIfInBounds,List.take_set,h7]
section
variable {P:Program} (w:World)
/-- append to such a row: there is room, or a new block is laid. -/
theorem run_append_row (t ty e:TypeId)(i:TypeInfo)(z:Value)(size bytes:Nat)(ht:P.underlying t=some (.slice e))(hi:P.info? e=some i)(hz:i.zero=some z)
    (hsize:i.size=size)(hby:i.bytes=bytes)(hzs:z.cells.size=size)
    (ao:Option Addr)(n cap:Nat)(xs:List Value)(l R:List Blk)(hrow:Row e size ao n cap xs l)(hH:Has w (l++R))
    (a:Addr)(m c:Nat)(news:List Value)(hl:news.length=m*size)(hnews:∀j u,news[j]?= some u -> w.cell? (a.add j)=some u)(h1:∀u∈news,u.oneCell'=true)
    (h63:n+m <= maxLen)(hbytes:(n+m)*bytes <= 140737488355328):
    ∃ao' cap' l' w',(Builtin.append_ #[t,t] ty #[.slice ao n cap,.slice (some a) m c]).run P w=.ok (.slice ao' (n+m) cap') w' /\
      Row e size ao' (n+m) cap' (xs++news) l' /\ Turn (l++R) w (l'++R) w' /\ (ao'=none↔ao=none /\ m=0):=by
  subst hsize;subst hby;have hsmall:n+m <= 9223372036854775807:=by simp only[maxLen]at h63;omega
  have hlen:(xs++news).length=(n+m)*i.size:=by rw[List.length_append,hrow.1,hl,Nat.add_mul]
  have grown:∀(old:Nat),old<n+m ->
      Row e i.size (some ⟨w.heap.size,0,none⟩) (n+m) (grownCap w (n+m) old e) (xs++news)
        [(w.heap.size,.cells (xs.toArray++news.toArray++Builtin.zeroCells z.cells (grownCap w (n+m) old e-(n+m))) e)] /\
      Turn (l++R) w ([(w.heap.size,.cells (xs.toArray++news.toArray++Builtin.zeroCells z.cells (grownCap w (n+m) old e-(n+m))) e)]++R)
        (w.drew.alloc (.cells (xs.toArray++news.toArray++Builtin.zeroCells z.cells (grownCap w (n+m) old e-(n+m))) e)):=by
    intro old ho;have hge:=grownCap_ge w (n+m) old e;have hcm:grownCap w (n+m) old e <= maxLen:=grownCap_le_maxLen w (n+m) old e h63;refine⟨⟨hlen,hge,hcm,.inr ⟨w.heap.size,_,rfl,rfl,?_,?_⟩⟩,?_⟩
    · simp only[Array.size_append,List.size_toArray,size_zeroCells,hzs,hrow.1,hl,←Nat.add_mul]
      refine Nat.mul_le_mul_right _ ?_;omega
    · simp only[Array.toList_append,List.append_assoc]
      rw[←List.append_assoc,←hlen];exact List.take_left
    ·exact((Turn.refl hH).drew.alloc _).sub (by simp)
  obtain⟨_,hnc,hcm,hcase⟩:=hrow;rcases hcase with⟨rfl,rfl,rfl⟩|⟨g,cur,rfl,rfl,hcs,htake⟩
  · obtain rfl:n=0:=by omega
    have hx:xs=[]:=List.eq_nil_of_length_eq_zero (by simpa [List.length_append,hl]using hlen);subst hx
    by_cases hm:m=0
    · subst hm
      have hn:news=[]:=List.eq_nil_of_length_eq_zero (by simpa using hl);subst hn;refine⟨none,0,[],w,?_,Row.nil e i.size,Turn.refl hH,by simp⟩;simp[Builtin.append_,run_underlying ht,sizeOf,typeInfo,hi,Builtin.lenOf,Builtin.firstCells,loadCells,loadCellsFrom]
    · have hr:=run_append_nil (P:=P) w t ty e i z ht hi hz a m c news hl hnews (by omega) (by omega) (by have hb:=hbytes;simp only[Nat.zero_add]at hb;omega)
      have hgr:=grown 0 (by omega);simp only[Nat.zero_add,List.nil_append,Array.empty_append]at hgr ⊢;exact⟨_,_,_,_,hr,hgr.1,hgr.2,by simp[hm]⟩
  · by_cases hroom:n+m <= cap
    · have hfit:n*i.size+news.length <= cur.size:=by rw[hl,←Nat.add_mul];exact Nat.le_trans (Nat.mul_le_mul_right _ hroom) hcs
      have hr:=run_append_room (P:=P) w t ty e i ht hi g n cap cur (hH.own _ _ (by simp)) a m c news hl hnews h1 hroom hfit;refine⟨_,_,_,_,hr,⟨hlen,hroom,hcm,.inr ⟨g,_,rfl,rfl,?_,?_⟩⟩,(Turn.refl hH).setRow _,by simp⟩
      · simp only[List.size_toArray,List.length_append,List.length_take,List.length_drop,Array.length_toList]
        omega
      · rw[htake,←hlen]
        exact List.take_left
    · have holds:∀j u,xs[j]?= some u -> w.cell? ((⟨g,0,none⟩:Addr).add j)=some u:=by
        intro j u hj
        have hlt:j<n*i.size:=by
          have:=(List.getElem?_eq_some_iff.1 hj).1;rw[List.length_append,hl,Nat.add_mul]at hlen;omega
        have hc:=hH.cell (b:=g) (c:=cur) (e:=e) (f:=(0,0)) (by simp) j;rw[take_get htake j hlt,hj]at hc;rw[show(⟨g,0,none⟩:Addr).add j=⟨g,j,none⟩from by unfold Addr.add;split<;>simp_all];exact hc
      have hr:=run_append_grow (P:=P) w t ty e i z ht hi hz ⟨g,0,none⟩ n cap xs (by rw[List.length_append,hl,Nat.add_mul]at hlen;omega) holds a m c news hl hnews (by omega) (by omega) (growslice_fits (by omega) hbytes);have hgr:=grown cap (by omega);exact⟨_,_,_,_,hr,hgr.1,hgr.2,by simp⟩
end
/-- The element type of a slice type: its row of the program's table. -/
structure Elem (P:Program)(t e:TypeId)(size bytes:Nat)(z:Value):Prop where
  ht:P.underlying t=some (.slice e)
  info:∃i,P.info? e=some i /\ i.zero=some z /\ i.size=size /\ i.bytes=bytes
  zs:z.cells.size=size
theorem Elem.of {P:Program}{t e:TypeId}{size bytes:Nat}{z:Value}(ht:P.underlying t=some (.slice e))
    (h:(P.info? e).map (fun i=>(i.zero,i.size,i.bytes))=some (some z,size,bytes))(zs:z.cells.size=size):Elem P t e size bytes z:=⟨ht,info_parts h,zs⟩
section
variable {P:Program} {w:World} {o:Oper} {a:Act} {K:Act -> World -> Prop} {Q:Exit -> Act -> World -> Prop} {t e:TypeId} {size bytes:Nat} {z:Value}
  {ao:Option Addr} {n cap:Nat} {xs:List Value} {l R:List Blk} {ad:Addr} {m c:Nat} {news:List Value}
theorem wp_append_row (s x:Operand)(ho:o.op=.call { callee:=.builtin .append,args:=#[s,x],argTypes:=#[t,t] })(he:Elem P t e size bytes z)
    (hs:a.eval s=.slice ao n cap)(hrow:Row e size ao n cap xs l)(hH:Has w (l++R))
    (hx:a.eval x=.slice (some ad) m c)(hl:news.length=m*size)(hnews:∀j u,news[j]?= some u -> w.cell? (ad.add j)=some u)(h1:∀u∈news,u.oneCell'=true)
    (h63:n+m <= maxLen)(hbytes:(n+m)*bytes <= 140737488355328)
    (h:∀ao' cap' l' w',Row e size ao' (n+m) cap' (xs++news) l' -> Turn (l++R) w (l'++R) w' -> (ao'=none↔ao=none /\ m=0) -> K (a.put o.dst (.slice ao' (n+m) cap')) w'):o.wp P a w K Q:=by
  obtain⟨i,hi,hz,hsize,hby⟩:=he.info;obtain⟨ao',cap',l',w',hr,h2,h3,h4⟩:=run_append_row (P:=P) w t o.type e i z size bytes he.ht hi hz hsize hby he.zs ao n cap xs l R hrow hH ad m c news hl hnews h1 h63 hbytes;unfold Oper.wp execOp;simp only[ho,resolve,invoke,builtin,Sem.run_bind,Sem.run_pure,Result.andThen_ok,List.map_toArray,List.map_cons,List.map_nil,hs,hx,hr];exact h ao' cap' l' w' h2 h3 h4
theorem wpList_append_row {ops:Array Oper}{rest:List Oper}(hgd:o.guard=none)(s x:Operand)(ho:o.op=.call { callee:=.builtin .append,args:=#[s,x],argTypes:=#[t,t] })(he:Elem P t e size bytes z)
    (hs:a.eval s=.slice ao n cap)(hrow:Row e size ao n cap xs l)(hH:Has w (l++R))
    (hx:a.eval x=.slice (some ad) m c)(hl:news.length=m*size)(hnews:∀j u,news[j]?= some u -> w.cell? (ad.add j)=some u)(h1:∀u∈news,u.oneCell'=true)
    (h63:n+m <= maxLen)(hbytes:(n+m)*bytes <= 140737488355328)
    (h:∀ao' cap' l' w',Row e size ao' (n+m) cap' (xs++news) l' -> Turn (l++R) w (l'++R) w' -> (ao'=none↔ao=none /\ m=0) -> wpList P ops Q rest (a.put o.dst (.slice ao' (n+m) cap')) w'):
    wpList P ops Q (o::rest) a w:=
  wpList_plain hgd fun _ hK=>wp_append_row s x ho he hs hrow hH hx hl hnews h1 h63 hbytes fun ao' cap' l' w' h2 h3 h4=>hK _ _ (h ao' cap' l' w' h2 h3 h4)
theorem step_append_row {ops:Array Oper}{E:Prop}(hgd:o.guard=none)(s x:Operand)(ho:o.op=.call { callee:=.builtin .append,args:=#[s,x],argTypes:=#[t,t] })(he:Elem P t e size bytes z)
    (hs:a.eval s=.slice ao n cap)(hrow:Row e size ao n cap xs l)(hH:Has w (l++R))
    (hx:a.eval x=.slice (some ad) m c)(hl:news.length=m*size)(hnews:∀j u,news[j]?= some u -> w.cell? (ad.add j)=some u)(h1:∀u∈news,u.oneCell'=true)
    (h63:n+m <= maxLen)(hbytes:(n+m)*bytes <= 140737488355328)
    (h:∀ao' cap' l' w',Row e size ao' (n+m) cap' (xs++news) l' -> Turn (l++R) w (l'++R) w' -> (ao'=none↔ao=none /\ m=0) -> K (a.put o.dst (.slice ao' (n+m) cap')) w'):
    if Region.wanted o (yielded ops a.tmps)=true then Oper.wp P o a w K Q else E:=by
  have hw:Region.wanted o (yielded ops a.tmps)=true:=by simp[Region.wanted,hgd]
  rw[if_pos hw];exact wp_append_row s x ho he hs hrow hH hx hl hnews h1 h63 hbytes h
end
/-- The cells of a block that is known whole, as the append laws ask for them. -/
theorem news_of {w:World}{B:Nat}{cs:Array Value}{t:TypeId}{fr:Nat×Nat}(hb:w.heap[B]?= some (.cells cs t fr)):
    ∀j u,cs.toList[j]?= some u -> w.cell? ((⟨B,0,none⟩:Addr).add j)=some u:=fun j u hu=>by
  have hadd:(⟨B,0,none⟩:Addr).add j=⟨B,j,none⟩:=by unfold Addr.add;split<;>simp_all
  rw[hadd];simp[World.cell?,hb,←Array.getElem?_toList,hu]
theorem Row.news {e:TypeId}{size:Nat}{g n cap:Nat}{xs:List Value}{l:List Blk}(h:Row e size (some ⟨g,0,none⟩) n cap xs l){w:World}{R:List Blk}(hH:Has w (l++R)):
    ∀j u,xs[j]?= some u -> w.cell? ((⟨g,0,none⟩:Addr).add j)=some u:=fun j u hu=>by
  have hadd:(⟨g,0,none⟩:Addr).add j=⟨g,j,none⟩:=by unfold Addr.add;split<;>simp_all
  rw[hadd,h.cell hH j (by rw[←h.1];exact(List.getElem?_eq_some_iff.1 hu).1),hu]
/-- A slice's elements can be read at its address. -/
structure Src (w:World)(ao:Option Addr)(n cap size:Nat)(xs:List Value):Prop where
  len:xs.length=n*size
  nil:ao=none -> n=0 /\ cap=0
  at_:∀ad,ao=some ad -> ∀j u,xs[j]?= some u -> w.cell? (ad.add j)=some u
theorem Row.src {e:TypeId}{size:Nat}{ao:Option Addr}{n cap:Nat}{xs:List Value}{l:List Blk}(h:Row e size ao n cap xs l){w:World}{R:List Blk}(hH:Has w (l++R)):Src w ao n cap size xs:=by
  refine⟨h.1,fun hn=>?_,fun ad ha=>?_⟩
  · have h1:=h.2.1
    rcases h.2.2.2 with⟨_,h2,_⟩|⟨g,cur,h2,_⟩
    ·exact⟨by omega,h2⟩
    ·rw[hn]at h2;cases h2
  · subst ha
    rcases h.2.2.2 with⟨h2,_⟩|⟨g,cur,h2,_⟩
    ·cases h2
    · cases h2
      exact h.news hH
theorem Src.alloc {w:World}{ao:Option Addr}{n cap size:Nat}{xs:List Value}(h:Src w ao n cap size xs)(o:Obj):Src (w.alloc o) ao n cap size xs:=
  ⟨h.len,h.nil,fun ad ha j u hu=>by
    have h1:=h.at_ ad ha j u hu;rw[World.cell?_alloc_lt _ _ _ (World.block_lt_of_cell? w _ h1)];exact h1⟩
theorem add_lit (b off j:Nat):(⟨b,off,none⟩:Addr).add j=⟨b,off+j,none⟩:=by unfold Addr.add;split<;>simp_all
theorem spot_of_cell {w:World}{a:Addr}{v:Value}(h:w.cell? a=some v):a.spot=none:=by
  unfold World.cell? at h
  split at h
  · cases hs:a.spot with
    | none=>rfl
    | some _=>simp[hs]at h
  ·cases h
theorem Src.form {w:World}{ao:Option Addr}{n cap size:Nat}{xs:List Value}(h:Src w ao n cap size xs)(hn:0<xs.length):
    ∃b off,ao=some ⟨b,off,none⟩ /\ ∀j u,xs[j]?= some u -> w.cell? ⟨b,off+j,none⟩=some u:=by
  cases ao with
  | none=>
    have h1:=h.len;rw[(h.nil rfl).1,Nat.zero_mul]at h1;omega
  | some ad=>
    have h0:=h.at_ ad rfl 0 (xs[0]) (List.getElem?_eq_getElem hn);have h0':ad.add 0=ad:=(by unfold Addr.add;simp);rw[h0']at h0;have hs:=spot_of_cell h0;obtain⟨b,off,spot⟩:=ad;obtain rfl:spot=none:=hs;exact⟨b,off,rfl,fun j u hu=>by rw[←add_lit];exact h.at_ _ rfl j u hu⟩
#print axioms run_append_row
theorem run_append_none {P:Program}(w:World)(t ty e:TypeId)(i:TypeInfo)(ht:P.underlying t=some (.slice e))(hi:P.info? e=some i)(ao:Option Addr)(n cap:Nat)(hn:n <= cap):
    (Builtin.append_ #[t,t] ty #[.slice ao n cap,.slice none 0 0]).run P w=.ok (.slice ao n cap) w:=by
  cases ao<;>simp[Builtin.append_,run_underlying ht,sizeOf,typeInfo,hi,Builtin.lenOf,Builtin.firstCells,hn,storeCells]
section
variable {P:Program} {w:World} {o:Oper} {a:Act} {K:Act -> World -> Prop} {Q:Exit -> Act -> World -> Prop} {t e:TypeId} {size bytes:Nat} {z:Value}
  {ao ar:Option Addr} {n cap m c:Nat} {xs news:List Value} {l R:List Blk}
/-- append to a row, whatever the source: nil too. -/
theorem run_append_src (w:World)(he:Elem P t e size bytes z)(ty:TypeId)(hrow:Row e size ao n cap xs l)(hH:Has w (l++R))(hsrc:Src w ar m c size news)(h1:∀u∈news,u.oneCell'=true)
    (h63:n+m <= maxLen)(hbytes:(n+m)*bytes <= 140737488355328):
    ∃ao' cap' l' w',(Builtin.append_ #[t,t] ty #[.slice ao n cap,.slice ar m c]).run P w=.ok (.slice ao' (n+m) cap') w' /\
      Row e size ao' (n+m) cap' (xs++news) l' /\ Turn (l++R) w (l'++R) w':=by
  obtain⟨i,hi,hz,hsize,hby⟩:=he.info
  cases ar with
  | none=>
    obtain⟨rfl,rfl⟩:=hsrc.nil rfl;have hx:news=[]:=List.eq_nil_of_length_eq_zero (by simpa using hsrc.len);subst hx;exact⟨ao,cap,l,w,run_append_none w t ty e i he.ht hi ao n cap hrow.2.1,by simpa using hrow,Turn.refl hH⟩
  | some ad=>
    obtain⟨ao',cap',l',w',hr,h2,h3,_⟩:=run_append_row (P:=P) w t ty e i z size bytes he.ht hi hz hsize hby he.zs ao n cap xs l R hrow hH ad m c news hsrc.len (hsrc.at_ ad rfl) h1 h63 hbytes;exact⟨ao',cap',l',w',hr,h2,h3⟩
theorem wp_append_src (s x:Operand)(ho:o.op=.call { callee:=.builtin .append,args:=#[s,x],argTypes:=#[t,t] })(he:Elem P t e size bytes z)
    (hs:a.eval s=.slice ao n cap)(hx:a.eval x=.slice ar m c)(hrow:Row e size ao n cap xs l)(hH:Has w (l++R))(hsrc:Src w ar m c size news)(h1:∀u∈news,u.oneCell'=true)
    (h63:n+m <= maxLen)(hbytes:(n+m)*bytes <= 140737488355328)
    (h:∀ao' cap' l' w',Row e size ao' (n+m) cap' (xs++news) l' -> Turn (l++R) w (l'++R) w' -> K (a.put o.dst (.slice ao' (n+m) cap')) w'):o.wp P a w K Q:=by
  obtain⟨ao',cap',l',w',hr,h2,h3⟩:=run_append_src (P:=P) w he o.type hrow hH hsrc h1 h63 hbytes;unfold Oper.wp execOp;simp only[ho,resolve,invoke,builtin,Sem.run_bind,Sem.run_pure,Result.andThen_ok,List.map_toArray,List.map_cons,List.map_nil,hs,hx,hr];exact h ao' cap' l' w' h2 h3
theorem wpList_append_src {ops:Array Oper}{rest:List Oper}(hgd:o.guard=none)(s x:Operand)(ho:o.op=.call { callee:=.builtin .append,args:=#[s,x],argTypes:=#[t,t] })(he:Elem P t e size bytes z)
    (hs:a.eval s=.slice ao n cap)(hx:a.eval x=.slice ar m c)(hrow:Row e size ao n cap xs l)(hH:Has w (l++R))(hsrc:Src w ar m c size news)(h1:∀u∈news,u.oneCell'=true)
    (h63:n+m <= maxLen)(hbytes:(n+m)*bytes <= 140737488355328)
    (h:∀ao' cap' l' w',Row e size ao' (n+m) cap' (xs++news) l' -> Turn (l++R) w (l'++R) w' -> wpList P ops Q rest (a.put o.dst (.slice ao' (n+m) cap')) w'):wpList P ops Q (o::rest) a w:=
  wpList_plain hgd fun _ hK=>wp_append_src s x ho he hs hx hrow hH hsrc h1 h63 hbytes fun ao' cap' l' w' h2 h3=>hK _ _ (h ao' cap' l' w' h2 h3)
end
/-- A slice over a block of its own that has just been laid. -/
theorem Row.lit {e:TypeId}{size:Nat}(g:Nat)(cs:Array Value)(n:Nat)(hn:cs.size=n*size)(hm:n <= maxLen):Row e size (some ⟨g,0,none⟩) n n cs.toList [(g,.cells cs e (0,0))]:=
  ⟨by simpa using hn,Nat.le_refl _,hm,.inr ⟨g,cs,rfl,rfl,by omega,List.take_of_length_le (by rw[Array.length_toList];omega)⟩⟩
/-- Where all that was owned is owned still, unturned, nothing that was there has turned. -/
theorem Turn.keeps {L A:List Blk}{w w':World}(h:Turn L w (A++L) w')(hH:Has w L)(b:Nat)(hb:b<w.heap.size):w'.heap[b]?= w.heap[b]? :=by
  by_cases hm:b∈keys L
  · obtain⟨o,ho⟩:=mem_keys.1 hm
    rw[hH.own b o ho,h.has.own b o (List.mem_append.2 (.inr ho))]
  ·exact h.same b hb hm
theorem Src.later {w w':World}{ao:Option Addr}{n cap size:Nat}{xs:List Value}(h:Src w ao n cap size xs)(hk:∀b,b<w.heap.size -> w'.heap[b]?= w.heap[b]?):Src w' ao n cap size xs:=
  ⟨h.len,h.nil,fun ad ha j u hu=>by
    have h1:=h.at_ ad ha j u hu;rw[World.cell?_of_block (hk _ (World.block_lt_of_cell? w _ h1))];exact h1⟩
/-- Cells laid over others from a place on. -/
def laidOver (c:Array Value)(o:Nat):List Value -> Array Value
  | []=>c
  | v::r=>laidOver (c.setIfInBounds o v) (o+1) r
theorem laidOver_out:∀(vs:List Value) (c:Array Value) (o j:Nat),(j<o∨o+vs.length <= j) -> (laidOver c o vs)[j]?= c[j]?
  | [],_,_,_,_=>rfl
  | v::r,c,o,j,h=>by
    rw[List.length_cons]at h;rw[laidOver,laidOver_out r _ _ j (by omega),Array.getElem?_setIfInBounds_ne (by omega)]
theorem laidOver_in:∀(vs:List Value) (c:Array Value) (o j:Nat),o+vs.length <= c.size -> j<vs.length -> (laidOver c o vs)[o+j]?= vs[j]?
  | v::r,c,o,j,h,hj=>by
    rw[List.length_cons]at h hj;rw[laidOver]
    cases j with
    | zero=>
      show(laidOver (c.setIfInBounds o v) (o+1) r)[o]?= some v
      rw[laidOver_out r (c.setIfInBounds o v) (o+1) o (by omega),Array.getElem?_setIfInBounds_self_of_lt (by omega)]
    | succ j=>
      have:=laidOver_in r (c.setIfInBounds o v) (o+1) j (by simp;omega) (by omega);rw[show o+(j+1)=o+1+j by omega,this]
      rfl
theorem laidOver_all (c:Array Value)(vs:List Value)(h:vs.length=c.size):laidOver c 0 vs=vs.toArray:=by
  apply Array.ext_getElem?
  intro j
  by_cases hj:j<vs.length
  · have:=laidOver_in vs c 0 j (by omega) hj
    rw[Nat.zero_add]at this;rw[this,List.getElem?_toArray]
  ·rw[laidOver_out vs c 0 j (by omega),Array.getElem?_eq_none (by omega),List.getElem?_toArray,List.getElem?_eq_none (by omega)]
theorem Turn.setCells {l l1:List Blk}{w:World}{b:Nat}{e:TypeId}{f:Nat×Nat}:∀(vs:List Value) (o:Nat) (c:Array Value) (w':World),Turn l w ((b,.cells c e f)::l1) w' ->
    Turn l w ((b,.cells (laidOver c o vs) e f)::l1) (w'.setCells b o vs)
  | [],_,_,_,h=>h
  | v::r,o,c,w',h=>by
    rw[World.setCells];exact Turn.setCells r (o+1) _ _ (h.setCell o v)
theorem Has.there {w:World}{l:List Blk}{b:Nat}{c:Array Value}{e:TypeId}(h:Has w l)(hm:(b,Obj.cells c e (0,0))∈l)(o n:Nat)(hn:o+n <= c.size):w.there b o n:=fun j hj=>
  ⟨by rw[h.cell hm (o+j),Array.getElem?_eq_getElem (by omega)];rfl,h.free hm (o+j)⟩
theorem Has.range {w:World}{l:List Blk}{b:Nat}{c:Array Value}{e:TypeId}{f:Nat×Nat}(h:Has w l)(hm:(b,Obj.cells c e f)∈l):w.rangeAt b 0 c.toList:=fun j v hv=>by
  rw[Nat.zero_add,h.cell hm j,←Array.getElem?_toList];exact hv
theorem Turn.of_below {L:List Blk}{w w':World}(hH:Has w L)(hB:Below w.heap.size w w'):Turn L w L w':=
  ⟨hB.os,hB.tape,hB.output,hB.size,⟨hH.nd,fun b o hm=>(hB.block b (hH.lt (mem_keys.2 ⟨o,hm⟩))).trans (hH.own b o hm)⟩,fun _ hb=>.inl hb,fun b hb _=>hB.block b hb⟩
/-- A call that leaves all that lay. -/
theorem Turn.call {l L:List Blk}{w W w':World}(h:Turn l w L W)(hB:Below W.heap.size W w'):Turn l w L w':=h.trans (Turn.of_below h.has hB)
/-- The first of the owned blocks is laid anew, whole. -/
theorem Turn.setAll {l l1:List Blk}{w w':World}{b:Nat}{c:Array Value}{e:TypeId}{f:Nat×Nat}(vs:List Value)(hl:vs.length=c.size)(h:Turn l w ((b,.cells c e f)::l1) w'):
    Turn l w ((b,.cells vs.toArray e f)::l1) (w'.setCells b 0 vs):=by
  have:=Turn.setCells vs 0 c w' h
  rwa [laidOver_all c vs hl]at this
theorem Turn.laid {l l1:List Blk}{w w':World}{b:Nat}{c:Array Value}{e:TypeId}{f:Nat×Nat}(h:Turn l w ((b,.cells c e f)::l1) w')(vs:List Value)(hl:vs.length=c.size):
    Turn l w ((b,.cells vs.toArray e f)::l1) (w'.setCells b 0 vs):=Turn.setAll vs hl h
/-- A cell of the first owned block; of the second one. -/
theorem Turn.cell1 {l L:List Blk}{w W:World}{b:Nat}{c:Array Value}{e:TypeId}{f:Nat×Nat}(h:Turn l w ((b,.cells c e f)::L) W)(i:Nat):W.cell? ⟨b,i,none⟩=c[i]? :=h.has.cell (List.mem_cons_self ..) i
theorem Turn.free1 {l L:List Blk}{w W:World}{b:Nat}{c:Array Value}{e:TypeId}(h:Turn l w ((b,.cells c e (0,0))::L) W)(i:Nat):W.frozen? ⟨b,i,none⟩=false:=h.has.free (List.mem_cons_self ..) i
theorem Turn.cell2 {l L:List Blk}{w W:World}{b:Nat}{x:Blk}{c:Array Value}{e:TypeId}{f:Nat×Nat}(h:Turn l w (x::(b,.cells c e f)::L) W)(i:Nat):W.cell? ⟨b,i,none⟩=c[i]? :=h.has.cell (List.mem_cons_of_mem _ (List.mem_cons_self ..)) i
theorem Turn.free2 {l L:List Blk}{w W:World}{b:Nat}{x:Blk}{c:Array Value}{e:TypeId}(h:Turn l w (x::(b,.cells c e (0,0))::L) W)(i:Nat):W.frozen? ⟨b,i,none⟩=false:=h.has.free (List.mem_cons_of_mem _ (List.mem_cons_self ..)) i
theorem Turn.there1 {l L:List Blk}{w W:World}{b:Nat}{c:Array Value}{e:TypeId}(h:Turn l w ((b,.cells c e (0,0))::L) W):W.there b 0 c.size:=h.has.there (List.mem_cons_self ..) 0 c.size (by omega)
theorem Turn.swap {l L:List Blk}{w W:World}{x y:Blk}(h:Turn l w (x::y::L) W):Turn l w (y::x::L) W:=h.perm (.swap ..)
theorem Turn.rot3 {l L:List Blk}{w W:World}{x y z:Blk}(h:Turn l w (x::y::z::L) W):Turn l w (z::x::y::L) W:=h.perm ((List.Perm.cons x (.swap ..)).trans (.swap ..))
theorem Turn.tor3 {l L:List Blk}{w W:World}{x y z:Blk}(h:Turn l w (z::x::y::L) W):Turn l w (x::y::z::L) W:=h.perm ((List.Perm.swap ..).trans (.cons x (.swap ..)))
theorem Turn.there2 {l L:List Blk}{w W:World}{b:Nat}{x:Blk}{c:Array Value}{e:TypeId}(h:Turn l w (x::(b,.cells c e (0,0))::L) W):W.there b 0 c.size:=h.swap.there1
theorem Turn.laid2 {l l1:List Blk}{w w':World}{b:Nat}{x:Blk}{c:Array Value}{e:TypeId}{f:Nat×Nat}(h:Turn l w (x::(b,.cells c e f)::l1) w')(vs:List Value)(hl:vs.length=c.size):
    Turn l w (x::(b,.cells vs.toArray e f)::l1) (w'.setCells b 0 vs):=(Turn.setAll vs hl h.swap).swap
theorem Turn.there3 {l L:List Blk}{w W:World}{b:Nat}{x y:Blk}{c:Array Value}{e:TypeId}(h:Turn l w (x::y::(b,.cells c e (0,0))::L) W):W.there b 0 c.size:=h.rot3.there1
theorem Turn.laid3 {l l1:List Blk}{w w':World}{b:Nat}{x y:Blk}{c:Array Value}{e:TypeId}{f:Nat×Nat}(h:Turn l w (x::y::(b,.cells c e f)::l1) w')(vs:List Value)(hl:vs.length=c.size):
    Turn l w (x::y::(b,.cells vs.toArray e f)::l1) (w'.setCells b 0 vs):=(Turn.setAll vs hl h.rot3).tor3
theorem Turn.range1 {l L:List Blk}{w W:World}{b:Nat}{c:Array Value}{e:TypeId}{f:Nat×Nat}(h:Turn l w ((b,.cells c e f)::L) W):W.rangeAt b 0 c.toList:=h.has.range (List.mem_cons_self ..)
theorem Turn.range2 {l L:List Blk}{w W:World}{b:Nat}{x:Blk}{c:Array Value}{e:TypeId}{f:Nat×Nat}(h:Turn l w (x::(b,.cells c e f)::L) W):W.rangeAt b 0 c.toList:=h.swap.range1
theorem Turn.range3 {l L:List Blk}{w W:World}{b:Nat}{x y:Blk}{c:Array Value}{e:TypeId}{f:Nat×Nat}(h:Turn l w (x::y::(b,.cells c e f)::L) W):W.rangeAt b 0 c.toList:=h.rot3.range1
theorem Turn.cell3 {l L:List Blk}{w W:World}{b:Nat}{x y:Blk}{c:Array Value}{e:TypeId}{f:Nat×Nat}(h:Turn l w (x::y::(b,.cells c e f)::L) W)(i:Nat):W.cell? ⟨b,i,none⟩=c[i]? :=h.rot3.cell1 i
/-- A result that lies in a block of its own; such a one and another one. -/
theorem res_cell {P:Program}{fn:Func}{p:Tmp}{ty:TypeId}(h:fn.results=#[.cell p ty])(tmps:Array Value)(w:World)(b:Nat)(cs:List Value)(d:TypeDesc)
    (hp:tmps.getD p undef=.pointer (some ⟨b,0,none⟩))(hc:w.rangeAt b 0 cs)(hu:P.underlying ty=some d)(hd:d.isRow=true)(hi:(P.info? ty).map (·.size)=some cs.length):
    (results fn tmps).run P w=.ok (.agg cs.toArray) w:=by
  have hp':tmps[p]?.getD undef=.pointer (some ⟨b,0,none⟩):=by simpa using hp
  simp[results,h,hp',asAddr,run_loadVar_mid w b 0 ty cs d hc hu hd hi]
theorem res_two {P:Program}{fn:Func}{p q:Tmp}{ty:TypeId}(h:fn.results=#[.cell p ty,.tmp q])(tmps:Array Value)(w:World)(b:Nat)(cs:List Value)(d:TypeDesc)
    (hp:tmps.getD p undef=.pointer (some ⟨b,0,none⟩))(hc:w.rangeAt b 0 cs)(hu:P.underlying ty=some d)(hd:d.isRow=true)(hi:(P.info? ty).map (·.size)=some cs.length):
    (results fn tmps).run P w=.ok (.tuple #[.agg cs.toArray,tmps.getD q undef]) w:=by
  have hp':tmps[p]?.getD undef=.pointer (some ⟨b,0,none⟩):=by simpa using hp
  simp[results,h,hp',asAddr,run_loadVar_mid w b 0 ty cs d hc hu hd hi]
/-- A world of which no more is known. -/
theorem wp_abs {P:Program}{c:Code}{Q:Exit -> Act -> World -> Prop}{a:Act}{w:World}(I:World -> Prop)(h0:I w)(h:∀W,I W -> c.wp P Q a W):c.wp P Q a w:=h w h0
theorem all_one {cs:List Value}(h:∀v∈cs,v.oneCell'=true):cs.toArray.all (·.oneCell')=true:=all_oneCell_toArray h
section
variable {P:Program} {ops:Array Oper} {md:Region.Mode} {Q:Exit -> Act -> World -> Prop}
/-- An operation that is wanted and yields its value in every world that meets S is taken first. -/
theorem takeG {S:World -> Prop}{fuel:Nat}{w:World}(i d:Nat){oi:Oper}{v:Value}{L:List Bool}{ts:List Value}{ds:List Deferred}(hi:ops[i]?= some oi)(hdst:oi.dst=some d)(hw:Region.wanted oi (yielded ops ts.toArray)=true)
    (hs:Region.noSelect ops=true)(hf:Region.free md ops L.toArray i=true)(hr:(Region.ready md ops L.toArray).contains i=true)
    (hQ:∀c (a:Act) v w,Q (.panic c) (a.put (some d) v) w -> Q (.panic c) a w)(hS:S w)
    (hy:∀w,S w -> (execOp (Act.eval { tmps:=ts.toArray,defers:=ds }) oi).run P w=.ok (.value v) w)
    (h:wpAnyH P md ops Q S fuel (L.set i true).toArray { tmps:=(ts.set d v).toArray,defers:=ds } w):wpAnyH P md ops Q S (fuel+1) L.toArray { tmps:=ts.toArray,defers:=ds } w:=by
  refine wpAnyH_take hi hs hf hr (fun c a w h=>hQ c a v w (by rw[←hdst];exact h)) (Or.inl ⟨hw,hy⟩) hS ?_
  simpa [Act.put,hdst]using h
theorem wp_region_listed {S:World -> Prop}{id:Nat}{a:Act}{w:World}(k:Nat)(L:List Bool)(hk:ops.size=k)(hL:(Array.replicate k false).toList=L)(hm:P.follows .mixedOrders=true)
    (h:wpAnyH P .any ops Q S k L.toArray a w.drew):(Code.region id ops true).wp P Q a w:=by
  subst hk;subst hL;exact wp_region_held hm h
theorem load_mid_run {o:Oper}{a:Act}{w:World}(ty:TypeId)(x:Operand)(ho:o.op=.load ty x)(b off:Nat)(hx:a.eval x=.pointer (some ⟨b,off,none⟩))(cs:List Value)(d:TypeDesc)(hc:w.rangeAt b off cs)
    (hu:P.underlying ty=some d)(hd:d.isRow=true)(hi:(P.info? ty).map (·.size)=some cs.length):(execOp a.eval o).run P w=.ok (.value (.agg cs.toArray)) w:=by
  unfold execOp;simp only[ho,hx,Instr.loadAt,Instr.sureAddr,Sem.run_bind,Sem.run_pure,Result.andThen_ok,run_loadVar_mid w b off ty cs d hc hu hd hi]
end
section
variable {P:Program} {ops:Array Oper} {rest:List Oper} {op:Oper} {a:Act} {w:World} {Q:Exit -> Act -> World -> Prop}
theorem wpList_wanted (hw:Region.wanted op (yielded ops a.tmps)=true)(h:∀K:Act -> World -> Prop,(∀a w,wpList P ops Q rest a w -> K a w) -> op.wp P a w K Q):wpList P ops Q (op::rest) a w:=
  wpList_step fun K hK=>by rw[if_pos hw];exact h K hK
/-- A load of many cells, guarded: the guard holds. -/
theorem wpList_load_g (ty:TypeId)(x:Operand)(ho:op.op=.load ty x)(hw:Region.wanted op (yielded ops a.tmps)=true)(b off:Nat)(hx:a.eval x=.pointer (some ⟨b,off,none⟩))(cs:List Value)(d:TypeDesc)(hc:w.rangeAt b off cs)
    (hu:P.underlying ty=some d)(hd:d.isRow=true)(hi:(P.info? ty).map (·.size)=some cs.length)(h:wpList P ops Q rest (a.put op.dst (.agg cs.toArray)) w):wpList P ops Q (op::rest) a w:=
  wpList_wanted hw fun _ hK=>wp_load_mid ty x ho b off hx cs d hc hu hd hi (hK _ _ h)
end
end
section
open Go Go.RowKit
section
variable {P:Program} {ops:Array Oper} {md:Region.Mode} {Q:Exit -> Act -> World -> Prop}
theorem takeS {S:World -> Prop}{fuel:Nat}{w:World}(i d:Nat){oi:Oper}{L:List Bool}{ts:List Value}{ds:List Deferred}(hi:ops[i]?= some oi)(hdst:oi.dst=some d)(hw:Region.wanted oi (yielded ops ts.toArray)=false)
    (hs:Region.noSelect ops=true)(hf:Region.free md ops L.toArray i=true)(hr:(Region.ready md ops L.toArray).contains i=true)
    (hQ:∀c (a:Act) v w,Q (.panic c) (a.put (some d) v) w -> Q (.panic c) a w)(hS:S w)
    (h:wpAnyH P md ops Q S fuel (L.set i true).toArray { tmps:=(ts.set d undef).toArray,defers:=ds } w):wpAnyH P md ops Q S (fuel+1) L.toArray { tmps:=ts.toArray,defers:=ds } w:=by
  refine wpAnyH_take hi hs hf hr (fun c a w h=>hQ c a undef w (by rw[←hdst];exact h)) (Or.inr ⟨hw,rfl⟩) hS ?_
  simpa [Act.put,hdst]using h
end
abbrev pt (b:Nat):Value:=.pointer (some ⟨b,0,none⟩)
abbrev zH:Obj:=.cells #[.int .u8 0,.int .i64 0,.int .i64 0,.int .i64 0] 79
abbrev zT:Obj:=.cells #[.int .u8 0,.int .i64 0,.int .u64 0] 49
abbrev rS (a:Option Addr)(W:List Nat)(c:Nat)(l:Option Addr){τ:Type}(L:List τ)(k:Nat):Obj:=.cells #[.slice a W.length c,.slice l L.length k] 109
abbrev bS (b:Nat):Obj:=.cells #[.pointer (some ⟨b,0,none⟩)] 26
theorem uh {p:Prop}(h:p):Hid p:=Lib.hid h
theorem po {l l':List Blk}(h:∀c:Blk -> Nat,wt c l=wt c l':=by intro c;simp<;>omega):l.Perm l':=perm_of h
abbrev sW {P:Program}{ops:Array Oper}{Q:Exit -> Act -> World -> Prop}{d:Option Tmp}{ty:TypeId}{ps:String}{af:Array Edge}{gd:Option (Nat×Bool)}{p v:Operand}{r:List Oper}{a:Act}{w:World}(t:TypeId):Prop:=wpList P ops Q (⟨d,.store t p v,ty,ps,af,gd⟩::r) a w
abbrev lW {P:Program}{ops:Array Oper}{Q:Exit -> Act -> World -> Prop}{d:Option Tmp}{ty:TypeId}{ps:String}{af:Array Edge}{gd:Option (Nat×Bool)}{p:Operand}{r:List Oper}{a:Act}{w:World}(t:TypeId):Prop:=wpList P ops Q (⟨d,.load t p,ty,ps,af,gd⟩::r) a w
theorem st1 {α:Type}{a b:α}{l:List α}:(b::l).set 0 a=a::l:=rfl
theorem st2 {α:Type}{a b:α}{l:List α}{n:Nat}:(b::l).set (n+1) a=b::l.set n a:=rfl
theorem st0 {α:Type}{l:List α}{i:Nat}{a:α}:l.toArray.setIfInBounds i a=(l.set i a).toArray:=List.setIfInBounds_toArray ..
section
variable {P:Program} {ops:Array Oper} {md:Region.Mode} {Q:Exit -> Act -> World -> Prop}
theorem tkA {S:World -> Prop}{fuel:Nat}{w:World}(i d:Nat){oi:Oper}{v:Value}{L:List Bool}{ts:List Value}{ds:List Deferred}(hS:S w){L2:List Bool}{ts2:List Value}(h:wpAnyH P md ops Q S fuel L2.toArray { tmps:=ts2.toArray,defers:=ds } w)
    (hi:ops[i]?= some oi:=by rfl)(hdst:oi.dst=some d:=by rfl)(hw:Region.wanted oi (yielded ops ts.toArray)=true:=by rfl)
    (hs:Region.noSelect ops=true:=by kernel_rfl)(hf:Region.free md ops L.toArray i=true:=by kernel_rfl)(hr:(Region.ready md ops L.toArray).contains i=true:=by kernel_rfl)
    (hQ:∀c (a:Act) v w,Q (.panic c) (a.put (some d) v) w -> Q (.panic c) a w:=by exact fun _ _ _ _ h=>h)
    (hy:∀w,S w -> (execOp (Act.eval { tmps:=ts.toArray,defers:=ds }) oi).run P w=.ok (.value v) w:=by intro w hSw;clear hSw;go_simp;try rfl)
    (hL:L.set i true=L2:=by simp only[st1,st2];try exact rfl)(ht:ts.set d v=ts2:=by simp only[st1,st2];try exact rfl):
    wpAnyH P md ops Q S (fuel+1) L.toArray { tmps:=ts.toArray,defers:=ds } w:=takeG i d hi hdst hw hs hf hr hQ hS hy (by rw[hL,ht];exact h)
theorem tkB {S:World -> Prop}{fuel:Nat}{w:World}{C:World -> Prop}(i d:Nat){oi:Oper}{v:Value}{L:List Bool}{ts:List Value}{ds:List Deferred}(hS:S w)(hC:∀w,S w -> C w){L2:List Bool}{ts2:List Value}(h:wpAnyH P md ops Q S fuel L2.toArray { tmps:=ts2.toArray,defers:=ds } w)
    (hi:ops[i]?= some oi:=by rfl)(hdst:oi.dst=some d:=by rfl)(hw:Region.wanted oi (yielded ops ts.toArray)=true:=by rfl)
    (hs:Region.noSelect ops=true:=by kernel_rfl)(hf:Region.free md ops L.toArray i=true:=by kernel_rfl)(hr:(Region.ready md ops L.toArray).contains i=true:=by kernel_rfl)
    (hQ:∀c (a:Act) v w,Q (.panic c) (a.put (some d) v) w -> Q (.panic c) a w:=by exact fun _ _ _ _ h=>h)
    (hy:∀w,C w -> (execOp (Act.eval { tmps:=ts.toArray,defers:=ds }) oi).run P w=.ok (.value v) w:=by intro w hc;go_simp;try rfl)
    (hL:L.set i true=L2:=by simp only[st1,st2];try exact rfl)(ht:ts.set d v=ts2:=by simp only[st1,st2];try exact rfl):
    wpAnyH P md ops Q S (fuel+1) L.toArray { tmps:=ts.toArray,defers:=ds } w:=takeG i d hi hdst hw hs hf hr hQ hS (fun w hw=>hy w (hC w hw)) (by rw[hL,ht];exact h)
theorem tkC {S:World -> Prop}{fuel:Nat}{w:World}(i d:Nat){oi:Oper}{v:Value}{L:List Bool}{ts:List Value}{ds:List Deferred}(hS:S w)
    (hy:∀w,S w -> (execOp (Act.eval { tmps:=ts.toArray,defers:=ds }) oi).run P w=.ok (.value v) w){L2:List Bool}{ts2:List Value}(h:wpAnyH P md ops Q S fuel L2.toArray { tmps:=ts2.toArray,defers:=ds } w)
    (hi:ops[i]?= some oi:=by rfl)(hdst:oi.dst=some d:=by rfl)(hw:Region.wanted oi (yielded ops ts.toArray)=true:=by rfl)
    (hs:Region.noSelect ops=true:=by kernel_rfl)(hf:Region.free md ops L.toArray i=true:=by kernel_rfl)(hr:(Region.ready md ops L.toArray).contains i=true:=by kernel_rfl)
    (hQ:∀c (a:Act) v w,Q (.panic c) (a.put (some d) v) w -> Q (.panic c) a w:=by exact fun _ _ _ _ h=>h)
    (hL:L.set i true=L2:=by simp only[st1,st2];try exact rfl)(ht:ts.set d v=ts2:=by simp only[st1,st2];try exact rfl):
    wpAnyH P md ops Q S (fuel+1) L.toArray { tmps:=ts.toArray,defers:=ds } w:=takeG i d hi hdst hw hs hf hr hQ hS hy (by rw[hL,ht];exact h)
theorem tkS {S:World -> Prop}{fuel:Nat}{w:World}(i d:Nat){oi:Oper}{L:List Bool}{ts:List Value}{ds:List Deferred}(hS:S w){L2:List Bool}{ts2:List Value}(h:wpAnyH P md ops Q S fuel L2.toArray { tmps:=ts2.toArray,defers:=ds } w)
    (hi:ops[i]?= some oi:=by rfl)(hdst:oi.dst=some d:=by rfl)(hw:Region.wanted oi (yielded ops ts.toArray)=false:=by rfl)
    (hs:Region.noSelect ops=true:=by kernel_rfl)(hf:Region.free md ops L.toArray i=true:=by kernel_rfl)(hr:(Region.ready md ops L.toArray).contains i=true:=by kernel_rfl)
    (hQ:∀c (a:Act) v w,Q (.panic c) (a.put (some d) v) w -> Q (.panic c) a w:=by exact fun _ _ _ _ h=>h)
    (hL:L.set i true=L2:=by simp only[st1,st2];try exact rfl)(ht:ts.set d undef=ts2:=by simp only[st1,st2];try exact rfl):
    wpAnyH P md ops Q S (fuel+1) L.toArray { tmps:=ts.toArray,defers:=ds } w:=takeS i d hi hdst hw hs hf hr hQ hS (by rw[hL,ht];exact h)
theorem rdyA {S:World -> Prop}{fuel:Nat}{L:Array Bool}{a:Act}{w:World}{o:Oper}(i:Nat)
    (h:∀K':Act -> World -> Prop,Shut (∀a w,S w -> (S w -> wpAnyH P md ops Q S fuel (L.setIfInBounds i true) a w) -> K' a w) -> if Region.wanted o (yielded ops a.tmps)=true then Oper.wp P o a w K' Q else K' (a.put o.dst undef) w)
    (ho:ops[i]?= some o:=by rfl)(hr:Region.ready md ops L=[i]:=by kernel_rfl):wpAnyH P md ops Q S (fuel+1) L a w:=wpAnyH_ready hr (by simp) (AllReadyH.cons ho h AllReadyH.nil)
end
end
section
open Go
theorem wpIn_of_wp_round {n l:Nat}{P:Program}{o:Oper}{a:Act}{w:World}{K:Act -> World -> Prop}{Q:Exit -> Act -> World -> Prop}(hd:∀c,o.op≠ .defer c)(h:o.wp P a w K Q):
  o.wpIn (Fence.wide.inRound l) n P a w K Q:=by
 refine⟨fun _ _=>trivial,?_⟩;rw[show(Fence.wide.inRound l).round=some l from rfl,Oper.semAt_some l _ _ hd];unfold Oper.wp at h;generalize(execOp a.eval o).run P w=r at*
 cases r with
 | ok x w'=>
  cases x<;>simp only[Oper.upon,Oper.uponIn]at h ⊢ <;>first
   | exact h
   | exact⟨(fun hx=>by cases hx),CallsIn.inRound l (callsIn_wide.2 h)⟩
   | (refine⟨(fun hx=>by cases hx),fun c cs _=>?_⟩
      obtain⟨v,w'',hr,hs⟩:=h c cs;exact⟨v,w'',hr,(stepsIn_wide (P:=P)).2 hs⟩)
 | halt x w'=>cases x<;>simp only[Oper.upon,Oper.uponIn]at h ⊢ <;>exact h
def noDefers (ops:Array Oper):Bool:=ops.toList.all fun o=>match o.op with| .defer _=>false|_=>true
theorem noDefers_at {ops:Array Oper}(h:noDefers ops=true){i:Nat}{o:Oper}(hi:ops[i]?= some o):∀c,o.op≠ .defer c:=by
 intro c hc
 have hm:o∈ops.toList:=by
  rw[←Array.getElem?_toList]at hi;exact List.mem_of_getElem? hi
 have:=List.all_eq_true.1 h o hm;rw[hc]at this
 cases this
section
variable {n l:Nat} {P:Program} {ops:Array Oper} {Q:Exit -> Act -> World -> Prop} {md:Region.Mode}
theorem wpOpIn_round (hd:noDefers ops=true)(hq:¬LetsOut Q){i:Nat}{K K':Act -> World -> Prop}(hK:∀a w,K a w -> K' a w){a:Act}{w:World}(h:wpOp P ops Q i K a w):
  wpOpIn (Fence.wide.inRound l) n P ops Q i K' a w:=by
 unfold wpOp at h;unfold wpOpIn
 cases ho:ops[i]? with
 | none=>rw[ho]at h;exact hK _ _ h
 | some o=>
  rw[ho]at h;simp only at h ⊢
  split
  · rename_i hw
    rw[if_pos hw]at h;rcases h with h|⟨-,h⟩
    ·exact wpIn_of_wp_round (noDefers_at hd ho) (Oper.wp_mono hK h)
    ·exact absurd h hq
  · rename_i hw
    rw[if_neg hw]at h;exact⟨fun _ _=>trivial,hK _ _ h⟩
theorem wpAnyIn_round (hd:noDefers ops=true)(hq:¬LetsOut Q):∀(fuel:Nat) (listed:Array Bool) (a:Act) (w:World),wpAny P md ops Q fuel listed a w -> wpAnyIn (Fence.wide.inRound l) n P md ops Q fuel listed a w
 | 0,_,_,_,h=>h
 | fuel+1,_,_,_,h=>⟨h.1,fun i hi=>wpOpIn_round hd hq (fun a w=>wpAnyIn_round hd hq fuel _ a w) (h.2 i hi)⟩
theorem wpIn_region_round {id:Nat}{a:Act}{w:World}{S:World -> Prop}(k:Nat)(L:List Bool)(hk:ops.size=k)(hL:(Array.replicate k false).toList=L)(hm:P.follows .mixedOrders=true)(hd:noDefers ops=true)(hq:¬LetsOut Q)
  (h:wpAnyH P .any ops Q S k L.toArray a w.drew):(Code.region id ops true).wpIn (Fence.wide.inRound l) n P Q a w:=by
 subst hk;subst hL;exact wpIn_region_any hm (wpAnyIn_round hd hq _ _ _ _ (wpAny_of_held _ _ _ _ h))
theorem takeH {S:World -> Prop}{fuel:Nat}{w:World}(i d:Nat){oi:Oper}{v:Value}{L:List Bool}{ts:List Value}{ds:List Deferred}(hi:ops[i]?= some oi)(hdst:oi.dst=some d)(hg:oi.guard=none)
  (hs:Region.noSelect ops=true)(hf:Region.free md ops L.toArray i=true)(hr:(Region.ready md ops L.toArray).contains i=true)
  (hQ:∀c (a:Act) v w,Q (.panic c) (a.put (some d) v) w -> Q (.panic c) a w)(hS:S w)
  (hy:∀w,S w -> (execOp (Act.eval { tmps:=ts.toArray,defers:=ds }) oi).run P w=.ok (.value v) w)
  (h:wpAnyH P md ops Q S fuel (L.set i true).toArray { tmps:=(ts.set d v).toArray,defers:=ds } w):wpAnyH P md ops Q S (fuel+1) L.toArray { tmps:=ts.toArray,defers:=ds } w:=by
 refine wpAnyH_take hi hs hf hr (fun c a w h=>hQ c a v w (by rw[←hdst];exact h)) (Or.inl ⟨by simp[Region.wanted,hg],hy⟩) hS ?_
 simpa [Act.put,hdst]using h
theorem step_append_own {o:Oper}{ts:List Value}{ds:List Deferred}{K:Act -> World -> Prop}{E:Prop}(w:World)(d:Nat)(hdst:o.dst=some d)(hg:o.guard=none)(s x:Operand)(t:TypeId)(hop:o.op=Op.call { callee:=Callee.builtin Builtin.append,args:=#[s,x],argTypes:=#[t,t] })
  (base:Nat)(e:TypeId)(i:TypeInfo)(z:Value)(size bytes:Nat)(h1:P.underlying t=some (.slice e))(h2:P.info? e=some i)(h3:i.zero=some z)(h4:i.size=size)(h5:i.bytes=bytes)(h6:z.cells.size=size)(h7:0<size)
  (v:Value)(k:Nat)(xs:List Value)(hs:Act.eval { tmps:=ts.toArray,defers:=ds } s=v)(hown:w.ownsRow base e size v k xs)(ad:Addr)(m c:Nat)(news:List Value)(hx:Act.eval { tmps:=ts.toArray,defers:=ds } x=.slice (some ad) m c)(hn:news.length=m*size)
  (hc:∀j u,news[j]?= some u -> w.cell? (ad.add j)=some u)(h1c:∀u∈news,u.oneCell'=true)(b1:k+m <= maxLen)(b2:(k+m)*bytes <= 140737488355328)(b3:base <= w.heap.size)
  (hK:∀v' w',w'.ownsRow base e size v' (k+m) (xs++news) -> w.grownBy w' v.ownBlock -> (v'=.slice none 0 0↔v=.slice none 0 0 /\ m=0) -> K { tmps:=(ts.set d v').toArray,defers:=ds } w'):
  if Region.wanted o (yielded ops (Act.tmps { tmps:=ts.toArray,defers:=ds }))=true then Oper.wp P o { tmps:=ts.toArray,defers:=ds } w K Q else E:=by
 have hw:Region.wanted o (yielded ops (Act.tmps { tmps:=ts.toArray,defers:=ds }))=true:=by simp[Region.wanted,hg]
 rw[if_pos hw];obtain⟨v',w',hrun,r1,r2,r3⟩:=run_append_own (P:=P) w base t o.type e i z size bytes h1 h2 h3 h4 h5 h6 h7 v k xs hown ad m c news hn hc h1c b1 b2 b3;unfold Oper.wp;simp[execOp,hop,resolve,invoke,builtin,hs,hx,hrun,Result.andThen];have:=hK v' w' r1 r2 r3
 simpa [Oper.upon,Act.put,hdst]using this
end
structure Follows (F:Fence)(n:Nat)(P:Program):Prop where
 fn:∀f,F.fn f
 op:∀(o:Oper) (a:Act) (w:World) (K:Act -> World -> Prop) (Q:Exit -> Act -> World -> Prop),(∀c,o.op≠ .defer c) -> o.wp P a w K Q -> o.wpIn F n P a w K Q
theorem follows_round (l n:Nat)(P:Program):Follows (Fence.wide.inRound l) n P:=⟨fun _=>trivial,fun _ _ _ _ _ hd h=>wpIn_of_wp_round hd h⟩
theorem follows_wide (n:Nat)(P:Program):Follows Fence.wide n P:=by
 refine⟨fun _=>trivial,fun o a w K Q hd h=>⟨fun _ _=>trivial,?_⟩⟩;rw[show Fence.wide.round=none from rfl,Oper.semAt_none];unfold Oper.wp at h;generalize(execOp a.eval o).run P w=r at*
 cases r with
 | ok x w'=>
  cases x<;>simp only[Oper.upon,Oper.uponIn]at h ⊢ <;>first
   | exact h
   | exact⟨(fun hx=>by cases hx),callsIn_wide.2 h⟩
   | (refine⟨(fun hx=>by cases hx),fun c cs _=>?_⟩
      obtain⟨v,w'',hr,hs⟩:=h c cs;exact⟨v,w'',hr,(stepsIn_wide (P:=P)).2 hs⟩)
 | halt x w'=>cases x<;>simp only[Oper.upon,Oper.uponIn]at h ⊢ <;>exact h
section
variable {F:Fence} {n:Nat} {P:Program} {ops:Array Oper} {md:Region.Mode} {w:World} {Q:Exit -> Act -> World -> Prop}
theorem wpOpIn_of_stOp (hF:Follows F n P)(hd:noDefers ops=true){i:Nat}{a:Act}{K:Act -> Prop}{K':Act -> World -> Prop}(h:∀a,K a -> K' a w)(hh:stOp P ops w i K a):wpOpIn F n P ops Q i K' a w:=by
 unfold stOp at hh;unfold wpOpIn
 split
 ·rename_i ho;simp only[ho]at hh;exact h _ hh
 · rename_i o ho
   simp only[ho]at hh
   split
   ·rename_i hw;simp only[hw,if_true]at hh;exact hF.op o a w K' Q (noDefers_at hd ho) (Oper.wp_of_still h hh)
   ·rename_i hw;simp only[hw]at hh;exact⟨fun f _=>hF.fn f,h _ hh⟩
theorem wpAnyIn_of_head (hF:Follows F n P)(hd:noDefers ops=true){m g:Nat}{L:Array Bool -> Act -> Prop}(hL:∀listed a,L listed a -> wpAnyIn F n P md ops Q g listed a w):
  ∀(f:Nat) (listed:Array Bool) (a:Act),wpAnyL P md ops w m L f listed a -> wpAnyIn F n P md ops Q (f+g) listed a w
 | 0,listed,a,h=>by rw[Nat.zero_add];exact hL _ _ h
 | f+1,listed,a,h=>by
  rw[show f+1+g=(f+g)+1 by omega];exact⟨fun h0=>absurd h0 h.1,fun i hi=>wpOpIn_of_stOp hF hd (fun a' h'=>wpAnyIn_of_head hF hd hL f _ a' h') (h.2 i hi).2⟩
theorem wpAnyIn_of_seq:∀(l:List Oper) (k:Nat) (listed:Array Bool) (a:Act) (w:World),(∀j,l[j]?= ops[k+j]?) ->
  Region.seqB md ops l.length k listed=true -> wpListIn F n P ops Q l a w -> wpAnyIn F n P md ops Q l.length listed a w
 | [],_,_,_,_,_,hB,h=>⟨by simpa [Region.seqB]using hB,h⟩
 | o::l,k,listed,a,w,hl,hB,h=>by
  have h0:ops[k]?= some o:=by simpa using(hl 0).symm
  simp only[List.length_cons,Region.seqB,Bool.and_eq_true,decide_eq_true_eq]at hB;refine⟨fun h1=>(by rw[hB.1]at h1;cases h1),fun i hi=>?_⟩;rw[hB.1]at hi;have hik:i=k:=by simpa using hi
  subst hik;have hw:wpOpIn F n P ops Q i (wpListIn F n P ops Q l) a w:=by unfold wpOpIn;simp only[h0];exact h
  exact wpOpIn_mono (fun a' w' h'=>wpAnyIn_of_seq l (i+1) _ a' w' (fun j=>by have:=hl (j+1);simpa [Nat.add_assoc,Nat.add_comm 1 j]using this) hB.2 h') hw
end
theorem wpIn_region_still_tail {F:Fence}{n:Nat}{P:Program}{id:Nat}{Q:Exit -> Act -> World -> Prop}{a:Act}{w:World}{l:List Oper}(hF:Follows F n P)(m:Nat)(hm:P.follows .mixedOrders=true)(hB:Region.lexTailB .any l.toArray m=true)(hd:noDefers l.toArray=true)
  (h:wpStill P l.toArray w.drew (fun a'=>wpListIn F n P l.toArray Q (l.drop m) a' w.drew) (l.take m) a):(Code.region id l.toArray true).wpIn F n P Q a w:=by
 simp only[Region.lexTailB,Bool.and_eq_true,decide_eq_true_eq]at hB;obtain⟨⟨⟨⟨hsel,hn⟩,hs⟩,hc⟩,hlex⟩:=hB;have hn':m<l.length:=by simpa using hn
 have htl:(l.take m).length=m:=by simp;omega
 have hdl:(l.drop m).length=l.toArray.size-m:=by simp
 have inv0:HeadInv .any l.toArray m (Array.replicate l.toArray.size false):=
  ⟨by simp,fun j oj _ hl=>(by rw[getD_replicate_false]at hl;cases hl),fun t _ ht=>getD_in (by simpa using ht) (getD_replicate_false _ _)⟩
 have H:=wpAnyL_lex (md:=.any) (g:=l.toArray.size-m) hsel hs hc hn (l.take m) 0 _ a (fun j hj=>by
  have hj':j<m:=by rw[htl]at hj;exact hj
  simp[hj']) (by simpa using htl) inv0 (by rw[htl];exact hlex) h
 refine wpIn_region_any hm ?_
 have:=wpAnyIn_of_head (Q:=Q) hF hd (g:=l.toArray.size-m) (fun listed a' hL=>by
  have:=wpAnyIn_of_seq (F:=F) (n:=n) (P:=P) (md:=.any) (Q:=Q) (l.drop m) m listed a' w.drew (fun j=>by simp[List.getElem?_drop]) (by rw[hdl];exact hL.1) hL.2
  rwa [hdl]at this) _ _ _ H
 rw[htl,show m+(l.toArray.size-m)=l.toArray.size by omega]at this;exact this
end
section
open Go Go.RowKit
structure Marks (B:Nat)(r:Loop)(W:World):Prop where
 dfr:W.heap[B]?= some (.deferred (some []))
 loop:W.heap[B+1]?= some (.loop r)
theorem Marks.keeps {B:Nat}{r:Loop}{W W':World}(h:Marks B r W)(k:KeepsFrom B W W'):Marks B r W':=
 ⟨k.same _ _ (Nat.le_refl _) h.dfr rfl,k.same _ _ (Nat.le_succ _) h.loop rfl⟩
theorem Marks.put {B:Nat}{r:Loop}{W:World}(h:Marks B r W)(r':Loop):Marks B r' (W.putObj (B+1) (.loop r')):=
 ⟨(World.putObj_heap_other (by omega)).trans h.dfr,World.putObj_heap_same (Array.getElem?_eq_some_iff.1 h.loop).1⟩
theorem Marks.grown {B:Nat}{r:Loop}{W W':World}{row:Option Nat}(h:Marks B r W)(hg:W.grownBy W' row)(hr:∀j,row=some j -> ∃o:Obj,W.heap[j]?= some o /\ o.isWalk=true):Marks B r W':=by
 have go:∀(k:Nat) (o:Obj),W.heap[k]?= some o -> o.isWalk=false -> W'.heap[k]?= some o:=fun k o hk ho=>(hg.block k (Array.getElem?_eq_some_iff.1 hk).1 (fun e=>by
  obtain⟨o',ho',hw⟩:=hr k e.symm;rw[hk]at ho'
  cases ho'
  rw[ho]at hw
  cases hw)).trans hk
 exact⟨go _ _ h.dfr rfl,go _ _ h.loop rfl⟩
section
variable {F:Fence} {n:Nat} {P:Program}
def SeqNext {α:Type}(F:Fence)(n:Nat)(P:Program)(g:Nat)(lb:Array Value)(encs:α -> Array Value)(Kp:World -> World -> Prop)(Nx:List α -> α -> Prop)(S:List α -> Prop)(w:World):Prop:=
 ∀(l:Nat) (J Jx:List α -> World -> Prop) (W:World),Below w.heap.size w W -> AbidesFrom W.heap.size J -> AbidesFrom W.heap.size Jx ->
  (∀pre x W1,Nx pre x -> J pre W1 -> YieldAt F (n-1) P l (encs x) W1 fun e W'=>
    (e=.returned (.bool true) /\ J (pre++[x]) W' /\ Kp W1 W')∨(e=.returned (.bool false) /\ Jx (pre++[x]) W')) ->
  J [] W ->
  CallsIn F n P g (#[.func (.yield l) #[] #[]]++lb) W fun e W'=>(∃v,e=.returned v) /\ ((∃xs,S xs /\ J xs W')∨(∃pre,Jx pre W'))
end
section
variable {F:Fence} {n:Nat} {P:Program}
def SeqUp {α:Type}(F:Fence)(n:Nat)(P:Program)(g:Nat)(lb:Array Value)(encs:α -> Array Value)(Kp:World -> World -> Prop)(Nx:List α -> α -> Prop)(S:List α -> Prop)(Up:World -> World -> Prop)(w:World):Prop:=
 ∀(l:Nat) (J Jx:List α -> World -> Prop) (W:World),Below w.heap.size w W -> AbidesFrom W.heap.size J -> AbidesFrom W.heap.size Jx -> (∀pre A B,J pre A -> Up A B -> J pre B) ->
  (∀pre x W1,Nx pre x -> J pre W1 -> YieldAt F (n-1) P l (encs x) W1 fun e W'=>
    (e=.returned (.bool true) /\ J (pre++[x]) W' /\ Kp W1 W')∨(e=.returned (.bool false) /\ Jx (pre++[x]) W')) ->
  J [] W ->
  CallsIn F n P g (#[.func (.yield l) #[] #[]]++lb) W fun e W'=>(∃v,e=.returned v) /\ ((∃xs,S xs /\ J xs W')∨(∃pre,Jx pre W'))
theorem wpIn_rangeFunc_up {α:Type}{g:Operand}{ps:Array Tmp}{assign body:Code}{Q:Exit -> Act -> World -> Prop}{a:Act}{w:World}
  (hro:F.round=none)(h1:1 <= n){gf:Nat}{lb:Array Value}(hg:a.eval g=.func (.func gf) #[] lb)(hFg:F.fn gf)(eg:∀args w,(callFunc gf args).run P w=.ok (.enter gf args) w)
  {encs:α -> Array Value}{Kp:World -> World -> Prop}{Nx:List α -> α -> Prop}{S:List α -> Prop}{Up:World -> World -> Prop}{w0:World}(hseq:SeqUp F (n-1) P gf lb encs Kp Nx S Up w0)(hUm:∀(A B:World) (r:Loop),Up A B -> Marks w.heap.size r A -> Marks w.heap.size r B)
  (hKt:∀{A B C:World},Kp A B -> Kp B C -> Kp A C)(hKb:∀(W:World) (l:Nat) (o o':Obj),w.heap.size <= l -> W.heap[l]?= some o -> o.isCells=false -> o.isWalk=false -> Kp W (W.putObj l o'))(hb0:Below w0.heap.size w0 w)(hps:∀x,(encs x).size=ps.size)
  (I:List α -> World -> Prop)(Ix:Code -> List α -> World -> Prop)(M:α -> Act -> List α -> World -> Prop)(hI:OwnFrom w.heap.size I)(hIx:∀c,OwnFrom w.heap.size (Ix c))(hM:∀x a',OwnFrom w.heap.size (M x a'))(h0:I [] w)(hUp:∀pre A B,I pre A -> Up A B -> I pre B)
  (hassign:∀(l:Nat) (pre:List α) (x:α) (W:World),Nx pre x -> I pre W ->
    assign.wpIn (F.inRound l) (n-1-1) P (Exit.then (fun a' W'=>KeepsFrom w.heap.size W W' /\ Kp W W' /\ M x a' pre W') (fun _ _ _=>False)) { tmps:=(ps.zip (encs x)).foldl (fun t (p,v)=>t.setIfInBounds p v) a.tmps,defers:=[] } W)
  (hbody:∀(l:Nat) (pre:List α) (x:α) (a':Act) (W:World),Nx pre x -> M x a' pre W -> body.wpIn (F.inRound l) (n-1-1) P (ownPostG w.heap.size Kp I Ix (pre++[x]) W) a' W)
  (hdone:∀(D:Nat) (xs:List α) (W:World),w.heap.size <= D -> S xs -> I xs W -> W.heap[D]?= some (.deferred (some [])) -> Q .normal { a with defers:={ target:=.collected D,args:=#[] }::a.defers } W)
  (hstop:∀(D:Nat) (c:Code) (pre:List α) (W:World),w.heap.size <= D -> Ix c pre W -> W.heap[D]?= some (.deferred (some [])) -> c.wpIn F n P Q { a with defers:={ target:=.collected D,args:=#[] }::a.defers } W):
  (Code.rangeFunc g ps assign body).wpIn F n P Q a w:=by
 refine wpIn_rangeFunc fun fn hfn=>?_;rw[hro]
 let rc:LoopState -> Option Code -> Loop:=fun st pe=>{ state:=st,pending:=pe,fn,tmps:=a.tmps,params:=ps,assign,body,defers:=w.heap.size }
 have hsz1:((w.alloc (.deferred (some []))).alloc (.loop (rc .ready none))).heap.size=w.heap.size+2:=by simp
 have hm1:Marks w.heap.size (rc .ready none) ((w.alloc (.deferred (some []))).alloc (.loop (rc .ready none))):=by
  refine⟨(Below.heap_alloc _ _ _ (by simp)).trans (World.alloc_heap_new w _),?_⟩;have:=World.alloc_heap_new (w.alloc (.deferred (some []))) (.loop (rc .ready none))
  rwa [World.size_alloc]at this
 have hi1:I [] ((w.alloc (.deferred (some []))).alloc (.loop (rc .ready none))):=hI.alloc _ (hI.alloc _ h0);have hb1:Below w0.heap.size w0 ((w.alloc (.deferred (some []))).alloc (.loop (rc .ready none))):=hb0.trans ((((Below.refl _ w).alloc (Nat.le_refl _) _).alloc (by simp) _).mono hb0.size);have hrun:=run_enterLoop_outer (P:=P) (w:=w) fn a.tmps ps assign body
 change _=Result.ok _ ((w.alloc (.deferred (some []))).alloc (.loop (rc .ready none)))at hrun
 generalize((w.alloc (.deferred (some []))).alloc (.loop (rc .ready none)))=W1 at hsz1 hm1 hi1 hb1 hrun
 refine⟨w.heap.size+1,[{ target:=.collected w.heap.size,args:=#[] }],W1,{ target:=.fn (.func gf) lb,args:=#[.func (.yield (w.heap.size+1)) #[] #[]] },W1,gf,
  #[.func (.yield (w.heap.size + 1)) #[] #[]] ++ lb, W1, hrun, ?_, ?_, ?_, fun _ => h1, ?_⟩
 · simp only[resolve,hg]
   simp[go_sem]
 ·intro f' hf';simp[Target.leads]at hf';subst hf';exact hFg
 ·simp[invoke,go_sem,eg]
 have hrow:∀{A:World} {row:Option Nat},(∀r,row=some r -> W1.heap.size <= r /\ ∃o:Obj,A.heap[r]?= some o /\ o.isWalk=true) -> (∀r,row=some r -> w.heap.size <= r /\ ∃o:Obj,A.heap[r]?= some o /\ o.isCells=false):=
  fun hr r e=>by obtain⟨hB,o,ho,hw⟩:=hr r e;exact⟨by omega,o,ho,Obj.not_cells_of_walk hw⟩
 refine(hseq (w.heap.size+1) (fun pre W=>I pre W /\ Marks w.heap.size (rc .ready none) W) (fun pre W=>∃c,Ix c pre W /\ Marks w.heap.size (rc .done (some c)) W) W1 hb1
  (fun s A B row hs hg' hr=>⟨hI s A B row hs.1 hg' (hrow hr),hs.2.grown hg' fun j e=>(hr j e).2⟩)
  (fun s A B row ⟨c,hc,hm⟩ hg' hr=>⟨c,hIx c s A B row hc hg' (hrow hr),hm.grown hg' fun j e=>(hr j e).2⟩) (fun pre A B hs hu=>⟨hUp pre A B hs.1 hu,hUm A B _ hu hs.2⟩) ?_ ⟨hi1,hm1⟩).mono ?_
 · rintro pre x W hnx ⟨hi,hm⟩
   refine⟨fn,_,assign,body,run_yield hm.loop (hps x),roundIn_of_wpIn hfn (wpIn_mono (hassign _ pre x W hnx hi) ?_)⟩;rintro e a' Wa hp
   cases e with
   | normal=>
    obtain⟨hka,hkpa,hMa⟩:=hp;have hma:=hm.keeps hka;refine⟨_,run_beginRound hma.loop rfl,?_⟩;have hmb:=hma.put (rc .busy none);have hkb:Kp W (Wa.putObj (w.heap.size+1) (.loop (rc .busy none))):=hKt hkpa (hKb _ _ _ _ (Nat.le_succ _) hma.loop rfl rfl);refine wpIn_mono (hbody _ pre x a' _ hnx ((hM x a').putObj _ hMa (Nat.le_succ _) hma.loop rfl)) ?_
    have leave:∀(jump:Option Code) (W3:World),KeepsFrom w.heap.size (Wa.putObj (w.heap.size+1) (.loop (rc .busy none))) W3 ->
      (Instr.endRound (w.heap.size+1) jump).run P W3=.ok (.bool jump.isNone) (W3.putObj (w.heap.size+1) (.loop (rc (if jump.isNone then .ready else .done) jump))) /\
      W3.heap[w.heap.size+1]?= some (.loop (rc .busy none)) /\ Marks w.heap.size (rc (if jump.isNone then .ready else .done) jump) (W3.putObj (w.heap.size+1) (.loop (rc (if jump.isNone then .ready else .done) jump))):=fun jump W3 hk3=>
     ⟨run_endRound (P:=P) jump (hmb.keeps hk3).loop,(hmb.keeps hk3).loop,(hmb.keeps hk3).put _⟩
    rintro e a3 W3 hp
    cases e with
    | normal=>
     obtain⟨hk3,hkp3,hi3⟩:=hp;obtain⟨hr,hl3,hm3⟩:=leave none W3 hk3;exact⟨_,_,hr,.inl ⟨rfl,⟨hI.putObj _ hi3 (Nat.le_succ _) hl3 rfl,hm3⟩,hKt (hKt hkb hkp3) (hKb _ _ _ _ (Nat.le_succ _) hl3 rfl rfl)⟩⟩
    | ret=>
     obtain⟨hk3,hi3⟩:=hp;obtain⟨hr,hl3,hm3⟩:=leave (some .ret) W3 hk3;exact⟨_,_,hr,.inr ⟨rfl,.ret,(hIx _).putObj _ hi3 (Nat.le_succ _) hl3 rfl,hm3⟩⟩
    | exit id=>
     obtain⟨hk3,hi3⟩:=hp;obtain⟨hr,hl3,hm3⟩:=leave (some (.exit id)) W3 hk3;exact⟨_,_,hr,.inr ⟨rfl,.exit id,(hIx _).putObj _ hi3 (Nat.le_succ _) hl3 rfl,hm3⟩⟩
    | goto t=>
     obtain⟨hk3,hi3⟩:=hp;obtain⟨hr,hl3,hm3⟩:=leave (some (.goto t)) W3 hk3;exact⟨_,_,hr,.inr ⟨rfl,.goto t,(hIx _).putObj _ hi3 (Nat.le_succ _) hl3 rfl,hm3⟩⟩
    | panic ch=>exact hp.elim
    | outgrown=>exact hp.elim
   | ret=>exact hp.elim
   | exit id=>exact hp.elim
   | goto t=>exact hp.elim
   | panic ch=>exact hp.elim
   | outgrown=>exact hp.elim
 · rintro e W2 ⟨⟨v,rfl⟩,(⟨xs,hS,hi,hm⟩|⟨pre,c,hi,hm⟩)⟩
   ·exact⟨none,_,run_endLoop (P:=P) hm.loop (by simp[rc]),hdone _ xs _ (Nat.le_refl _) hS (hI.putObj _ hi (Nat.le_succ _) hm.loop rfl) ((World.putObj_heap_other (by omega)).trans hm.dfr)⟩
   ·exact⟨some c,_,run_endLoop (P:=P) hm.loop (by simp[rc]),hstop _ c pre _ (Nat.le_refl _) ((hIx c).putObj _ hi (Nat.le_succ _) hm.loop rfl) ((World.putObj_heap_other (by omega)).trans hm.dfr)⟩
end
end
section
structure Ty where
 kind:Nat
 words:Int
 mask:Nat
def low (k:Nat):Int:=if k=3 then 1 else 0
def high (k:Nat):Int:=if k=1 then 64 else if k=3 then 16 else 0
def Ty.may (t:Ty):Prop:=1 <= t.kind /\ t.kind <= 4 /\ low t.kind <= t.words /\ t.words <= high t.kind /\ t.mask<2^t.words.toNat
instance (t:Ty):Decidable t.may:=by unfold Ty.may;infer_instance
theorem mask_bits {m n:Nat}(hm:m<2^64):m<2^n↔∀i,n <= i -> i<64 -> m/2^i%2=0:=by
 constructor
 · intro h i h1 _
   rw[Nat.div_eq_of_lt (Nat.lt_of_lt_of_le h (Nat.pow_le_pow_right (by omega) h1))]
 · intro h
   apply Classical.byContradiction
   intro hge;have h1:2^n <= m:=(by omega);obtain⟨i,hi,hb⟩:=Nat.exists_ge_and_testBit_of_ge_two_pow h1
   have hi64:i<64:=by
    apply Classical.byContradiction
    intro hn;have:=Nat.testBit_lt_two_pow (Nat.lt_of_lt_of_le hm (Nat.pow_le_pow_right (by omega) (show 64 <= i by omega)));rw[this]at hb
    cases hb
   have:=h i hi hi64;rw[Nat.testBit_eq_decide_div_mod_eq,this]at hb;simp at hb
theorem mask_shift {m n:Nat}:m/2^n=0↔m<2^n:=by
 rw[Nat.div_eq_zero_iff];have:=Nat.two_pow_pos n;omega
def Ty.slots (t:Ty)(n:Nat):Nat:=if t.kind=1 then t.words.toNat else if t.kind=3 then n*t.words.toNat else n
def Ty.err (t:Ty)(n:Int):Int:=if ¬t.may∨n<0∨t.kind=1 /\ n≠0 then 2 else if 4096<n then 5 else 0
def Ty.size (t:Ty)(n:Nat):Nat:=(t.slots n+2)/2
theorem size_least (k g:Nat)(h1:¬g*2<k+1)(h2:∀j,j<g -> j*2<k+1):g=(k+2)/2:=by
 by_cases h:g=0
 ·omega
 · have:=h2 (g-1) (by omega)
   omega
theorem slots_most {t:Ty}(ht:t.may){n:Nat}(hn:n <= 4096):t.slots n <= 65536:=by
 obtain⟨-,-,h1,h2,-⟩:=ht;unfold Ty.slots;unfold high at h2
 by_cases hk:t.kind=1
 · rw[if_pos hk]at h2 ⊢
   omega
 · rw[if_neg hk]at h2 ⊢
   by_cases h3:t.kind=3
   · rw[if_pos h3]at h2 ⊢
     have:n*t.words.toNat <= 4096*16:=Nat.mul_le_mul hn (by omega);omega
   · rw[if_neg h3]
     omega
def Ty.ref (t:Ty)(s:Nat):Bool:=if t.kind=2 then true else if t.kind=3 then t.mask.testBit (s%t.words.toNat)else if t.kind=1 then t.mask.testBit s else false
def Ty.refs (t:Ty)(n:Nat):List Nat:=(List.range (t.slots n)).filter t.ref
structure Hd where
 tag:Nat
 typ:Nat
 len:Nat
 size:Nat
def Hd.may (h:Hd):Prop:=1 <= h.size /\ h.size<16777216 /\ h.len<16777216 /\ (h.tag=1 /\ 1 <= h.typ /\ h.typ <= 4095∨(h.tag=2∨h.tag=3) /\ h.typ=0 /\ h.len=0)
instance (h:Hd):Decidable h.may:=by unfold Hd.may;infer_instance
def Hd.word (h:Hd):Nat:=h.tag+4*h.typ+65536*h.len+1099511627776*h.size
def hdOf (w:Nat):Hd:=⟨w%4,w/4%4096,w/65536%16777216,w/1099511627776⟩
def gapOf (w:Nat):Nat:=w/16384%4
theorem word_back (w:Nat):(hdOf w).word=w↔gapOf w=0:=by
 unfold hdOf Hd.word gapOf;simp only;omega
theorem hdOf_word (h:Hd)(h1:h.tag<4)(h2:h.typ<4096)(h3:h.len<16777216):hdOf h.word=h /\ gapOf h.word=0:=by
 obtain⟨a,b,c,d⟩:=h;unfold hdOf Hd.word gapOf;simp only at h1 h2 h3 ⊢;refine⟨?_,by omega⟩
 congr 1<;>omega
def decode (w:Nat):Option Hd:=if (hdOf w).may /\ gapOf w=0 then some (hdOf w)else none
theorem decode_word {h:Hd}(hm:h.may):decode h.word=some h:=by
 have h4:h.tag<4 /\ h.typ<4096:=by
  obtain⟨-,-,-,h|h⟩:=hm<;>omega
 obtain⟨h1,h2⟩:=hdOf_word h h4.1 h4.2 hm.2.2.1;unfold decode;rw[h1,if_pos ⟨hm,h2⟩]
theorem decode_some {w:Nat}{h:Hd}(hd:decode w=some h):h.may /\ h.word=w:=by
 unfold decode at hd
 split at hd
 · rename_i hc
   cases hd
   exact⟨hc.1,(word_back w).2 hc.2⟩
 ·cases hd
theorem word_u64 {h:Hd}(hm:h.may):h.word<18446744073709551616:=by
 have h4:h.tag<4 /\ h.typ<4096:=by
  obtain⟨-,-,-,h|h⟩:=hm<;>omega
 have:=hm.2.1;have:=hm.2.2.1;unfold Hd.word;omega
def getTy (l:List Ty)(id:Int):Option Ty:=if 1 <= id then l[(id-1).toNat]? else none
def fits (l:List Ty)(h:Hd):Prop:=h.may /\ (h.tag=1 -> ∃t,l[h.typ-1]?= some t /\ t.err h.len=0 /\ t.size h.len=h.size)
abbrev Ce:=Nat×Hd
def cellsFrom (l:List Ty)(w:List Nat):Nat -> Nat -> List Ce
 | 0,_=>[]
 | fuel+1,g=>match decode (w.getD (2*g) 0)with
  | none=>[]
  | some h=>if g<w.length/2 /\ h.size <= w.length/2-g /\ (h.tag=1 -> ∃t∈l[h.typ-1]?,t.err h.len=0 /\ t.size h.len=h.size)then(g,h)::cellsFrom l w fuel (g+h.size)else []
end
section
def stands (L:List Ty)(W:List Nat)(g:Nat)(h:Hd):Prop:=(∃v,W[2*g]?= some v /\ decode v=some h) /\ fits L h /\ g+h.size <= W.length/2
def Chain (L:List Ty)(W:List Nat):Nat -> List Ce -> Nat -> Prop
 | g,[],e=>g=e
 | g,c::cs,e=>c.1=g /\ stands L W g c.2 /\ Chain L W (g+c.2.size) cs e
theorem stands.pos {L:List Ty}{W:List Nat}{g:Nat}{h:Hd}(hs:stands L W g h):1 <= h.size:=hs.2.1.1.1
theorem Chain.le {L:List Ty}{W:List Nat}:∀{cs:List Ce} {g e:Nat},Chain L W g cs e -> g <= e
 | [],_,_,h=>Nat.le_of_eq h
 | _::_,_,_,h=>by have:=Chain.le h.2.2;omega
theorem Chain.append {L:List Ty}{W:List Nat}:∀{a b:List Ce} {g e:Nat},Chain L W g (a++b) e↔∃m,Chain L W g a m /\ Chain L W m b e
 | [],b,g,e=>⟨fun h=>⟨g,rfl,h⟩,fun⟨m,h1,h2⟩=>by cases h1;exact h2⟩
 | c::a,b,g,e=>by
  constructor
  · rintro⟨h1,h2,h3⟩
    obtain⟨m,h4,h5⟩:=Chain.append.1 h3;exact⟨m,⟨h1,h2,h4⟩,h5⟩
  · rintro⟨m,⟨h1,h2,h4⟩,h5⟩
    exact⟨h1,h2,Chain.append.2 ⟨m,h4,h5⟩⟩
theorem Chain.mem {L:List Ty}{W:List Nat}:∀{cs:List Ce} {g e:Nat},Chain L W g cs e -> ∀c∈cs,g <= c.1 /\ c.1+c.2.size <= e /\ stands L W c.1 c.2
 | d::cs,g,e,h,c,hc=>by
  rcases List.mem_cons.1 hc with rfl|hc
  · have:=h.2.2.le
    rw[h.1];exact⟨Nat.le_refl _,this,h.2.1⟩
  · have:=Chain.mem h.2.2 c hc
    exact⟨by omega,this.2⟩
theorem Chain.len {L:List Ty}{W:List Nat}:∀{cs:List Ce} {g e:Nat},Chain L W g cs e -> cs.length+g <= e
 | [],_,_,h=>by cases h;simp
 | c::cs,g,e,h=>by
  have:=Chain.len h.2.2;have:=h.2.1.pos;simp only[List.length_cons];omega
theorem Chain.congr {L:List Ty}{W W':List Nat}(hl:W'.length=W.length):∀{cs:List Ce} {g e:Nat},Chain L W g cs e -> (∀c∈cs,W'[2*c.1]?= W[2*c.1]?) -> Chain L W' g cs e
 | [],_,_,h,_=>h
 | c::cs,g,e,h,hw=>by
  refine⟨h.1,?_,Chain.congr hl h.2.2 fun c hc=>hw c (List.mem_cons_of_mem _ hc)⟩;obtain⟨h1,⟨⟨v,h2,h3⟩,h4,h5⟩,-⟩:=h;have:=hw c (List.mem_cons_self ..);rw[h1]at this;exact⟨⟨v,this.trans h2,h3⟩,h4,by rw[hl];exact h5⟩
theorem Chain.find {L:List Ty}{W:List Nat}:∀{cs:List Ce} {g e:Nat},Chain L W g cs e -> ∀x,g <= x -> x<e -> ∃a c b,cs=a++c::b /\ c.1 <= x /\ x<c.1+c.2.size /\ Chain L W g a c.1 /\ Chain L W (c.1+c.2.size) b e
 | [],_,_,h,x,h1,h2=>by cases h;omega
 | c::cs,g,e,h,x,h1,h2=>by
  by_cases hx:x<g+c.2.size
  ·refine⟨[],c,cs,rfl,by rw[h.1];exact h1,by rw[h.1];exact hx,h.1.symm,by rw[h.1];exact h.2.2⟩
  · obtain⟨a,d,b,rfl,h3,h4,h5,h6⟩:=Chain.find h.2.2 x (by omega) h2
    exact⟨c::a,d,b,rfl,h3,h4,⟨h.1,h.2.1,h5⟩,h6⟩
theorem Chain.split {L:List Ty}{W:List Nat}{a b:List Ce}{c:Ce}{g e:Nat}(h:Chain L W g (a++c::b) e):Chain L W g a c.1 /\ stands L W c.1 c.2 /\ Chain L W (c.1+c.2.size) b e:=by
 obtain⟨m,h1,h2,h3,h4⟩:=Chain.append.1 h;subst h2;exact⟨h1,h3,h4⟩
theorem Chain.join {L:List Ty}{W:List Nat}{a b:List Ce}{c:Ce}{g e:Nat}(h1:Chain L W g a c.1)(h2:stands L W c.1 c.2)(h3:Chain L W (c.1+c.2.size) b e):Chain L W g (a++c::b) e:=
 Chain.append.2 ⟨c.1,h1,rfl,h2,h3⟩
def gapHd (n:Nat):Hd:=⟨if n=1 then 2 else 3,0,0,n⟩
theorem gapHd_may {n:Nat}(h1:1 <= n)(h2:n<16777216):(gapHd n).may:=by
 refine⟨h1,h2,(by decide:(0:Nat)<16777216),.inr ⟨?_,rfl,rfl⟩⟩
 show(if n=1 then 2 else 3)=2∨(if n=1 then 2 else 3)=3
 split<;>simp
theorem gapHd_tag (n:Nat):(gapHd n).tag≠1:=by
 unfold gapHd;simp only
 split<;>omega
theorem gapHd_fits (L:List Ty){n:Nat}(h1:1 <= n)(h2:n<16777216):fits L (gapHd n):=⟨gapHd_may h1 h2,fun h=>absurd h (gapHd_tag n)⟩
def lay (W:List Nat)(g n:Nat):List Nat:=if n=0 then W else W.set (2*g) (gapHd n).word
def gapc (g n:Nat):List Ce:=if n=0 then []else [(g,gapHd n)]
theorem lay_len (W:List Nat)(g n:Nat):(lay W g n).length=W.length:=by unfold lay;split<;>simp
theorem lay_ne {W:List Nat}{g n j:Nat}(h:n=0∨j≠2*g):(lay W g n)[j]?= W[j]? :=by
 unfold lay
 split
 ·rfl
 ·rw[List.getElem?_set_ne (by omega)]
theorem lay_stands (L:List Ty){W:List Nat}{g n:Nat}(h1:1 <= n)(h2:g+n <= W.length/2)(h3:W.length<16777216):stands L (lay W g n) g (gapHd n):=by
 have hn:n<16777216:=by omega
 refine⟨⟨(gapHd n).word,?_,decode_word (gapHd_may h1 hn)⟩,gapHd_fits L h1 hn,by rw[lay_len];exact h2⟩;unfold lay;rw[if_neg (by omega),List.getElem?_set_self (by omega)]
theorem lay_chain (L:List Ty){W:List Nat}{g n:Nat}(h2:g+n <= W.length/2)(h3:W.length<16777216):Chain L (lay W g n) g (gapc g n) (g+n):=by
 unfold gapc
 by_cases h:n=0
 · rw[if_pos h]
   show g=g+n
   omega
 · rw[if_neg h]
   exact⟨rfl,lay_stands L (by omega) h2 h3,rfl⟩
theorem lay_u64 {W:List Nat}(hW:∀v∈W,v<18446744073709551616){g n:Nat}(hn:n<16777216):∀v∈lay W g n,v<18446744073709551616:=by
 unfold lay
 split
 ·exact hW
 · intro v hv
   rcases List.mem_or_eq_of_mem_set hv with h|h
   ·exact hW v h
   · rw[h]
     exact word_u64 (gapHd_may (by omega) hn)
def zeros (W:List Nat)(i:Nat):Nat -> List Nat
 | 0=>W
 | k+1=>(zeros W i k).set (i+k) 0
theorem zeros_len (W:List Nat)(i:Nat):∀k,(zeros W i k).length=W.length
 | 0=>rfl
 | k+1=>by rw[zeros,List.length_set,zeros_len W i k]
theorem zeros_ne (W:List Nat)(i:Nat):∀k j,(j<i∨i+k <= j) -> (zeros W i k)[j]?= W[j]?
 | 0,_,_=>rfl
 | k+1,j,h=>by rw[zeros,List.getElem?_set_ne (by omega),zeros_ne W i k j (by omega)]
theorem zeros_u64 {W:List Nat}(hW:∀v∈W,v<18446744073709551616)(i:Nat):∀k,∀v∈zeros W i k,v<18446744073709551616
 | 0=>hW
 | k+1=>by
  intro v hv;rcases List.mem_or_eq_of_mem_set hv with h|h
  ·exact zeros_u64 hW i k v h
  ·omega
def mk (W:List Nat)(g:Nat)(h:Hd):List Nat:=(zeros W (2*g) (2*h.size)).set (2*g) h.word
theorem mk_len (W:List Nat)(g:Nat)(h:Hd):(mk W g h).length=W.length:=by unfold mk;rw[List.length_set,zeros_len]
theorem mk_ne {W:List Nat}{g j:Nat}{h:Hd}(h1:1 <= h.size)(hj:j<2*g∨2*(g+h.size) <= j):(mk W g h)[j]?= W[j]? :=by
 unfold mk;rw[List.getElem?_set_ne (by omega),zeros_ne _ _ _ _ (by omega)]
theorem mk_stands {L:List Ty}{W:List Nat}{g:Nat}{h:Hd}(hf:fits L h)(h2:g+h.size <= W.length/2):stands L (mk W g h) g h:=by
 have h1:=hf.1.1;refine⟨⟨h.word,?_,decode_word hf.1⟩,hf,by rw[mk_len];exact h2⟩;unfold mk;rw[List.getElem?_set_self (by rw[zeros_len];omega)]
theorem mk_u64 {W:List Nat}(hW:∀v∈W,v<18446744073709551616){g:Nat}{h:Hd}(hm:h.may):∀v∈mk W g h,v<18446744073709551616:=by
 intro v hv;rcases List.mem_or_eq_of_mem_set hv with h|h
 ·exact zeros_u64 hW _ _ v h
 · rw[h]
   exact word_u64 hm
def putW (W:List Nat)(c:Ce)(g:Nat)(h:Hd):List Nat:=lay (lay (mk W g h) c.1 (g-c.1)) (g+h.size) (c.1+c.2.size-g-h.size)
def putC (c:Ce)(g:Nat)(h:Hd):List Ce:=gapc c.1 (g-c.1)++(g,h)::gapc (g+h.size) (c.1+c.2.size-g-h.size)
theorem putW_len (W:List Nat)(c:Ce)(g:Nat)(h:Hd):(putW W c g h).length=W.length:=by unfold putW;rw[lay_len,lay_len,mk_len]
theorem putW_ne {W:List Nat}{c:Ce}{g j:Nat}{h:Hd}(h1:1 <= h.size)(hc:c.1 <= g)(hr:g+h.size <= c.1+c.2.size)(hj:j<2*c.1∨2*(c.1+c.2.size) <= j):(putW W c g h)[j]?= W[j]? :=by
 unfold putW;rw[lay_ne (by omega),lay_ne (by omega),mk_ne h1 (by omega)]
theorem put_chain {L:List Ty}{W:List Nat}{a b:List Ce}{c:Ce}{g e:Nat}{h:Hd}(hC:Chain L W 0 (a++c::b) e)(he:e <= W.length/2)(hW:W.length<16777216)(hf:fits L h)(hc:c.1 <= g)(hr:g+h.size <= c.1+c.2.size):
  Chain L (putW W c g h) 0 (a++putC c g h++b) e:=by
 obtain⟨h1,h2,h3⟩:=hC.split;have hp:=hf.1.1;have hroom:=h3.le
 have ha:Chain L (putW W c g h) 0 a c.1:=h1.congr (putW_len ..) fun d hd=>by
  have h4:=h1.mem d hd;have:=h4.2.2.pos;exact putW_ne hp hc hr (by omega)
 have hb:Chain L (putW W c g h) (c.1+c.2.size) b e:=h3.congr (putW_len ..) fun d hd=>by
  have h4:=h3.mem d hd;exact putW_ne hp hc hr (by omega)
 have hg1:Chain L (putW W c g h) c.1 (gapc c.1 (g-c.1)) g:=by
  have h4:=lay_chain L (W:=mk W g h) (g:=c.1) (n:=g-c.1) (by rw[mk_len];omega) (by rw[mk_len];exact hW);rw[show c.1+(g-c.1)=g by omega]at h4;refine h4.congr (by rw[putW_len,lay_len,mk_len]) fun d hd=>?_;have h5:=h4.mem d hd;have:=h5.2.2.pos;unfold putW;rw[lay_ne (by omega)]
 have hg2:Chain L (putW W c g h) (g+h.size) (gapc (g+h.size) (c.1+c.2.size-g-h.size)) (c.1+c.2.size):=by
  have h4:=lay_chain L (W:=lay (mk W g h) c.1 (g-c.1)) (g:=g+h.size) (n:=c.1+c.2.size-g-h.size) (by rw[lay_len,mk_len];omega) (by rw[lay_len,mk_len];exact hW);rw[show g+h.size+(c.1+c.2.size-g-h.size)=c.1+c.2.size by omega]at h4;exact h4
 have ho:stands L (putW W c g h) g h:=by
  obtain⟨⟨v,h4,h5⟩,h6,h7⟩:=mk_stands (L:=L) (W:=W) (g:=g) hf (by omega);refine⟨⟨v,?_,h5⟩,h6,by rw[putW_len];rw[mk_len]at h7;exact h7⟩;unfold putW;rw[lay_ne (by omega),lay_ne (by omega),h4]
 exact Chain.append.2 ⟨_,Chain.append.2 ⟨_,ha,Chain.join hg1 ho hg2⟩,hb⟩
theorem drop_chain {L:List Ty}{W:List Nat}{a b:List Ce}{frm till e:Nat}{ms:List Ce}(ha:Chain L W 0 a frm)(hm:Chain L W frm ms till)(hne:ms≠[])(hb:Chain L W till b e)(he:e <= W.length/2)(hW:W.length<16777216):
  Chain L (lay W frm (till-frm)) 0 (a++(frm,gapHd (till-frm))::b) e:=by
 have hlt:frm<till:=by
  cases ms with
  | nil=>exact absurd rfl hne
  | cons c ms=>
   have:=hm.2.1.pos;have:=hm.2.2.le;omega
 have h2:=hb.le;refine Chain.join (c:=(frm,gapHd (till-frm))) ?_ (lay_stands L (by omega) (by omega) hW) ?_
 · refine ha.congr (lay_len ..) fun d hd=>?_
   have h4:=ha.mem d hd;have:=h4.2.2.pos;exact lay_ne (by omega)
 · show Chain L _ (frm+(till-frm)) b e
   rw[show frm+(till-frm)=till by omega];refine hb.congr (lay_len ..) fun d hd=>?_;have h4:=hb.mem d hd;exact lay_ne (by omega)
theorem slot_chain {L:List Ty}{W:List Nat}{cs:List Ce}{c:Ce}{e:Nat}(hC:Chain L W 0 cs e)(hc:c∈cs){j v:Nat}(h1:2*c.1<j)(h2:j<2*(c.1+c.2.size)):Chain L (W.set j v) 0 cs e:=by
 refine hC.congr (by simp) fun d hd=>?_;rw[List.getElem?_set_ne];intro hj;obtain⟨a,b,rfl⟩:=List.append_of_mem hc;obtain⟨h3,h4,h5⟩:=hC.split;rcases List.mem_append.1 hd with h|h
 · have h6:=h3.mem d h
   have:=h6.2.2.pos;omega
 · rcases List.mem_cons.1 h with rfl|h
   ·omega
   · have h6:=h5.mem d h
     omega
def objAt (L:List Ty)(W:List Nat)(g:Int)(h:Hd):Prop:=0 <= g /\ stands L W g.toNat h /\ h.tag=1
end
section
def rises (L:List Ty)(W:List Nat):Nat -> List Ce -> Prop
 | _,[]=>True
 | e,c::cs=>e <= c.1 /\ stands L W c.1 c.2 /\ c.2.tag=1 /\ rises L W (c.1+c.2.size) cs
def settleW (n:Nat):List Nat -> List Ce -> Nat -> List Nat
 | W,[],e=>lay W e (n-e)
 | W,c::cs,e=>settleW n (lay W e (c.1-e)) cs (c.1+c.2.size)
def settleC (n:Nat):List Ce -> Nat -> List Ce
 | [],e=>gapc e (n-e)
 | c::cs,e=>gapc e (c.1-e)++c::settleC n cs (c.1+c.2.size)
theorem settleW_len (n:Nat):∀(cs:List Ce) (W:List Nat) (e:Nat),(settleW n W cs e).length=W.length
 | [],W,e=>lay_len ..
 | c::cs,W,e=>by rw[settleW,settleW_len n cs,lay_len]
theorem settleW_ne {L:List Ty}(n:Nat):∀(cs:List Ce) (W:List Nat) (e j:Nat),rises L W e cs -> j<2*e -> (settleW n W cs e)[j]?= W[j]?
 | [],W,e,j,_,hj=>lay_ne (by omega)
 | c::cs,W,e,j,h,hj=>by
  have hr:∀(cs:List Ce) (E:Nat),e<E∨c.1-e=0 -> rises L W E cs -> rises L (lay W e (c.1-e)) E cs:=by
   intro cs
   induction cs with
   | nil=>intro _ _ _;trivial
   | cons d cs ih=>
    intro E hE hd;obtain⟨h1,⟨⟨v,h2,h3⟩,h4,h5⟩,h6,h7⟩:=hd;refine⟨h1,⟨⟨v,?_,h3⟩,h4,by rw[lay_len];exact h5⟩,h6,ih _ (by have:=h4.1.1;omega) h7⟩;rw[lay_ne (by omega),h2]
  have hp:=h.2.1.pos;rw[settleW,settleW_ne n cs _ _ j (hr _ _ (by have:=h.1;omega) h.2.2.2) (by have:=h.1;omega),lay_ne (by omega)]
theorem rises.lay {L:List Ty}{W:List Nat}{x k:Nat}:∀{cs:List Ce} {e:Nat},(x<e∨k=0) -> rises L W e cs -> rises L (lay W x k) e cs
 | [],_,_,_=>trivial
 | d::cs,E,hE,hd=>by
  obtain⟨h1,⟨⟨v,h2,h3⟩,h4,h5⟩,h6,h7⟩:=hd;refine⟨h1,⟨⟨v,?_,h3⟩,h4,by rw[lay_len];exact h5⟩,h6,rises.lay (by have:=h4.1.1;omega) h7⟩;rw[lay_ne (by omega),h2]
theorem settle_chain {L:List Ty}{n:Nat}:∀(cs:List Ce) (W:List Nat) (e:Nat),n=W.length/2 -> W.length<16777216 -> e <= n -> rises L W e cs -> Chain L (settleW n W cs e) e (settleC n cs e) n
 | [],W,e,hn,hW,he,_=>by
  have:=lay_chain L (W:=W) (g:=e) (n:=n-e) (by omega) hW;rw[show e+(n-e)=n by omega]at this;exact this
 | c::cs,W,e,hn,hW,he,h=>by
  obtain⟨h1,hs,h3,h4⟩:=h;have hp:=hs.pos;have hroom:=hs.2.2;have hr:rises L (lay W e (c.1-e)) (c.1+c.2.size) cs:=h4.lay (by omega);have hih:=settle_chain (n:=n) cs (lay W e (c.1-e)) (c.1+c.2.size) (by rw[lay_len];exact hn) (by rw[lay_len];exact hW) (by omega) hr;have hne:∀j,j<2*(c.1+c.2.size) -> (settleW n (lay W e (c.1-e)) cs (c.1+c.2.size))[j]?= (lay W e (c.1-e))[j]? :=fun j hj=>settleW_ne n cs _ _ j hr hj;rw[settleW,settleC];refine Chain.join ?_ ?_ hih
  · have h5:=lay_chain L (W:=W) (g:=e) (n:=c.1-e) (by omega) hW
    rw[show e+(c.1-e)=c.1 by omega]at h5;refine h5.congr (settleW_len ..) fun d hd=>?_;have h6:=h5.mem d hd;have:=h6.2.2.pos;exact hne _ (by omega)
  · obtain⟨⟨v,h5,h6⟩,h7,h8⟩:=hs
    refine⟨⟨v,?_,h6⟩,h7,by rw[settleW_len,lay_len];exact h8⟩;rw[hne _ (by omega),lay_ne (by omega),h5]
theorem settle_u64 {L:List Ty}{n:Nat}(hn:n<16777216):∀(cs:List Ce) (W:List Nat) (e:Nat),(∀c∈cs,c.1 <= n) -> (∀v∈W,v<18446744073709551616) -> ∀v∈settleW n W cs e,v<18446744073709551616
 | [],W,e,_,hW=>lay_u64 hW (by omega)
 | c::cs,W,e,hc,hW=>settle_u64 (L:=L) hn cs _ _ (fun d hd=>hc d (List.mem_cons_of_mem _ hd)) (lay_u64 hW (by have:=hc c (List.mem_cons_self ..);omega))
def isObj (c:Ce):Bool:=c.2.tag == 1
def objs (cs:List Ce):List Ce:=cs.filter isObj
@[simp] theorem isObj_iff {c : Ce} : isObj c = true ↔ c.2.tag = 1 := by simp [isObj]
theorem objs_append (a b:List Ce):objs (a++b)=objs a++objs b:=List.filter_append ..
theorem objs_gapc (g n:Nat):objs (gapc g n)=[]:=by
 unfold gapc
 split
 ·rfl
 · have:=gapHd_tag n
   unfold objs isObj;rw[List.filter_cons_of_neg (by simpa using this)]
   rfl
theorem objs_settleC (n:Nat):∀(cs:List Ce) (e:Nat),(∀c∈cs,c.2.tag=1) -> objs (settleC n cs e)=cs
 | [],e,_=>objs_gapc ..
 | c::cs,e,h=>by
  rw[settleC,objs_append,objs_gapc,List.nil_append];unfold objs;rw[List.filter_cons_of_pos (by rw[isObj_iff];exact h c (List.mem_cons_self ..))];exact congrArg _ (objs_settleC n cs _ fun d hd=>h d (List.mem_cons_of_mem _ hd))
theorem objs_put {a b:List Ce}{c:Ce}{g:Nat}{h:Hd}(hh:h.tag=1):objs (a++putC c g h++b)=objs a++(g,h)::objs b:=by
 unfold putC;rw[objs_append,objs_append,objs_append,objs_gapc,List.nil_append]
 have:objs ((g,h)::gapc (g+h.size) (c.1+c.2.size-g-h.size))=[(g,h)]:=by
  unfold objs;rw[List.filter_cons_of_pos (by rw[isObj_iff];exact hh)];exact congrArg _ (objs_gapc ..)
 rw[this,List.append_assoc]
 rfl
structure Good (L:List Ty)(W:List Nat)(cs:List Ce):Prop where
 types:∀t∈L,t.may
 few:L.length <= 64
 small:W.length <= 600
 least:16 <= W.length
 even:W.length%2=0
 u64:∀v∈W,v<18446744073709551616
 chain:Chain L W 0 cs (W.length/2)
theorem Good.new {L:List Ty}{n:Nat}(h1:∀t∈L,t.may)(h2:L.length <= 64)(h3:n <= 600)(h4:16 <= n)(h5:n%2=0):Good L (lay (List.replicate n 0) 0 (n/2)) [(0,gapHd (n/2))]:=by
 have hl:(lay (List.replicate n 0) 0 (n/2)).length=n:=by rw[lay_len,List.length_replicate]
 refine⟨h1,h2,by rw[hl];exact h3,by rw[hl];exact h4,by rw[hl];exact h5,lay_u64 (fun v hv=>by rw[List.eq_of_mem_replicate hv];omega) (by omega),?_⟩;have:=lay_chain L (W:=List.replicate n 0) (g:=0) (n:=n/2) (by rw[List.length_replicate];omega) (by rw[List.length_replicate];omega);unfold gapc at this;rw[if_neg (by omega),Nat.zero_add]at this;rw[hl];exact this
theorem Good.put {L:List Ty}{W:List Nat}{a b:List Ce}{c:Ce}(h:Good L W (a++c::b)){g:Nat}{hd:Hd}(hf:fits L hd)(hc:c.1 <= g)(hr:g+hd.size <= c.1+c.2.size):Good L (putW W c g hd) (a++putC c g hd++b):=by
 have hs:=h.small;have h3:=(h.chain.split).2.2.le;refine⟨h.types,h.few,by rw[putW_len];exact hs,by rw[putW_len];exact h.least,by rw[putW_len];exact h.even,?_,?_⟩
 ·exact lay_u64 (lay_u64 (mk_u64 h.u64 hf.1) (by omega)) (by omega)
 · rw[putW_len]
   exact put_chain h.chain (Nat.le_refl _) (by omega) hf hc hr
theorem Good.drop {L:List Ty}{W:List Nat}{a ms b:List Ce}(h:Good L W (a++(ms++b)))(hne:ms≠[]){frm till:Nat}(hm:Chain L W 0 a frm /\ Chain L W frm ms till):Good L (lay W frm (till-frm)) (a++(frm,gapHd (till-frm))::b):=by
 have hs:=h.small;obtain⟨m,h1,h2⟩:=Chain.append.1 h.chain;obtain⟨m',h3,h4⟩:=Chain.append.1 h2
 have hmm:frm=m /\ till=m':=by
  have hu:∀{cs:List Ce} {g e e':Nat},Chain L W g cs e -> Chain L W g cs e' -> e=e':=by
   intro cs
   induction cs with
   | nil=>intro g e e' h h';exact h.symm.trans h'
   | cons c cs ih=>intro g e e' h h';exact ih h.2.2 h'.2.2
  have e1:=hu hm.1 h1;subst e1;exact⟨rfl,hu hm.2 h3⟩
 obtain⟨rfl,rfl⟩:=hmm;have:=h4.le;refine⟨h.types,h.few,by rw[lay_len];exact hs,by rw[lay_len];exact h.least,by rw[lay_len];exact h.even,lay_u64 h.u64 (by omega),?_⟩;rw[lay_len];exact drop_chain hm.1 hm.2 hne h4 (Nat.le_refl _) (by omega)
theorem Good.slot {L:List Ty}{W:List Nat}{cs:List Ce}(h:Good L W cs){c:Ce}(hc:c∈cs){j v:Nat}(h1:2*c.1<j)(h2:j<2*(c.1+c.2.size))(hv:v<18446744073709551616):Good L (W.set j v) cs:=by
 have hl:(W.set j v).length=W.length:=by simp
 refine⟨h.types,h.few,by rw[hl];exact h.small,by rw[hl];exact h.least,by rw[hl];exact h.even,fun x hx=>?_,?_⟩
 · rcases List.mem_or_eq_of_mem_set hx with h3|h3
   ·exact h.u64 x h3
   ·rw[h3];exact hv
 · rw[hl]
   exact slot_chain h.chain hc h1 h2
theorem Good.settle {L:List Ty}{W:List Nat}{cs:List Ce}(h:Good L W cs){os:List Ce}(hr:rises L W 0 os):Good L (settleW (W.length/2) W os 0) (settleC (W.length/2) os 0):=by
 have hs:=h.small
 have hin:∀(os:List Ce) (e:Nat),rises L W e os -> ∀c∈os,c.1 <= W.length/2:=by
  intro os
  induction os with
  | nil=>intro e _ c hc;cases hc
  | cons d os ih=>
   intro e hr c hc;rcases List.mem_cons.1 hc with rfl|hc
   · have:=hr.2.1.2.2
     omega
   ·exact ih _ hr.2.2.2 c hc
 refine⟨h.types,h.few,by rw[settleW_len];exact hs,by rw[settleW_len];exact h.least,by rw[settleW_len];exact h.even,settle_u64 (L:=L) (by omega) os W 0 (hin os 0 hr) h.u64,?_⟩;rw[settleW_len];exact settle_chain os W 0 rfl (by omega) (Nat.zero_le _) hr
end
section
def sumBy (f:Ce -> Nat)(l:List Ce):Nat:=(l.map f).sum
@[simp] theorem sumBy_nil (f : Ce -> Nat) : sumBy f [] = 0 := rfl
@[simp] theorem sumBy_cons (f : Ce -> Nat) (c : Ce) (l : List Ce) : sumBy f (c :: l) = f c + sumBy f l := rfl
@[simp] theorem sumBy_append (f : Ce -> Nat) (a b : List Ce) : sumBy f (a ++ b) = sumBy f a + sumBy f b := by simp [sumBy]
def cSize (c:Ce):Nat:=c.2.size
def cSlots (L:List Ty)(c:Ce):Nat:=match L[c.2.typ-1]? with|some t=>t.slots c.2.len|none=>0
def cRefs (L:List Ty)(c:Ce):List Nat:=match L[c.2.typ-1]? with|some t=>t.refs c.2.len|none=>[]
def nil0 (W:List Nat)(c:Ce)(s:Nat):Bool:=W.getD (2*c.1+1+s) 0 == 0
def cNils (L:List Ty)(W:List Nat)(c:Ce):Nat:=(cRefs L c).countP (nil0 W c)
structure Kp where
 objects:Nat
 granules:Nat
 slots:Nat
 refs:Nat
 nils:Nat
def ofType (O:List Ce)(k:Nat):List Ce:=O.filter fun c=>c.2.typ == k
def keptOf (L:List Ty)(W:List Nat)(O:List Ce):Kp:=⟨O.length,sumBy cSize O,sumBy (cSlots L) O,sumBy (fun c=>(cRefs L c).length) O,sumBy (cNils L W) O⟩
def gaps (cs:List Ce):List Ce:=cs.filter fun c=> !isObj c
def freeOf (cs:List Ce):Nat:=sumBy cSize (gaps cs)
def bigOf:List Ce -> Nat
 | []=>0
 | c::cs=>max c.2.size (bigOf cs)
def brokenOf (free big:Nat):Nat:=if free=0 then 0 else 1000*(free-big)/free
def clsAdd:List Nat -> Nat -> List Nat
 | [],0=>[1]
 | [],k+1=>0::clsAdd [] k
 | x::l,0=>(x+1)::l
 | x::l,k+1=>x::clsAdd l k
def clsOf (sizes:List Nat):List Nat:=sizes.foldl (fun out n=>clsAdd out n.log2) []
def wsum:List Nat -> Nat
 | []=>0
 | x::l=>x+2*wsum l
end
section
theorem objs_mem {cs:List Ce}{c:Ce}(h:c∈objs cs):c∈cs /\ c.2.tag=1:=by
 unfold objs at h;exact⟨(List.mem_filter.1 h).1,isObj_iff.1 (List.mem_filter.1 h).2⟩
theorem lastObj:∀(a:List Ce),∃a0 ga,a=a0++ga /\ (∀c∈ga,c.2.tag≠1) /\ (a0=[]∨∃a1 d,a0=a1++[d] /\ d.2.tag=1)
 | []=>⟨[],[],rfl,(fun _ h=>by cases h),.inl rfl⟩
 | c::a=>by
  obtain⟨a0,ga,h1,h2,h3⟩:=lastObj a;rcases h3 with h3|⟨a1,d,h3,h4⟩
  · subst h3
    by_cases hc:c.2.tag=1
    ·exact⟨[c],ga,by rw[h1];rfl,h2,.inr ⟨[],c,rfl,hc⟩⟩
    · refine⟨[],c::ga,by rw[h1];rfl,fun d hd=>?_,.inl rfl⟩
      rcases List.mem_cons.1 hd with rfl|hd
      ·exact hc
      ·exact h2 d hd
  ·exact⟨c::a0,ga,by rw[h1];rfl,h2,.inr ⟨c::a1,d,by rw[h3];rfl,h4⟩⟩
theorem firstObj:∀(b:List Ce),∃gb b0,b=gb++b0 /\ (∀c∈gb,c.2.tag≠1) /\ (b0=[]∨∃d b1,b0=d::b1 /\ d.2.tag=1)
 | []=>⟨[],[],rfl,(fun _ h=>by cases h),.inl rfl⟩
 | c::b=>by
  by_cases hc:c.2.tag=1
  ·exact⟨[],c::b,rfl,(fun _ h=>by cases h),.inr ⟨c,b,rfl,hc⟩⟩
  · obtain⟨gb,b0,h1,h2,h3⟩:=firstObj b
    refine⟨c::gb,b0,by rw[h1];rfl,fun d hd=>?_,h3⟩;rcases List.mem_cons.1 hd with rfl|hd
    ·exact hc
    ·exact h2 d hd
theorem objs_none {l:List Ce}(h:∀c∈l,c.2.tag≠1):objs l=[]:=by
 unfold objs;rw[List.filter_eq_nil_iff];intro c hc;rw[isObj_iff];exact h c hc
end
section
open Go
def bitAt (B:List Nat)(i:Nat):Bool:=(B.getD (i/64) 0).testBit (i%64)
def u64ok (B:List Nat):Prop:=∀v∈B,v<18446744073709551616
def pmask (k b:Nat):Nat:=(2^k-1)*2^b
theorem pmask_bit (k b j:Nat):(pmask k b).testBit j=(decide (b <= j) && decide (j<b+k)):=by
 unfold pmask;rw[Nat.testBit_mul_two_pow,Nat.testBit_two_pow_sub_one]
 by_cases h:b <= j
 ·simp[h];omega
 ·simp[h]
theorem pmask_lt {k b:Nat}(h:k+b <= 64):pmask k b<18446744073709551616:=by
 unfold pmask;have h1:(2:Nat)^k*2^b <= 2^64:=by rw[←Nat.pow_add];exact Nat.pow_le_pow_right (by omega) h
 have h2:0<(2:Nat)^k:=Nat.two_pow_pos k;have h3:0<(2:Nat)^b:=Nat.two_pow_pos b
 have h4:(2^k-1)*2^b+2^b=2^k*2^b:=by
  rw[←Nat.succ_mul]
  congr 1
  omega
 have h5:(2:Nat)^64=18446744073709551616:=by decide
 omega
def clr (a m:Nat):Nat:=(BitVec.ofNat 64 a &&& ~~~ BitVec.ofNat 64 m).toNat
theorem clr_lt (a m:Nat):clr a m<18446744073709551616:=(BitVec.ofNat 64 a &&& ~~~ BitVec.ofNat 64 m).isLt
theorem clr_bit {a m:Nat}(ha:a<18446744073709551616)(j:Nat):(clr a m).testBit j=(a.testBit j && !(m.testBit j)):=by
 unfold clr
 by_cases hj:j<64
 · show(BitVec.ofNat 64 a &&& ~~~ BitVec.ofNat 64 m).getLsbD j=_
   rw[BitVec.getLsbD_and,BitVec.getLsbD_not,BitVec.getLsbD_ofNat,BitVec.getLsbD_ofNat];simp[hj]
 · have h1:(BitVec.ofNat 64 a &&& ~~~ BitVec.ofNat 64 m).toNat.testBit j=false:=Nat.testBit_lt_two_pow (Nat.lt_of_lt_of_le (BitVec.isLt _) (Nat.pow_le_pow_right (by omega) (by omega)))
   have h2:a.testBit j=false:=Nat.testBit_lt_two_pow (Nat.lt_of_lt_of_le ha (by rw[show(18446744073709551616:Nat)=2^64 by decide];exact Nat.pow_le_pow_right (by omega) (by omega)));rw[h1,h2];rfl
theorem or_lt {a m:Nat}(ha:a<18446744073709551616)(hm:m<18446744073709551616):a ||| m<18446744073709551616:=Nat.or_lt_two_pow (n:=64) ha hm
def orAt (B:List Nat)(i k:Nat):List Nat:=B.set (i/64) (B.getD (i/64) 0 ||| pmask k (i%64))
def clrAt (B:List Nat)(i k:Nat):List Nat:=B.set (i/64) (clr (B.getD (i/64) 0) (pmask k (i%64)))
@[simp] theorem orAt_len (B : List Nat) (i k : Nat) : (orAt B i k).length = B.length := by simp [orAt]
@[simp] theorem clrAt_len (B : List Nat) (i k : Nat) : (clrAt B i k).length = B.length := by simp [clrAt]
theorem getD_u64 {B:List Nat}(h:u64ok B)(i:Nat):B.getD i 0<18446744073709551616:=by
 rw[List.getD_eq_getElem?_getD]
 cases hb:B[i]? with
 | none=>decide
 | some v=>exact h v (List.mem_of_getElem? hb)
theorem orAt_u64 {B:List Nat}(h:u64ok B){i k:Nat}(hk:k+i%64 <= 64):u64ok (orAt B i k):=fun v hv=>by
 rcases List.mem_or_eq_of_mem_set hv with h1|h1
 ·exact h v h1
 ·rw[h1];exact or_lt (getD_u64 h _) (pmask_lt hk)
theorem clrAt_u64 {B:List Nat}(h:u64ok B){i k:Nat}:u64ok (clrAt B i k):=fun v hv=>by
 rcases List.mem_or_eq_of_mem_set hv with h1|h1
 ·exact h v h1
 ·rw[h1];exact clr_lt _ _
theorem in_piece {i k j:Nat}(hk:k+i%64 <= 64):(j/64=i/64 /\ i%64 <= j%64 /\ j%64<i%64+k)↔i <= j /\ j<i+k:=by omega
theorem orAt_bit {B:List Nat}{i k:Nat}(hk:k+i%64 <= 64)(hi:i/64<B.length)(j:Nat):bitAt (orAt B i k) j=(bitAt B j || (decide (i <= j) && decide (j<i+k))):=by
 have hp:=in_piece (j:=j) hk;unfold bitAt orAt;rw[List.getD_eq_getElem?_getD,List.getElem?_set]
 by_cases hw:i/64=j/64
 · rw[if_pos hw,if_pos hi,Option.getD_some,Nat.testBit_or,pmask_bit,hw]
   congr 1
   rw[Bool.eq_iff_iff];simp only[Bool.and_eq_true,decide_eq_true_eq];omega
 · rw[if_neg hw,←List.getD_eq_getElem?_getD]
   have:(decide (i <= j) && decide (j<i+k))=false:=by
    rw[Bool.and_eq_false_iff,decide_eq_false_iff_not,decide_eq_false_iff_not];omega
   rw[this,Bool.or_false]
theorem clrAt_bit {B:List Nat}(hB:u64ok B){i k:Nat}(hk:k+i%64 <= 64)(hi:i/64<B.length)(j:Nat):bitAt (clrAt B i k) j=(bitAt B j && !(decide (i <= j) && decide (j<i+k))):=by
 have hp:=in_piece (j:=j) hk;unfold bitAt clrAt;rw[List.getD_eq_getElem?_getD,List.getElem?_set]
 by_cases hw:i/64=j/64
 · rw[if_pos hw,if_pos hi,Option.getD_some,clr_bit (getD_u64 hB _),pmask_bit,hw]
   congr 2
   rw[Bool.eq_iff_iff];simp only[Bool.and_eq_true,decide_eq_true_eq];omega
 · rw[if_neg hw,←List.getD_eq_getElem?_getD]
   have:(decide (i <= j) && decide (j<i+k))=false:=by
    rw[Bool.and_eq_false_iff,decide_eq_false_iff_not,decide_eq_false_iff_not];omega
   rw[this,Bool.not_false,Bool.and_true]
def pk (i n:Nat):Nat:=min n (64-i%64)
theorem pk_le (i n:Nat):pk i n+i%64 <= 64:=by unfold pk;omega
theorem pk_n (i n:Nat):pk i n <= n:=Nat.min_le_left ..
theorem pk_pos {i n:Nat}(h:0<n):0<pk i n:=by unfold pk;omega
def SetIn (B B':List Nat)(i n:Nat):Prop:=B'.length=B.length /\ u64ok B' /\ ∀j,bitAt B' j=(bitAt B j || (decide (i <= j) && decide (j<i+n)))
def ClrIn (B B':List Nat)(i n:Nat):Prop:=B'.length=B.length /\ u64ok B' /\ ∀j,bitAt B' j=(bitAt B j && !(decide (i <= j) && decide (j<i+n)))
theorem SetIn.refl {B:List Nat}(h:u64ok B)(i:Nat):SetIn B B i 0:=⟨rfl,h,fun j=>by
 have:(decide (i <= j) && decide (j<i+0))=false:=by rw[Bool.and_eq_false_iff,decide_eq_false_iff_not,decide_eq_false_iff_not];omega
 rw[this,Bool.or_false]⟩
theorem ClrIn.refl {B:List Nat}(h:u64ok B)(i:Nat):ClrIn B B i 0:=⟨rfl,h,fun j=>by
 have:(decide (i <= j) && decide (j<i+0))=false:=by rw[Bool.and_eq_false_iff,decide_eq_false_iff_not,decide_eq_false_iff_not];omega
 rw[this,Bool.not_false,Bool.and_true]⟩
theorem SetIn.step {B B':List Nat}{i n k:Nat}(h:SetIn B B' i n)(hk:k+(i+n)%64 <= 64)(hi:(i+n)/64<B.length):SetIn B (orAt B' (i+n) k) i (n+k):=by
 obtain⟨h1,h2,h3⟩:=h;refine⟨by rw[orAt_len,h1],orAt_u64 h2 hk,fun j=>?_⟩;rw[orAt_bit hk (by rw[h1];exact hi),h3,Bool.or_assoc]
 congr 1
 rw[Bool.eq_iff_iff];simp only[Bool.or_eq_true,Bool.and_eq_true,decide_eq_true_eq];omega
theorem ClrIn.step {B B':List Nat}{i n k:Nat}(h:ClrIn B B' i n)(hk:k+(i+n)%64 <= 64)(hi:(i+n)/64<B.length):ClrIn B (clrAt B' (i+n) k) i (n+k):=by
 obtain⟨h1,h2,h3⟩:=h;refine⟨by rw[clrAt_len,h1],clrAt_u64 h2,fun j=>?_⟩;rw[clrAt_bit h2 hk (by rw[h1];exact hi),h3,Bool.and_assoc]
 congr 1
 rw[Bool.eq_iff_iff];simp only[Bool.and_eq_true,Bool.not_eq_true',Bool.and_eq_false_iff,decide_eq_false_iff_not];omega
theorem andNot_bits {a m:Nat}:bits .andNot .u64 (a:Int) (m:Int)=((clr a m:Nat):Int):=by
 have h1:(BitVec.ofInt 64 (a:Int))=BitVec.ofNat 64 a:=by rw[BitVec.ofInt_natCast]
 have h2:(BitVec.ofInt 64 (m:Int))=BitVec.ofNat 64 m:=by rw[BitVec.ofInt_natCast]
 show IntKind.u64.wrap (((BitVec.ofInt 64 (a:Int)) &&& ~~~ (BitVec.ofInt 64 (m:Int))).toNat:Int)=_
 rw[h1,h2,IntKind.wrap_u64];have:=clr_lt a m;unfold clr at*;omega
theorem has_bits {x b:Nat}(hx:x<18446744073709551616):bits .and .u64 ((x:Int).fdiv (2^b)) 1=if x.testBit b then 1 else 0:=by
 have h1:(x:Int).fdiv (2^b)=((x/2^b:Nat):Int):=by
  rw[Int.fdiv_eq_ediv_of_nonneg _ (by exact Int.le_of_lt (Int.pow_pos (by decide)))]
  push_cast
  rfl
 rw[h1,show(1:Int)=((1:Nat):Int)from rfl,bits_and_u64_nat _ _ (Nat.lt_of_le_of_lt (Nat.div_le_self ..) hx) (by decide),Nat.and_one_is_mod];have:x.testBit b=decide (x/2^b%2=1):=by rw[Nat.testBit_eq_decide_div_mod_eq]
 rw[this]
 by_cases h:x/2^b%2=1
 ·rw[h];simp
 · have h0:x/2^b%2=0:=by omega
   rw[h0];simp
end
section
open Go Go.RowKit Tryz Go.IntWalk
abbrev tyVal (t:Ty):Value:=.agg #[.int .u8 t.kind,.int .i64 t.words,.int .u64 t.mask]
structure TyIn (t:Ty):Prop where
 kind:t.kind <= 255
 low: -9223372036854775808 <= t.words
 high:t.words <= 9223372036854775807
 mask:t.mask<18446744073709551616
theorem shift_nat (m j:Nat):(m:Int)/2^j=((m/2^j:Nat):Int):=by rw[Int.natCast_ediv,Int.natCast_pow];rfl
theorem kcheck (w:World)(t:Ty)(ht:TyIn t):Calls prog 185 #[tyVal t] w fun e w'=>e=.returned (.int .i64 (if t.may then 0 else 2)) /\ Below w.heap.size w w':=by
 obtain⟨k,n,m⟩:=t;obtain⟨h1,h2,h3,h4⟩:=ht;simp only at h1 h2 h3 h4;have hB:=uh ((Below.refl w.heap.size w).alloc (Nat.le_refl _) (.cells #[.int .u8 k,.int .i64 n,.int .u64 m] 49));obtain⟨er,Her⟩:∃er:Int,Hid (er=if (Ty.mk k n m).may then 0 else 2):=⟨_,uh rfl⟩;rw[←Her.out]
 by_cases k1:k=1
 · subst k1
   have hmay:(Ty.mk 1 n m).may↔0 <= n /\ n <= 64 /\ m<2^n.toNat:=by simp[Ty.may,low,high]
   by_cases hms:m<2^n.toNat
   · have hsh:((m:Int)/2^n.toNat != 0)=false:=by rw[←mask_shift]at hms;rw[shift_nat,hms];rfl
     go_enter func185,ntmps185
     go_wp2
     all_goals
      go_ret;refine⟨?_,hB.out⟩;rw[Her.out]
      first
       | (rw[if_pos (hmay.2 ⟨by omega,by omega,hms⟩)];done)
       | (rw[if_neg (fun h=>by have h5:=hmay.1 h;omega)];done)
       | (rw[if_pos (hmay.2 ⟨by omega,by omega,hms⟩)];rfl)
       | (rw[if_neg (fun h=>by have h5:=hmay.1 h;omega)];rfl)
   · have hsh:((m:Int)/2^n.toNat != 0)=true:=by rw[shift_nat,bne_iff_ne];exact fun h=>hms (mask_shift.1 (by exact_mod_cast h))
     have h64:¬(64 <= n /\ n <= 64):=fun h5=>by
      have h6:n=64:=(by omega);rw[h6]at hms;exact hms h4
     go_enter func185,ntmps185
     go_wp2
     all_goals first
      | (exfalso;omega)
      | (go_ret
         refine⟨?_,hB.out⟩;rw[Her.out,if_neg (fun h=>hms (hmay.1 h).2.2)]
         first|done|rfl)
 by_cases k2:k=2
 · subst k2
   have hmay:(Ty.mk 2 n m).may↔0 <= n /\ n <= 0 /\ m<2^n.toNat:=by simp[Ty.may,low,high]
   by_cases hms:m<2^n.toNat
   · have hsh:((m:Int)/2^n.toNat != 0)=false:=by rw[←mask_shift]at hms;rw[shift_nat,hms];rfl
     go_enter func185,ntmps185
     go_wp2
     all_goals
      go_ret;refine⟨?_,hB.out⟩;rw[Her.out]
      first
       | (rw[if_pos (hmay.2 ⟨by omega,by omega,hms⟩)];done)
       | (rw[if_neg (fun h=>by have h5:=hmay.1 h;omega)];done)
       | (rw[if_pos (hmay.2 ⟨by omega,by omega,hms⟩)];rfl)
       | (rw[if_neg (fun h=>by have h5:=hmay.1 h;omega)];rfl)
   · have hsh:((m:Int)/2^n.toNat != 0)=true:=by rw[shift_nat,bne_iff_ne];exact fun h=>hms (mask_shift.1 (by exact_mod_cast h))
     have h64:¬(64 <= n /\ n <= 64):=fun h5=>by
      have h6:n=64:=(by omega);rw[h6]at hms;exact hms h4
     go_enter func185,ntmps185
     go_wp2
     all_goals first
      | (exfalso;omega)
      | (go_ret
         refine⟨?_,hB.out⟩;rw[Her.out,if_neg (fun h=>hms (hmay.1 h).2.2)]
         first|done|rfl)
 by_cases k3:k=3
 · subst k3
   have hmay:(Ty.mk 3 n m).may↔1 <= n /\ n <= 16 /\ m<2^n.toNat:=by simp[Ty.may,low,high]
   by_cases hms:m<2^n.toNat
   · have hsh:((m:Int)/2^n.toNat != 0)=false:=by rw[←mask_shift]at hms;rw[shift_nat,hms];rfl
     go_enter func185,ntmps185
     go_wp2
     all_goals
      go_ret;refine⟨?_,hB.out⟩;rw[Her.out]
      first
       | (rw[if_pos (hmay.2 ⟨by omega,by omega,hms⟩)];done)
       | (rw[if_neg (fun h=>by have h5:=hmay.1 h;omega)];done)
       | (rw[if_pos (hmay.2 ⟨by omega,by omega,hms⟩)];rfl)
       | (rw[if_neg (fun h=>by have h5:=hmay.1 h;omega)];rfl)
   · have hsh:((m:Int)/2^n.toNat != 0)=true:=by rw[shift_nat,bne_iff_ne];exact fun h=>hms (mask_shift.1 (by exact_mod_cast h))
     have h64:¬(64 <= n /\ n <= 64):=fun h5=>by
      have h6:n=64:=(by omega);rw[h6]at hms;exact hms h4
     go_enter func185,ntmps185
     go_wp2
     all_goals first
      | (exfalso;omega)
      | (go_ret
         refine⟨?_,hB.out⟩;rw[Her.out,if_neg (fun h=>hms (hmay.1 h).2.2)]
         first|done|rfl)
 by_cases k4:k=4
 · subst k4
   have hmay:(Ty.mk 4 n m).may↔0 <= n /\ n <= 0 /\ m<2^n.toNat:=by simp[Ty.may,low,high]
   by_cases hms:m<2^n.toNat
   · have hsh:((m:Int)/2^n.toNat != 0)=false:=by rw[←mask_shift]at hms;rw[shift_nat,hms];rfl
     go_enter func185,ntmps185
     go_wp2
     all_goals
      go_ret;refine⟨?_,hB.out⟩;rw[Her.out]
      first
       | (rw[if_pos (hmay.2 ⟨by omega,by omega,hms⟩)];done)
       | (rw[if_neg (fun h=>by have h5:=hmay.1 h;omega)];done)
       | (rw[if_pos (hmay.2 ⟨by omega,by omega,hms⟩)];rfl)
       | (rw[if_neg (fun h=>by have h5:=hmay.1 h;omega)];rfl)
   · have hsh:((m:Int)/2^n.toNat != 0)=true:=by rw[shift_nat,bne_iff_ne];exact fun h=>hms (mask_shift.1 (by exact_mod_cast h))
     have h64:¬(64 <= n /\ n <= 64):=fun h5=>by
      have h6:n=64:=(by omega);rw[h6]at hms;exact hms h4
     go_enter func185,ntmps185
     go_wp2
     all_goals first
      | (exfalso;omega)
      | (go_ret
         refine⟨?_,hB.out⟩;rw[Her.out,if_neg (fun h=>hms (hmay.1 h).2.2)]
         first|done|rfl)
 have hk:∀j:Nat,1 <= j -> j <= 4 -> ¬(k:Int)=(j:Int):=fun j a b=>by omega
 have q1:¬(k:Int)=1:=hk 1 (by omega) (by omega);have q2:¬(k:Int)=2:=hk 2 (by omega) (by omega);have q3:¬(k:Int)=3:=hk 3 (by omega) (by omega);have q4:¬(k:Int)=4:=hk 4 (by omega) (by omega);clear hk
 go_enter func185,ntmps185
 go_wp2
 all_goals
  go_ret;refine⟨?_,hB.out⟩;rw[Her.out,if_neg (fun h=>by have h5:=h.1;have h6:=h.2.1;simp only at h5 h6;omega)]
  first|done|rfl
theorem err_ok {t:Ty}{n:Int}:t.err n=0↔t.may /\ 0 <= n /\ n <= 4096 /\ (t.kind=1 -> n=0):=by
 unfold Ty.err
 by_cases hm:t.may
 · by_cases h0:n<0
   · rw[if_pos (.inr (.inl h0))]
     exact⟨fun h=>(by cases h),fun h=>(by omega)⟩
   · by_cases h1:t.kind=1 /\ n≠0
     · rw[if_pos (.inr (.inr h1))]
       exact⟨fun h=>(by cases h),fun h=>absurd (h.2.2.2 h1.1) h1.2⟩
     · rw[if_neg (fun h=>by rcases h with h|h|h;exact h hm;exact h0 h;exact h1 h)]
       by_cases h2:4096<n
       · rw[if_pos h2]
         exact⟨fun h=>(by cases h),fun h=>(by omega)⟩
       · rw[if_neg h2]
         exact⟨fun _=>⟨hm,by omega,by omega,fun hk=>Classical.byContradiction fun hn=>h1 ⟨hk,hn⟩⟩,fun _=>rfl⟩
 · rw[if_pos (.inl hm)]
   exact⟨fun h=>(by cases h),fun h=>absurd h.1 hm⟩
def layCells (t:Ty)(n:Int):List Value:=if t.err n=0 then [.int .u8 t.kind,.int .i64 t.words,.int .u64 t.mask,.int .i64 n]else [.int .u8 0,.int .i64 0,.int .u64 0,.int .i64 0]
abbrev layVal (t:Ty)(n:Int):Value:=.agg (layCells t n).toArray
theorem kof (w:World)(t:Ty)(ht:TyIn t)(n:Int):
  Calls prog 239 #[tyVal t,.int .i64 n] w fun e w'=>e=.returned (.tuple #[layVal t n,.int .i64 (t.err n)]) /\ Below w.heap.size w w':=by
 have Hck:=uh (fun W=>kcheck W t ht);have T1:=((Turn.refl (Has.nil w)).alloc (.cells #[.int .u8 t.kind,.int .i64 t.words,.int .u64 t.mask] 49)).alloc (.cells #[.int .u8 0,.int .i64 0,.int .u64 0,.int .i64 0] 367);have HT1:=uh T1;clear T1
 obtain⟨v0,v1,v2,v3,er,Hv⟩:∃v0 v1 v2 v3 er,Hid (layCells t n=[v0,v1,v2,v3] /\ er=t.err n /\ (t.err n≠0 -> v0=.int .u8 0 /\ v1=.int .i64 0 /\ v2=.int .u64 0 /\ v3=.int .i64 0) /\ (t.err n=0 -> v0=.int .u8 t.kind /\ v1=.int .i64 t.words /\ v2=.int .u64 t.mask /\ v3=.int .i64 n)):=by
  unfold layCells
  by_cases h:t.err n=0
  ·exact⟨_,_,_,_,_,uh ⟨by rw[if_pos h],rfl,fun h'=>absurd h h',fun _=>⟨rfl,rfl,rfl,rfl⟩⟩⟩
  ·exact⟨_,_,_,_,_,uh ⟨by rw[if_neg h],rfl,fun _=>⟨rfl,rfl,rfl,rfl⟩,fun h'=>absurd h' h⟩⟩
 rw[show layVal t n=.agg #[v0,v1,v2,v3]by unfold layVal;rw[Hv.out.1],←Hv.out.2.1];have hsz:(prog.info? 367).map (·.size)=some 4:=by kernel_rfl
 have Hlast:∀W,Turn [] w [(w.heap.size+1,.cells #[v0,v1,v2,v3] 367),(w.heap.size,.cells #[.int .u8 t.kind,.int .i64 t.words,.int .u64 t.mask] 49)] W -> Below w.heap.size w W:=fun W T=>T.below
 have Herr2:(¬t.may∨n<0∨t.kind=1 /\ n≠0) -> er=2 /\ v0=.int .u8 0 /\ v1=.int .i64 0 /\ v2=.int .u64 0 /\ v3=.int .i64 0:=fun h=>by
  have h2:t.err n=2:=by unfold Ty.err;rw[if_pos h]
  exact⟨Hv.out.2.1.trans h2,Hv.out.2.2.1 (by rw[h2];decide)⟩
 have Herr5:t.may -> 4096<n -> ¬(t.kind=1 /\ n≠0) -> er=5 /\ v0=.int .u8 0 /\ v1=.int .i64 0 /\ v2=.int .u64 0 /\ v3=.int .i64 0:=fun hm hn hk=>by
  have h2:t.err n=5:=by unfold Ty.err;rw[if_neg (fun h=>by rcases h with h|h|h;exact h hm;omega;exact hk h),if_pos hn]
  exact⟨Hv.out.2.1.trans h2,Hv.out.2.2.1 (by rw[h2];decide)⟩
 have Hok:t.may -> 0 <= n -> n <= 4096 -> ¬(t.kind=1 /\ n≠0) -> er=0 /\ v0=.int .u8 t.kind /\ v1=.int .i64 t.words /\ v2=.int .u64 t.mask /\ v3=.int .i64 n:=fun hm h0 hn hk=>by
  have h2:t.err n=0:=by unfold Ty.err;rw[if_neg (fun h=>by rcases h with h|h|h;exact h hm;omega;exact hk h),if_neg (by omega)]
  exact⟨Hv.out.2.1.trans h2,Hv.out.2.2.2 h2⟩
 clear Hv;obtain⟨k,m,mk⟩:=t
 have HS:∀(W:World) (vs:List Value),vs.length=4 -> Turn [] w [(w.heap.size+1,.cells #[.int .u8 0,.int .i64 0,.int .u64 0,.int .i64 0] 367),(w.heap.size,.cells #[.int .u8 k,.int .i64 m,.int .u64 mk] 49)] W ->
   Turn [] w [(w.heap.size+1,.cells vs.toArray 367),(w.heap.size,.cells #[.int .u8 k,.int .i64 m,.int .u64 mk] 49)] (W.setCells (w.heap.size+1) 0 vs):=fun W vs hl T=>Turn.setAll vs (by rw[hl];rfl) T
 go_enter func239,ntmps239
 go_wp2_with fail
 refine(Hck.out _).mono ?_;rintro e w2 ⟨rfl,hB2⟩;have T2:=HT1.out.call hB2;rw[World.size_alloc]at T2;have hth:w2.there (w.heap.size+1) 0 4:=T2.there1;have TZ:=HS w2 [.int .u8 0,.int .i64 0,.int .u64 0,.int .i64 0] rfl T2;have TV:=HS w2 [.int .u8 k,.int .i64 m,.int .u64 mk,.int .i64 n] rfl T2;have c0:w2.cell? ⟨w.heap.size,0,none⟩=some (.int .u8 k):=T2.cell2 0;have c1:w2.cell? ⟨w.heap.size,1,none⟩=some (.int .i64 m):=T2.cell2 1;have c2:w2.cell? ⟨w.heap.size,2,none⟩=some (.int .u64 mk):=T2.cell2 2;have z0:=TZ.cell1 0;have z1:=TZ.cell1 1;have z2:=TZ.cell1 2;have z3:=TZ.cell1 3;have d0:=TV.cell1 0;have d1:=TV.cell1 1;have d2:=TV.cell1 2;have d3:=TV.cell1 3;have hoZ:(#[.int .u8 0,.int .i64 0,.int .u64 0,.int .i64 0]:Array Value).all (·.oneCell')=true:=all_oneCell_toArray (cs:=[.int .u8 0,.int .i64 0,.int .u64 0,.int .i64 0]) (by simp[Value.oneCell']);have hoV:(#[.int .u8 k,.int .i64 m,.int .u64 mk,.int .i64 n]:Array Value).all (·.oneCell')=true:=all_oneCell_toArray (cs:=[.int .u8 k,.int .i64 m,.int .u64 mk,.int .i64 n]) (by simp[Value.oneCell']);have HTZ:=uh TZ;have HTV:=uh TV;clear hB2 T2 HS TZ TV HT1 Hck Hlast
 by_cases hm:(Ty.mk k m mk).may
 · simp only[if_pos hm]
   by_cases hA:n<0
   · obtain⟨rfl,rfl,rfl,rfl,rfl⟩:=Herr2 (.inr (.inl hA))
     clear Herr2 Herr5 Hok hm d0 d1 d2 d3 HTV
     go_wp2_with (first|(refine wpList_store_mid rfl 367 _ _ rfl _ 0 #[.int .u8 0,.int .i64 0,.int .u64 0,.int .i64 0] rfl rfl hth hsz hoZ ?_)|fail)
     refine bodyPost_ret (res_two results239 _ _ _ _ _ rfl HTZ.out.range1 underlying367 rfl hsz) rfl ⟨rfl,HTZ.out.below⟩
   by_cases hB:k=1 /\ n≠0
   · obtain⟨rfl,rfl,rfl,rfl,rfl⟩:=Herr2 (.inr (.inr hB))
     obtain⟨rfl,hB⟩:=hB;clear Herr2 Herr5 Hok hm d0 d1 d2 d3 HTV
     go_wp2_with (first|(refine wpList_store_mid rfl 367 _ _ rfl _ 0 #[.int .u8 0,.int .i64 0,.int .u64 0,.int .i64 0] rfl rfl hth hsz hoZ ?_)|fail)
     refine bodyPost_ret (res_two results239 _ _ _ _ _ rfl HTZ.out.range1 underlying367 rfl hsz) rfl ⟨rfl,HTZ.out.below⟩
   by_cases hC:4096<n
   · obtain⟨rfl,rfl,rfl,rfl,rfl⟩:=Herr5 hm hC hB
     have hk:¬(k:Int)=1:=fun h=>hB ⟨by omega,by omega⟩;clear Herr2 Herr5 Hok hm d0 d1 d2 d3 HTV hB
     go_wp2_with (first|(refine wpList_store_mid rfl 367 _ _ rfl _ 0 #[.int .u8 0,.int .i64 0,.int .u64 0,.int .i64 0] rfl rfl hth hsz hoZ ?_)|fail)
     refine bodyPost_ret (res_two results239 _ _ _ _ _ rfl HTZ.out.range1 underlying367 rfl hsz) rfl ⟨rfl,HTZ.out.below⟩
   · obtain⟨rfl,rfl,rfl,rfl,rfl⟩:=Hok hm (by omega) (by omega) hB
     clear Herr2 Herr5 Hok hm z0 z1 z2 z3 HTZ
     by_cases hk1:k=1
     · obtain rfl:n=0:=Classical.byContradiction fun h=>hB ⟨hk1,h⟩
       subst hk1;clear hB
       go_wp2_with (first|(refine wpList_store_mid rfl 367 _ _ rfl _ 0 #[.int .u8 1,.int .i64 m,.int .u64 mk,.int .i64 0] rfl rfl hth hsz hoV ?_)|fail)
       refine bodyPost_ret (res_two results239 _ _ _ _ _ rfl HTV.out.range1 underlying367 rfl hsz) rfl ⟨rfl,HTV.out.below⟩
     · have hk:¬(k:Int)=1:=by omega
       clear hB hk1
       go_wp2_with (first|(refine wpList_store_mid rfl 367 _ _ rfl _ 0 #[.int .u8 k,.int .i64 m,.int .u64 mk,.int .i64 n] rfl rfl hth hsz hoV ?_)|fail)
       refine bodyPost_ret (res_two results239 _ _ _ _ _ rfl HTV.out.range1 underlying367 rfl hsz) rfl ⟨rfl,HTV.out.below⟩
 · obtain⟨rfl,rfl,rfl,rfl,rfl⟩:=Herr2 (.inl hm)
   simp only[if_neg hm];clear Herr2 Herr5 Hok hm d0 d1 d2 d3 HTV
   go_wp2_with (first|(refine wpList_store_mid rfl 367 _ _ rfl _ 0 #[.int .u8 0,.int .i64 0,.int .u64 0,.int .i64 0] rfl rfl hth hsz hoZ ?_)|fail)
   refine bodyPost_ret (res_two results239 _ _ _ _ _ rfl HTZ.out.range1 underlying367 rfl hsz) rfl ⟨rfl,HTZ.out.below⟩
end
section
open Go Go.RowKit Go.MapKept
def MapObj (q:IntKind)(m:List (Int×Value))(o:Obj):Prop:=∃es clock,o=.map es clock /\ es.toList.map (fun e=>(e.key,e.val))=m.map (fun p=>(Value.int q p.1,p.2))
def mfind:List (Int×Value) -> Int -> Nat -> Option (Nat×Value)
 | [],_,_=>none
 | p::m,k,i=>if k=p.1 then some (i,p.2)else mfind m k (i+1)
def mget (m:List (Int×Value))(k:Int):Option Value:=(mfind m k 0).map (·.2)
def mput:List (Int×Value) -> Int -> Value -> List (Int×Value)
 | [],k,v=>[(k,v)]
 | p::m,k,v=>if k=p.1 then(k,v)::m else p::mput m k v
theorem mfind_add (m:List (Int×Value))(k:Int):∀i j,mfind m k (i+j)=(mfind m k i).map fun x=>(x.1+j,x.2):=by
 induction m with
 | nil=>intro i j;rfl
 | cons p m ih=>
  intro i j;unfold mfind
  split
  ·rfl
  · rw[←ih (i+1) j]
    congr 1
    omega
theorem mget_cons (p:Int×Value)(m:List (Int×Value))(k:Int):mget (p::m) k=if k=p.1 then some p.2 else mget m k:=by
 unfold mget;rw[mfind]
 split
 ·rfl
 · rw[mfind_add m k 0 1]
   cases mfind m k 0<;>rfl
theorem mget_put (m:List (Int×Value))(k:Int)(v:Value)(j:Int):mget (mput m k v) j=if j=k then some v else mget m j:=by
 induction m with
 | nil=>
  rw[mput,mget_cons]
 | cons p m ih=>
  rw[mput]
  split
  · rename_i h
    subst h;rw[mget_cons,mget_cons];simp only
    split<;>rfl
  · rename_i h
    rw[mget_cons,ih,mget_cons]
    split
    · rename_i h2
      subst h2;rw[if_neg fun h3=>h h3.symm]
    ·rfl
theorem find_spec {q:IntKind}{k:Int}:∀{l:List MapEntry} {m:List (Int×Value)} (i:Nat),l.map (fun e=>(e.key,e.val))=m.map (fun p=>(Value.int q p.1,p.2)) -> Instr.findNow (.int q) (.int q k) l i=some (mfind m k i)
 | [],[],_,_=>rfl
 | [],_::_,_,h=>by cases h
 | _::_,[],_,h=>by cases h
 | e::l,p::m,i,h=>by
  rw[List.map_cons,List.map_cons,List.cons.injEq,Prod.mk.injEq]at h;obtain⟨⟨h1,h2⟩,h3⟩:=h;unfold Instr.findNow mfind;rw[h1]
  by_cases hk:k=p.1
  ·simp[Instr.sameNow,hk,h2]
  · have hb:(k == p.1)=false:=by simpa using hk
    simp only[Instr.sameNow,if_true,hb,hk,if_false];exact find_spec (i+1) h3
theorem modify_spec {q:IntKind}{k:Int}{v:Value}:∀{l:List MapEntry} {m:List (Int×Value)} {i:Nat} {u:Value},l.map (fun e=>(e.key,e.val))=m.map (fun p=>(Value.int q p.1,p.2)) -> mfind m k 0=some (i,u) ->
  (l.modify i fun e=>{ e with key:=.int q k,val:=v }).map (fun e=>(e.key,e.val))=(mput m k v).map (fun p=>(Value.int q p.1,p.2)) /\ (l[i]?).map (·.key)=some (.int q k)
 | [],[],_,_,_,hf=>by cases hf
 | [],_::_,_,_,h,_=>by cases h
 | _::_,[],_,_,h,_=>by cases h
 | e::l,p::m,i,u,h,hf=>by
  rw[List.map_cons,List.map_cons,List.cons.injEq,Prod.mk.injEq]at h;obtain⟨⟨h1,h2⟩,h3⟩:=h;rw[mfind]at hf;rw[mput]
  by_cases hk:k=p.1
  · rw[if_pos hk]at hf ⊢
    cases hf
    simp only[List.modify_zero_cons,List.map_cons,h3,List.getElem?_cons_zero,Option.map_some,h1,hk,and_self]
  · rw[if_neg hk,mfind_add m k 0 1]at hf
    rw[if_neg hk]
    cases hm:mfind m k 0 with
    | none=>rw[hm]at hf;cases hf
    | some x=>
     rw[hm]at hf
     cases hf
     obtain⟨h4,h5⟩:=modify_spec (v:=v) h3 hm;simp only[List.modify_succ_cons,List.map_cons,h4,h1,h2,List.getElem?_cons_succ,h5,and_self]
theorem push_spec {q:IntKind}{k:Int}{v:Value}:∀{m:List (Int×Value)},mfind m k 0=none -> mput m k v=m++[(k,v)]
 | [],_=>rfl
 | p::m,hf=>by
  rw[mfind]at hf;rw[mput]
  by_cases hk:k=p.1
  · rw[if_pos hk]at hf
    cases hf
  · rw[if_neg hk,mfind_add m k 0 1]at hf
    rw[if_neg hk,push_spec (q:=q) (by cases hm:mfind m k 0 with|none=>rfl|some x=>rw[hm]at hf;cases hf)]
    rfl
theorem same_int (n:Nat)(q:IntKind)(a:Int):Instr.sameBits n (.int q a) (.int q a)=true:=by
 cases n<;>simp[Instr.sameBits]
section
variable {P:Program} {w:World} {b:Nat} {q:IntKind} {m:List (Int×Value)} {o:Obj} {t kt e:TypeId}
theorem run_mlookup (hb:w.heap[b]?= some o)(hm:MapObj q m o)(ht:P.underlying t=some (.map kt e))(hk:P.underlying kt=some (.int q)){z:Value}(hz:(zeroValue e).run P w=.ok z w)(k:Int)(ok:Bool):
  (Instr.lookup t (.map (some b)) (.int q k) ok).run P w=.ok (let v:=(mget m k).getD z;if ok then .tuple #[v,.bool (mget m k).isSome]else v) w:=by
 obtain⟨es,clock,rfl,h⟩:=hm;have hf:=run_findKey (P:=P) (w:=w) (kt:=kt) hk (find_spec (k:=k) 0 h);unfold Instr.lookup;simp only[Sem.run_bind,run_underlying ht,Result.andThen_ok,MapKept.run_getObj_map hb,Sem.run_pure,run_checkKey (e:=es.isEmpty) (n:=9999) hk (show IsKey (.int q) (.int q k)by simp[IsKey]),hf];unfold mget
 cases mfind m k 0 with
 | none=>simp[hz,Result.andThen_ok]
 | some x=>cases ok<;>rfl
theorem run_mupdate (hb:w.heap[b]?= some o)(hm:MapObj q m o)(ht:P.underlying t=some (.map kt e))(hk:P.underlying kt=some (.int q))(k:Int)(v:Value):
  ∃o',MapObj q (mput m k v) o' /\ (Instr.mapUpdate t (.map (some b)) (.int q k) v).run P w=.ok () { w with heap:=w.heap.setIfInBounds b o' }:=by
 obtain⟨es,clock,rfl,h⟩:=hm;have hf:=run_findKey (P:=P) (w:=w) (kt:=kt) hk (find_spec (k:=k) 0 h);unfold Instr.mapUpdate;simp only[Sem.run_bind,run_underlying ht,Result.andThen_ok,MapKept.run_getObj_map hb,run_checkKey (e:=false) (n:=9999) hk (show IsKey (.int q) (.int q k)by simp[IsKey]),hf]
 cases hx:mfind m k 0 with
 | none=>
  refine⟨_,⟨es.push { key:=.int q k,val:=v,born:=clock },clock+1,rfl,?_⟩,MapKept.run_setObj_map _ hb⟩;rw[push_spec (q:=q) hx,List.map_append,Array.toList_push,List.map_append,h]
  rfl
 | some x=>
  obtain⟨i,u⟩:=x;obtain⟨h1,h2⟩:=modify_spec (v:=v) h hx;rw[Array.getElem?_toList]at h2;refine⟨_,⟨es.modify i fun e=>{ e with key:=.int q k,val:=v },clock,rfl,?_⟩,?_⟩
  · rw[Array.toList_modify]
    exact h1
  · simp only[h2,Option.getD_some,Instr.keyThatStays,same_int,if_true,Sem.run_bind,Sem.run_pure,Result.andThen_ok]
    exact MapKept.run_setObj_map _ hb
end
theorem MapObj.new (q:IntKind):MapObj q [] (.map #[] 0):=⟨#[],0,rfl,rfl⟩
theorem Turn.setBlk {l l1:List Blk}{w w':World}{b:Nat}{o:Obj}(h:Turn l w ((b,o)::l1) w')(o':Obj):Turn l w ((b,o')::l1) { w' with heap:=w'.heap.setIfInBounds b o' }:=by
 have hd:=h.has.nd;rw[keys_cons,List.nodup_cons]at hd;obtain⟨h1,h2⟩:=heap_set (o':=o') (h.has.own b o (List.mem_cons_self ..));refine⟨h.os,h.tape,h.output,by simpa using h.size,⟨h.has.nd,fun b' o2 hm=>?_⟩,h.new,fun b' hb hn=>?_⟩
 · rcases List.mem_cons.1 hm with h3|h3
   · cases h3
     exact h1
   ·exact(h2 b' (fun he=>hd.1 (mem_keys.2 ⟨o2,by rw[←he];exact h3⟩))).trans (h.has.own b' o2 (List.mem_cons_of_mem _ h3))
 · refine(h2 b' (fun he=>?_)).trans (h.same b' hb hn)
   rcases h.new b (by simp)with h3|h3
   ·exact hn (by rw[he];exact h3)
   ·omega
section
variable {P:Program} {w:World} {ops:Array Oper} {rest:List Oper} {o:Oper} {a:Act} {Q:Exit -> Act -> World -> Prop} {q:IntKind} {mp:List (Int×Value)} {b:Nat} {ob:Obj}
end
end
section
open Go Go.RowKit Tryz Go.IntWalk
section
variable {P:Program} {w w0:World} {ops:Array Oper} {rest:List Oper} {o:Oper} {a:Act} {Q:Exit -> Act -> World -> Prop} {q:IntKind} {mp:List (Int×Value)} {b:Nat} {ob:Obj} {l L:List Blk}
theorem wpList_minsert (T:Turn l w0 ((b,ob)::L) w)(hmo:MapObj q mp ob)(hg:o.guard=none)(m x v:Operand)(t:TypeId)(hop:o.op=Op.insert t m x v)(kt e:TypeId)(ht:P.underlying t=some (.map kt e))(hk:P.underlying kt=some (.int q))
  (hm:a.eval m=.map (some b))(k:Int)(hx:a.eval x=.int q k)(u:Value)(hv:a.eval v=u)
  (hK:∀o' w',MapObj q (mput mp k u) o' -> Turn l w0 ((b,o')::L) w' -> wpList P ops Q rest (a.put o.dst undef) w'):wpList P ops Q (o::rest) a w:=by
 refine wpList_plain hg fun K' hK'=>?_;obtain⟨o',ho',hrun⟩:=run_mupdate (T.has.own b ob (List.mem_cons_self ..)) hmo ht hk k u;unfold Oper.wp;simp only[execOp,hop,hm,hx,hv,hrun,Sem.run_bind,Result.andThen_ok,Sem.run_pure];exact hK' _ _ (hK o' _ ho' (T.setBlk o'))
end
def wayList:List (Int×Value):=[(1,.func (.func 285) #[] #[]),(2,.func (.func 286) #[] #[]),(3,.func (.func 287) #[] #[]),(4,.func (.func 286) #[] #[])]
theorem kways (w:World):Calls prog 266 #[] w fun e w'=>e=.returned (.map (some w.heap.size)) /\ ∃o,MapObj .u8 wayList o /\ Turn [] w [(w.heap.size,o)] w':=by
 have T0:=(Turn.refl (Has.nil w)).alloc (.map #[] 0);have HT0:=uh T0;clear T0;have hmm:= @run_makeMap prog
 go_enter func266,ntmps266
 have Hm:=uh (MapObj.new .u8)
 go_wp2_with (first
  | (refine wpList_minsert HT0.out Hm.out rfl _ _ _ 389 rfl _ _ underlying389 underlying5 rfl _ rfl _ rfl ?_;clear HT0 Hm;intro o1 w1 ho1 hT1;have HT0:=uh hT1;have Hm:=uh ho1;clear ho1 hT1)
  | fail)
 go_ret;exact⟨rfl,_,Hm.out,HT0.out⟩
abbrev layAgg (t:Ty)(n:Nat):Value:=.agg #[.int .u8 t.kind,.int .i64 t.words,.int .u64 t.mask,.int .i64 n]
theorem layVal_ok {t:Ty}{n:Nat}(h:t.err n=0):layVal t n=layAgg t n:=by
 unfold layVal layCells;rw[if_pos h]
theorem kfixed (w:World)(t:Ty)(n:Nat):Calls prog 285 #[layAgg t n] w fun e w'=>e=.returned (.int .i64 t.words) /\ Below w.heap.size w w':=by
 have hB:=uh ((Below.refl w.heap.size w).alloc (Nat.le_refl _) (.cells #[.int .u8 t.kind,.int .i64 t.words,.int .u64 t.mask,.int .i64 n] 367))
 go_enter func285,ntmps285
 go_wp2
 go_ret;exact⟨rfl,hB.out⟩
theorem krow (w:World)(t:Ty)(n:Nat):Calls prog 286 #[layAgg t n] w fun e w'=>e=.returned (.int .i64 n) /\ Below w.heap.size w w':=by
 have hB:=uh ((Below.refl w.heap.size w).alloc (Nat.le_refl _) (.cells #[.int .u8 t.kind,.int .i64 t.words,.int .u64 t.mask,.int .i64 n] 367))
 go_enter func286,ntmps286
 go_wp2
 go_ret;exact⟨rfl,hB.out⟩
theorem kelems (w:World)(t:Ty)(n:Nat)(h:(n:Int)*t.words <= 65536)(h0:0 <= (n:Int)*t.words):Calls prog 287 #[layAgg t n] w fun e w'=>e=.returned (.int .i64 ((n:Int)*t.words)) /\ Below w.heap.size w w':=by
 have hB:=uh ((Below.refl w.heap.size w).alloc (Nat.le_refl _) (.cells #[.int .u8 t.kind,.int .i64 t.words,.int .u64 t.mask,.int .i64 n] 367));have hw:IntKind.i64.wrap ((n:Int)*t.words)=(n:Int)*t.words:=i64_in _ (by omega)
 go_enter func287,ntmps287
 go_wp2
 go_ret;refine⟨?_,hB.out⟩
 first|rfl|rw[hw]
end
section
open Go Go.RowKit Tryz Go.IntWalk Go.Shelf
theorem way_of {t:Ty}(hm:t.may):∃f,mget wayList t.kind=some (.func (.func f) #[] #[]) /\ (f=285 /\ t.kind=1∨f=287 /\ t.kind=3∨f=286 /\ (t.kind=2∨t.kind=4)):=by
 obtain⟨k,m,mk⟩:=t;have h1:=hm.1;have h2:=hm.2.1;simp only at h1 h2 ⊢;have hk:k=1∨k=2∨k=3∨k=4:=by omega
 rcases hk with rfl|rfl|rfl|rfl
 ·exact⟨_,rfl,.inl ⟨rfl,rfl⟩⟩
 ·exact⟨_,rfl,.inr (.inr ⟨rfl,.inl rfl⟩)⟩
 ·exact⟨_,rfl,.inr (.inl ⟨rfl,rfl⟩)⟩
 ·exact⟨_,rfl,.inr (.inr ⟨rfl,.inr rfl⟩)⟩
theorem kway (t:Ty)(n:Nat)(he:t.err n=0):∃f,mget wayList t.kind=some (.func (.func f) #[] #[]) /\ (∀args w,(callFunc f args).run prog w=.ok (.enter f args) w) /\ ∀w,Calls prog f #[layAgg t n] w fun e w'=>e=.returned (.int .i64 (t.slots n:Nat)) /\ Below w.heap.size w w':=by
 obtain⟨hm,h0,h1,h2⟩:=err_ok.1 he;obtain⟨f,hf,hc⟩:=way_of hm;have hs:=slots_most hm (n:=n) (by omega);have hw:=hm.2.2.1;refine⟨f,hf,?_,fun w=>?_⟩
 · rcases hc with⟨rfl,hk⟩|⟨rfl,hk⟩|⟨rfl,hk⟩
   ·exact enters_of func285 (by kernel_rfl) rfl
   ·exact enters_of func287 (by kernel_rfl) rfl
   ·exact enters_of func286 (by kernel_rfl) rfl
 unfold Ty.slots at hs ⊢;rcases hc with⟨rfl,hk⟩|⟨rfl,hk⟩|⟨rfl,hk⟩
 · rw[if_pos hk]
   have:=kfixed w t n
   rwa [show((t.words.toNat:Nat):Int)=t.words by unfold low at hw;rw[hk]at hw;simp at hw;omega]
 · rw[if_neg (by omega),if_pos hk]at hs ⊢
   have h3:((t.words.toNat:Nat):Int)=t.words:=(by unfold low at hw;rw[hk]at hw;simp at hw;omega);have h4:((n*t.words.toNat:Nat):Int)=(n:Int)*t.words:=(by rw[Int.natCast_mul,h3]);rw[h4];exact kelems w t n (by omega) (by omega)
 · rw[if_neg (by omega),if_neg (by omega)]
   exact krow w t n
theorem lslots (w:World)(t:Ty)(n:Nat)(he:t.err n=0):Calls prog 240 #[layAgg t n] w fun e w'=>e=.returned (.int .i64 (t.slots n:Nat)) /\ Below w.heap.size w w':=by
 obtain⟨f,hf,henter,hcall⟩:=kway t n he;obtain⟨k,m,mk⟩:=t;simp only at hf;have hB:=(Below.refl w.heap.size w).alloc (Nat.le_refl _) (.cells #[.int .u8 k,.int .i64 m,.int .u64 mk,.int .i64 n] 367);have hR:(w.alloc (.cells #[.int .u8 k,.int .i64 m,.int .u64 mk,.int .i64 n] 367)).rangeAt w.heap.size 0 [.int .u8 k,.int .i64 m,.int .u64 mk,.int .i64 n]:=((Turn.refl (Has.nil w)).alloc _).range1;have hsz:(prog.info? 367).map (·.size)=some 4:=by kernel_rfl
 have HB:=uh hB;have Hcall:=uh hcall;have Hf:=uh hf;clear hB hcall hf he
 go_enter func240,ntmps240
 go_upto_region 1 with fail
 refine wp_abs (fun W=>Below w.heap.size w W /\ w.heap.size<W.heap.size /\ W.drew.rangeAt w.heap.size 0 [.int .u8 k,.int .i64 m,.int .u64 mk,.int .i64 n]) ⟨HB.out,by simp,hR⟩ fun W hW=>?_;obtain⟨hB1,hlt,hS⟩:=hW;have HB1:=uh hB1;clear hB1 hR HB;refine wp_region_noPanic ?_;refine wp_region_listed (S:=fun W'=>W'.rangeAt w.heap.size 0 [.int .u8 k,.int .i64 m,.int .u64 mk,.int .i64 n]) 8 [false,false,false,false,false,false,false,false] rfl rfl (by kernel_rfl) ?_;refine tkA 1 4 hS ?_;refine tkA 2 5 hS ?_;refine takeG 3 6 rfl rfl (by rfl) (by kernel_rfl) (by kernel_rfl) (by kernel_rfl) (fun _ _ _ _ h=>h) hS (by(intro w' hSw;have hc:w'.cell? ⟨w.heap.size,0,none⟩=some (.int .u8 k):=hSw 0 _ rfl;clear hSw;go_simp;try rfl)) ?_;simp only[st1,st2];refine tkC 5 8 hS (fun w' hSw=>load_mid_run 367 _ rfl w.heap.size 0 rfl [.int .u8 k,.int .i64 m,.int .u64 mk,.int .i64 n] _ hSw underlying367 rfl hsz) ?_;refine rdyA 0 (fun K hK=>?_)
 go_simp
 refine(kways _).mono ?_;rintro e W2 ⟨rfl,ob,ho,T2⟩
 have hrun:(Instr.lookup 389 (.map (some W.heap.size)) (.int .u8 k) false).run prog W2=.ok (.func (.func f) #[] #[]) W2:=by
  have h:=run_mlookup (T2.has.own _ _ (List.mem_cons_self ..)) ho underlying389 underlying5 (Tryz.zeroValue388 _) k false;rw[Hf.out]at h;exact h
 have hlt2:w.heap.size<W2.heap.size:=Nat.lt_of_lt_of_le hlt T2.size;have hS2:W2.rangeAt w.heap.size 0 [.int .u8 k,.int .i64 m,.int .u64 mk,.int .i64 n]:=fun j v hv=>(T2.below.cell (p:=⟨w.heap.size,0+j,none⟩) hlt).trans (hS j v hv);have HB2:=uh (HB1.out.drew.trans (T2.below.mono HB1.out.size));clear ho T2;refine hK.out _ _ hS2 fun _=>?_;simp only[List.setIfInBounds_toArray,List.set_cons_zero];refine wpAnyH_ready (rs:=[4]) (by kernel_rfl) (by simp) (AllReadyH.cons rfl (fun K2 hK2=>?_) AllReadyH.nil)
 go_simp
 refine hK2.out _ _ hS2 fun _=>?_;clear hK K hK2 K2 hrun;simp only[st0,st1,st2];refine rdyA 6 (fun K hK=>?_)
 go_simp
 refine(Hcall.out _).mono ?_;rintro e W3 ⟨rfl,hB3⟩;have hS3:W3.rangeAt w.heap.size 0 [.int .u8 k,.int .i64 m,.int .u64 mk,.int .i64 n]:=fun j v hv=>(hB3.cell (p:=⟨w.heap.size,0+j,none⟩) hlt2).trans (hS2 j v hv);have HB3:=uh (HB2.out.trans (hB3.mono HB2.out.size));clear hB3;refine hK.out _ _ hS3 fun _=>?_;clear hK K;simp only[st0,st1,st2];refine tkA 7 2 hS3 ?_;refine wpAnyH_done (by kernel_rfl) ?_ _;refine NoPanic.normal ?_
 go_wp2
 go_ret;exact⟨rfl,HB3.out⟩
end
section
open Go Go.RowKit Tryz Go.IntWalk
theorem kslots (w:World)(t:Ty)(ht:TyIn t)(n:Int):
  Calls prog 197 #[tyVal t,.int .i64 n] w fun e w'=>e=.returned (.tuple #[.int .i64 (if t.err n=0 then((t.slots n.toNat:Nat):Int)else 0),.int .i64 (t.err n)]) /\ Below w.heap.size w w':=by
 have hsz:(prog.info? 367).map (·.size)=some 4:=by kernel_rfl
 by_cases he:t.err n=0
 · obtain⟨hm,h0,h1,h2⟩:=err_ok.1 he
   obtain⟨n,rfl⟩:∃m:Nat,n=m:=⟨n.toNat,by omega⟩;have Hof:=uh (fun W=>kof W t ht n);rw[he,layVal_ok he]at Hof;have Hsl:=uh (fun W=>lslots W t n he);have hsm:=slots_most hm (n:=n) (by omega);rw[he,if_pos rfl];clear he hm h0 h1 h2;obtain⟨k,m,mk⟩:=t;simp only[Int.toNat_natCast];generalize Ty.slots ⟨k,m,mk⟩ n=sl at*;have T1:=(Turn.refl (Has.nil w)).alloc (.cells #[.int .u8 k,.int .i64 m,.int .u64 mk] 49);have HT1:=uh T1;clear T1;have ho1:(#[.int .u8 k,.int .i64 m,.int .u64 mk,.int .i64 n]:Array Value).all (·.oneCell')=true:=all_one (cs:=[.int .u8 k,.int .i64 m,.int .u64 mk,.int .i64 n]) (by simp[Value.oneCell'])
   go_enter func197,ntmps197
   go_wp2_with fail
   refine(Hof.out _).mono ?_;rintro e w1 ⟨rfl,hB1⟩;have T2:=(HT1.out.call hB1).alloc (.cells #[.int .u8 0,.int .i64 0,.int .u64 0,.int .i64 0] 367);have hth:(w1.alloc (.cells #[.int .u8 0,.int .i64 0,.int .u64 0,.int .i64 0] 367)).there w1.heap.size 0 4:=T2.there1;have T3:=T2.laid [.int .u8 k,.int .i64 m,.int .u64 mk,.int .i64 n] rfl;have hr3:=T3.range1;have HT3:=uh T3;clear T2 T3 hB1 HT1 Hof
   go_wp2_with (first
    | (show sW 367;refine wpList_store_mid rfl 367 _ _ rfl _ 0 #[.int .u8 k,.int .i64 m,.int .u64 mk,.int .i64 n] rfl rfl hth hsz ho1 ?_)
    | (show lW 367;refine wpList_load_mid rfl 367 _ rfl w1.heap.size 0 rfl [.int .u8 k,.int .i64 m,.int .u64 mk,.int .i64 n] _ hr3 underlying367 rfl hsz ?_)
    | (go_at_call 240;refine(Hsl.out _).mono ?_;rintro e w2 ⟨rfl,hB2⟩)
    | fail)
   refine bodyPost_ret (results_tmp2 rfl _ _ _) rfl ?_;exact⟨rfl,(HT3.out.call hB2).below⟩
 · skip
   have Hof:=uh (fun W=>kof W t ht n);have hz:layVal t n=.agg #[.int .u8 0,.int .i64 0,.int .u64 0,.int .i64 0]:=(by unfold layVal layCells;rw[if_neg he]);rw[hz]at Hof;rw[if_neg he];clear hz;generalize t.err n=er at*;obtain⟨k,m,mk⟩:=t;have T1:=(Turn.refl (Has.nil w)).alloc (.cells #[.int .u8 k,.int .i64 m,.int .u64 mk] 49);have HT1:=uh T1;clear T1;have ho1:(#[.int .u8 0,.int .i64 0,.int .u64 0,.int .i64 0]:Array Value).all (·.oneCell')=true:=all_one (cs:=[.int .u8 0,.int .i64 0,.int .u64 0,.int .i64 0]) (by simp[Value.oneCell'])
   go_enter func197,ntmps197
   go_wp2_with fail
   refine(Hof.out _).mono ?_;rintro e w1 ⟨rfl,hB1⟩;have T2:=(HT1.out.call hB1).alloc (.cells #[.int .u8 0,.int .i64 0,.int .u64 0,.int .i64 0] 367);have hth:(w1.alloc (.cells #[.int .u8 0,.int .i64 0,.int .u64 0,.int .i64 0] 367)).there w1.heap.size 0 4:=T2.there1;have T3:=T2.laid [.int .u8 0,.int .i64 0,.int .u64 0,.int .i64 0] rfl;have HT3:=uh T3;clear T2 T3 hB1 HT1 Hof
   go_wp2_with (first
    | (show sW 367;refine wpList_store_mid rfl 367 _ _ rfl _ 0 #[.int .u8 0,.int .i64 0,.int .u64 0,.int .i64 0] rfl rfl hth hsz ho1 ?_)
    | fail)
   refine bodyPost_ret (results_tmp2 rfl _ _ _) rfl ?_;exact⟨rfl,HT3.out.below⟩
theorem ksize (w:World)(t:Ty)(ht:TyIn t)(n:Int):
  Calls prog 204 #[tyVal t,.int .i64 n] w fun e w'=>e=.returned (.tuple #[.int .i64 (if t.err n=0 then((t.size n.toNat:Nat):Int)else 0),.int .i64 (t.err n)]) /\ Below w.heap.size w w':=by
 have hsz:(prog.info? 367).map (·.size)=some 4:=by kernel_rfl
 by_cases he:t.err n=0
 · obtain⟨hm,h0,h1,h2⟩:=err_ok.1 he
   obtain⟨n,rfl⟩:∃m:Nat,n=m:=⟨n.toNat,by omega⟩;have Hof:=uh (fun W=>kof W t ht n);rw[he,layVal_ok he]at Hof;have Hsl:=uh (fun W=>lslots W t n he);have hsm:=slots_most hm (n:=n) (by omega);rw[he,if_pos rfl];clear he hm h0 h1 h2;obtain⟨k,m,mk⟩:=t;simp only[Int.toNat_natCast];unfold Ty.size;generalize Ty.slots ⟨k,m,mk⟩ n=sl at*;have T1:=(Turn.refl (Has.nil w)).alloc (.cells #[.int .u8 k,.int .i64 m,.int .u64 mk] 49);have HT1:=uh T1;clear T1;have ho1:(#[.int .u8 k,.int .i64 m,.int .u64 mk,.int .i64 n]:Array Value).all (·.oneCell')=true:=all_one (cs:=[.int .u8 k,.int .i64 m,.int .u64 mk,.int .i64 n]) (by simp[Value.oneCell'])
   go_enter func204,ntmps204
   go_wp2_with fail
   refine(Hof.out _).mono ?_;rintro e w1 ⟨rfl,hB1⟩;have T2:=(HT1.out.call hB1).alloc (.cells #[.int .u8 0,.int .i64 0,.int .u64 0,.int .i64 0] 367);have hth:(w1.alloc (.cells #[.int .u8 0,.int .i64 0,.int .u64 0,.int .i64 0] 367)).there w1.heap.size 0 4:=T2.there1;have T3:=T2.laid [.int .u8 k,.int .i64 m,.int .u64 mk,.int .i64 n] rfl;have hr3:=T3.range1;have HT3:=uh T3;clear T2 T3 hB1 HT1 Hof
   go_wp2_with (first
    | (show sW 367;refine wpList_store_mid rfl 367 _ _ rfl _ 0 #[.int .u8 k,.int .i64 m,.int .u64 mk,.int .i64 n] rfl rfl hth hsz ho1 ?_)
    | (show lW 367;refine wpList_load_mid rfl 367 _ rfl w1.heap.size 0 rfl [.int .u8 k,.int .i64 m,.int .u64 mk,.int .i64 n] _ hr3 underlying367 rfl hsz ?_)
    | (go_at_call 240;refine(Hsl.out _).mono ?_;rintro e w2 ⟨rfl,hB2⟩)
    | fail)
   refine bodyPost_ret (results_tmp2 rfl _ _ _) rfl ?_;exact⟨by rw[show(((sl+2)/2:Nat):Int)=((sl:Int)+2)/2 by omega];rfl,(HT3.out.call hB2).below⟩
 · skip
   have Hof:=uh (fun W=>kof W t ht n);have hz:layVal t n=.agg #[.int .u8 0,.int .i64 0,.int .u64 0,.int .i64 0]:=(by unfold layVal layCells;rw[if_neg he]);rw[hz]at Hof;rw[if_neg he];clear hz;generalize t.err n=er at*;obtain⟨k,m,mk⟩:=t;have T1:=(Turn.refl (Has.nil w)).alloc (.cells #[.int .u8 k,.int .i64 m,.int .u64 mk] 49);have HT1:=uh T1;clear T1;have ho1:(#[.int .u8 0,.int .i64 0,.int .u64 0,.int .i64 0]:Array Value).all (·.oneCell')=true:=all_one (cs:=[.int .u8 0,.int .i64 0,.int .u64 0,.int .i64 0]) (by simp[Value.oneCell'])
   go_enter func204,ntmps204
   go_wp2_with fail
   refine(Hof.out _).mono ?_;rintro e w1 ⟨rfl,hB1⟩;have T2:=(HT1.out.call hB1).alloc (.cells #[.int .u8 0,.int .i64 0,.int .u64 0,.int .i64 0] 367);have hth:(w1.alloc (.cells #[.int .u8 0,.int .i64 0,.int .u64 0,.int .i64 0] 367)).there w1.heap.size 0 4:=T2.there1;have T3:=T2.laid [.int .u8 0,.int .i64 0,.int .u64 0,.int .i64 0] rfl;have HT3:=uh T3;clear T2 T3 hB1 HT1 Hof
   go_wp2_with (first
    | (show sW 367;refine wpList_store_mid rfl 367 _ _ rfl _ 0 #[.int .u8 0,.int .i64 0,.int .u64 0,.int .i64 0] rfl rfl hth hsz ho1 ?_)
    | fail)
   refine bodyPost_ret (results_tmp2 rfl _ _ _) rfl ?_;exact⟨rfl,HT3.out.below⟩
theorem may_iff {t:Ty}(ht:TyIn t):t.may↔(1 <= t.kind /\ t.kind <= 4 /\ low t.kind <= t.words /\ t.words <= high t.kind) /\ ∀i,t.words.toNat <= i -> i<64 -> t.mask/2^i%2=0:=by
 unfold Ty.may;rw[mask_bits (n:=t.words.toNat) (by have:=ht.mask;omega)]
 constructor
 · rintro⟨a,b,c,d,e⟩
   exact⟨⟨a,b,c,d⟩,e⟩
 · rintro⟨⟨a,b,c,d⟩,e⟩
   exact⟨a,b,c,d,e⟩
theorem mask_tmod (m j:Nat):((m:Int)/2^j).tmod 2=((m/2^j%2:Nat):Int):=by rw[shift_nat,Int.tmod_eq_emod_of_nonneg (Int.natCast_nonneg _),Int.natCast_emod];rfl
theorem rmay (w:World)(t:Ty)(ht:TyIn t):Calls prog 69 #[tyVal t] w fun e w'=>e=.returned (.bool (decide t.may)) /\ Below w.heap.size w w':=by
 have hmay:=may_iff ht;obtain⟨k,n,m⟩:=t;obtain⟨h1,h2,h3,h4⟩:=ht;simp only at h1 h2 h3 h4 hmay;have T1:=(Turn.refl (Has.nil w)).alloc (.cells #[.int .u8 k,.int .i64 n,.int .u64 m] 49);have c0:=T1.cell1 0;have c1:=T1.cell1 1;have c2:=T1.cell1 2;have HT1:=uh T1.below;obtain⟨b,Hb⟩:∃b:Bool,Hid (b=decide (Ty.mk k n m).may):=⟨_,uh rfl⟩;rw[←Hb.out];have Hmay:=uh hmay;clear hmay T1;generalize hW:w.alloc (.cells #[.int .u8 k,.int .i64 n,.int .u64 m] 49)=W1 at*
 by_cases hok:1 <= k /\ k <= 4 /\ low k <= n /\ n <= high k
 · have hn64:0 <= n /\ n <= 64:=by
     unfold low high at hok
     split at hok<;>split at hok<;>omega
   have HK:(k=1 /\ 0 <= n /\ n <= 64)∨(k=3 /\ 1 <= n /\ n <= 16)∨(k=2 /\ n=0)∨(k=4 /\ n=0):=by
    have hk:k=1∨k=2∨k=3∨k=4:=(by omega);unfold low high at hok;rcases hk with rfl|rfl|rfl|rfl<;>simp at hok<;>omega
   have Hok:=uh hok;clear hok;subst hW;rcases HK with⟨rfl,a,b'⟩|⟨rfl,a,b'⟩|⟨rfl,rfl⟩|⟨rfl,rfl⟩
   · obtain⟨p,rfl⟩:∃p:Nat,n=p:=⟨n.toNat,by omega⟩
     have e1:decide ((p:Int)<0)=false:=decide_eq_false (by omega);have e2:decide ((64:Int)<(p:Int))=false:=decide_eq_false (by omega);have e5:¬(p:Int)<0:=(by omega);have e6:¬(64:Int)<(p:Int):=by omega
     go_enter func69,ntmps69
     go_wp2_with fail
     all_goals try(exfalso;omega)
     go_loopw [4] (fun v4 wr=>Below w.heap.size w wr /\ wr.cell? ⟨w.heap.size,2,none⟩=some (.int .u64 m) /\ ∃j:Nat,v4=.int .i64 j /\ p <= j /\ j <= 64 /\ ∀i,p <= i -> i<j -> m/2^i%2=0) (fun v4 _=>64-(intOf v4).toNat)
     case atStart=>exact⟨HT1.out,c2,p,rfl,Nat.le_refl _,by omega,fun i h5 h6=>by omega⟩
     case round=>
      obtain⟨hBr,cr2,j,rfl,hj1,hj2,hj3⟩:=hrel;have HBr:=uh hBr;clear hBr c0 c1 c2;have Hj:=uh hj3;clear hj3
      by_cases hlt:j<64
      · have hlt':(j:Int)<64:=by omega
        by_cases hb:m/2^j%2=1
        · have hsh:((m:Int)/2^j).tmod 2=1:=by rw[mask_tmod];omega
          go_wp2
          go_ret
          have hbv:b=false:=by
           rw[Hb.out];exact decide_eq_false (fun h=>by have h9:=(Hmay.out.1 h).2 j (by omega) hlt;omega)
          exact⟨by rw[hbv];rfl,HBr.out⟩
        · have hb0:m/2^j%2=0:=by omega
          have hsh:(((m:Int)/2^j).tmod 2 == 1)=false:=(by rw[mask_tmod,beq_eq_false_iff_ne];omega);have hsh2:¬((m:Int)/2^j).tmod 2=1:=(by rw[mask_tmod];omega);have hw:IntKind.i64.wrap ((j:Int)+1)=((j+1:Nat):Int):=(i64_in _ (by omega)).trans (by omega)
          go_wp2
          go_roundw
          case rel=>
           refine⟨HBr.out,cr2,j+1,by go_num,by omega,by omega,fun i h5 h6=>?_⟩
           by_cases h7:i=j
           ·rw[h7];exact hb0
           ·exact Hj.out i h5 (by omega)
          case measure=>simp[intOf];omega
      · obtain rfl:j=64:=by omega
        go_wp2
        go_ret
        have hbv:b=true:=by
         rw[Hb.out];exact decide_eq_true (Hmay.out.2 ⟨Hok.out,fun i h5 h6=>Hj.out i (by omega) h6⟩)
        exact⟨by rw[hbv];rfl,HBr.out⟩
   · obtain⟨p,rfl⟩:∃p:Nat,n=p:=⟨n.toNat,by omega⟩
     have e1:decide ((p:Int)<1)=false:=decide_eq_false (by omega);have e2:decide ((16:Int)<(p:Int))=false:=decide_eq_false (by omega);have e5:¬(p:Int)<1:=(by omega);have e6:¬(16:Int)<(p:Int):=by omega
     go_enter func69,ntmps69
     go_wp2_with fail
     all_goals try(exfalso;omega)
     go_loopw [4] (fun v4 wr=>Below w.heap.size w wr /\ wr.cell? ⟨w.heap.size,2,none⟩=some (.int .u64 m) /\ ∃j:Nat,v4=.int .i64 j /\ p <= j /\ j <= 64 /\ ∀i,p <= i -> i<j -> m/2^i%2=0) (fun v4 _=>64-(intOf v4).toNat)
     case atStart=>exact⟨HT1.out,c2,p,rfl,Nat.le_refl _,by omega,fun i h5 h6=>by omega⟩
     case round=>
      obtain⟨hBr,cr2,j,rfl,hj1,hj2,hj3⟩:=hrel;have HBr:=uh hBr;clear hBr c0 c1 c2;have Hj:=uh hj3;clear hj3
      by_cases hlt:j<64
      · have hlt':(j:Int)<64:=by omega
        by_cases hb:m/2^j%2=1
        · have hsh:((m:Int)/2^j).tmod 2=1:=by rw[mask_tmod];omega
          go_wp2
          go_ret
          have hbv:b=false:=by
           rw[Hb.out];exact decide_eq_false (fun h=>by have h9:=(Hmay.out.1 h).2 j (by omega) hlt;omega)
          exact⟨by rw[hbv];rfl,HBr.out⟩
        · have hb0:m/2^j%2=0:=by omega
          have hsh:(((m:Int)/2^j).tmod 2 == 1)=false:=(by rw[mask_tmod,beq_eq_false_iff_ne];omega);have hsh2:¬((m:Int)/2^j).tmod 2=1:=(by rw[mask_tmod];omega);have hw:IntKind.i64.wrap ((j:Int)+1)=((j+1:Nat):Int):=(i64_in _ (by omega)).trans (by omega)
          go_wp2
          go_roundw
          case rel=>
           refine⟨HBr.out,cr2,j+1,by go_num,by omega,by omega,fun i h5 h6=>?_⟩
           by_cases h7:i=j
           ·rw[h7];exact hb0
           ·exact Hj.out i h5 (by omega)
          case measure=>simp[intOf];omega
      · obtain rfl:j=64:=by omega
        go_wp2
        go_ret
        have hbv:b=true:=by
         rw[Hb.out];exact decide_eq_true (Hmay.out.2 ⟨Hok.out,fun i h5 h6=>Hj.out i (by omega) h6⟩)
        exact⟨by rw[hbv];rfl,HBr.out⟩
   · go_enter func69,ntmps69
     go_wp2_with fail
     go_loopw [4] (fun v4 wr=>Below w.heap.size w wr /\ wr.cell? ⟨w.heap.size,2,none⟩=some (.int .u64 m) /\ ∃j:Nat,v4=.int .i64 j /\ 0 <= j /\ j <= 64 /\ ∀i,0 <= i -> i<j -> m/2^i%2=0) (fun v4 _=>64-(intOf v4).toNat)
     case atStart=>exact⟨HT1.out,c2,0,rfl,Nat.le_refl _,by omega,fun i h5 h6=>by omega⟩
     case round=>
      obtain⟨hBr,cr2,j,rfl,hj1,hj2,hj3⟩:=hrel;have HBr:=uh hBr;clear hBr c0 c1 c2;have Hj:=uh hj3;clear hj3
      by_cases hlt:j<64
      · have hlt':(j:Int)<64:=by omega
        by_cases hb:m/2^j%2=1
        · have hsh:((m:Int)/2^j).tmod 2=1:=by rw[mask_tmod];omega
          go_wp2
          go_ret
          have hbv:b=false:=by
           rw[Hb.out];exact decide_eq_false (fun h=>by have h9:=(Hmay.out.1 h).2 j (by omega) hlt;omega)
          exact⟨by rw[hbv];rfl,HBr.out⟩
        · have hb0:m/2^j%2=0:=by omega
          have hsh:(((m:Int)/2^j).tmod 2 == 1)=false:=(by rw[mask_tmod,beq_eq_false_iff_ne];omega);have hsh2:¬((m:Int)/2^j).tmod 2=1:=(by rw[mask_tmod];omega);have hw:IntKind.i64.wrap ((j:Int)+1)=((j+1:Nat):Int):=(i64_in _ (by omega)).trans (by omega)
          go_wp2
          go_roundw
          case rel=>
           refine⟨HBr.out,cr2,j+1,by go_num,by omega,by omega,fun i h5 h6=>?_⟩
           by_cases h7:i=j
           ·rw[h7];exact hb0
           ·exact Hj.out i h5 (by omega)
          case measure=>simp[intOf];omega
      · obtain rfl:j=64:=by omega
        go_wp2
        go_ret
        have hbv:b=true:=by
         rw[Hb.out];exact decide_eq_true (Hmay.out.2 ⟨Hok.out,fun i h5 h6=>Hj.out i (by omega) h6⟩)
        exact⟨by rw[hbv];rfl,HBr.out⟩
   · go_enter func69,ntmps69
     go_wp2_with fail
     go_loopw [4] (fun v4 wr=>Below w.heap.size w wr /\ wr.cell? ⟨w.heap.size,2,none⟩=some (.int .u64 m) /\ ∃j:Nat,v4=.int .i64 j /\ 0 <= j /\ j <= 64 /\ ∀i,0 <= i -> i<j -> m/2^i%2=0) (fun v4 _=>64-(intOf v4).toNat)
     case atStart=>exact⟨HT1.out,c2,0,rfl,Nat.le_refl _,by omega,fun i h5 h6=>by omega⟩
     case round=>
      obtain⟨hBr,cr2,j,rfl,hj1,hj2,hj3⟩:=hrel;have HBr:=uh hBr;clear hBr c0 c1 c2;have Hj:=uh hj3;clear hj3
      by_cases hlt:j<64
      · have hlt':(j:Int)<64:=by omega
        by_cases hb:m/2^j%2=1
        · have hsh:((m:Int)/2^j).tmod 2=1:=by rw[mask_tmod];omega
          go_wp2
          go_ret
          have hbv:b=false:=by
           rw[Hb.out];exact decide_eq_false (fun h=>by have h9:=(Hmay.out.1 h).2 j (by omega) hlt;omega)
          exact⟨by rw[hbv];rfl,HBr.out⟩
        · have hb0:m/2^j%2=0:=by omega
          have hsh:(((m:Int)/2^j).tmod 2 == 1)=false:=(by rw[mask_tmod,beq_eq_false_iff_ne];omega);have hsh2:¬((m:Int)/2^j).tmod 2=1:=(by rw[mask_tmod];omega);have hw:IntKind.i64.wrap ((j:Int)+1)=((j+1:Nat):Int):=(i64_in _ (by omega)).trans (by omega)
          go_wp2
          go_roundw
          case rel=>
           refine⟨HBr.out,cr2,j+1,by go_num,by omega,by omega,fun i h5 h6=>?_⟩
           by_cases h7:i=j
           ·rw[h7];exact hb0
           ·exact Hj.out i h5 (by omega)
          case measure=>simp[intOf];omega
      · obtain rfl:j=64:=by omega
        go_wp2
        go_ret
        have hbv:b=true:=by
         rw[Hb.out];exact decide_eq_true (Hmay.out.2 ⟨Hok.out,fun i h5 h6=>Hj.out i (by omega) h6⟩)
        exact⟨by rw[hbv];rfl,HBr.out⟩
 · have hbf:b=false:=by rw[Hb.out,decide_eq_false (fun h=>hok (Hmay.out.1 h).1)]
   rw[hbf]
   have hno:¬(k=1 /\ 0 <= n /\ n <= 64) /\ ¬(k=3 /\ 1 <= n /\ n <= 16) /\ ¬(k=2 /\ n=0) /\ ¬(k=4 /\ n=0):=by
    refine⟨?_,?_,?_,?_⟩<;>rintro⟨rfl,h⟩<;>apply hok<;>simp[low,high]<;>omega
   clear Hb hok Hmay;subst hW
   go_enter func69,ntmps69
   by_cases k1:k=1
   · subst k1
     have hc:n<0∨64<n:=(by omega);rcases hc with hc|hc
     all_goals
      have hc2:¬(n<0)∨n<0:=by omega
      go_wp2
      go_ret;exact⟨rfl,HT1.out⟩
   by_cases k3:k=3
   · subst k3
     have hc:n<1∨1 <= n /\ 16<n:=(by omega);rcases hc with hc|hc
     · go_wp2
       go_ret;exact⟨rfl,HT1.out⟩
     · have hc0:¬n<1:=by omega
       have hc1:n > 16:=hc.2;clear hc
       go_wp2
       go_ret;exact⟨rfl,HT1.out⟩
   by_cases k2:k=2
   · subst k2
     have hc:¬n=0:=by omega
     go_wp2
     go_ret;exact⟨rfl,HT1.out⟩
   by_cases k4:k=4
   · subst k4
     have hc:¬n=0:=by omega
     go_wp2
     go_ret;exact⟨rfl,HT1.out⟩
   · have q1:¬(k:Int)=1:=by omega
     have q2:¬(k:Int)=2:=(by omega);have q3:¬(k:Int)=3:=(by omega);have q4:¬(k:Int)=4:=(by omega);clear k1 k2 k3 k4
     go_wp2
     go_ret;exact⟨rfl,HT1.out⟩
theorem tb_mod (m j:Nat):(((m:Int)/2^j).tmod 2 == 1)=m.testBit j:=by
 rw[mask_tmod,Nat.testBit_eq_decide_div_mod_eq]
 by_cases h:m/2^j%2=1
 ·rw[h];rfl
 · have h0:m/2^j%2=0:=by omega
   rw[h0];rfl
theorem tb_and {m:Nat}(hm:m<18446744073709551616)(j:Nat):(bits .and .u64 ((m:Int)/2^j) 1 == 1)=m.testBit j:=by
 have h:=u64_and_nat (m/2^j) 1 (Nat.lt_of_le_of_lt (Nat.div_le_self _ _) hm) (by omega);rw[show((1:Nat):Int)=1 from rfl]at h;rw[shift_nat,h,Nat.and_one_is_mod,Nat.testBit_eq_decide_div_mod_eq]
 by_cases h:m/2^j%2=1
 ·rw[h];rfl
 · have h0:m/2^j%2=0:=by omega
   rw[h0];rfl
theorem mask_small {t:Ty}(hm:t.may):t.mask<18446744073709551616:=by
 obtain⟨h1,h2,h3,h4,h5⟩:=hm
 have h6:t.words.toNat <= 64:=by
  unfold high at h4
  split at h4
  ·omega
  ·split at h4<;>omega
 exact Nat.lt_of_lt_of_le h5 (Nat.pow_le_pow_right (by omega) h6)
theorem mask_raw {t:Ty}(hm:t.may)(hk:t.kind=4):t.mask=0:=by
 obtain⟨h1,h2,h3,h4,h5⟩:=hm;unfold high at h4;rw[hk]at h4;simp at h4;rw[show t.words.toNat=0 by omega]at h5;omega
theorem ris (w:World)(t:Ty)(hm:t.may)(s:Nat)(hs:s <= 65536)(h1:t.kind=1 -> s<64):Calls prog 70 #[tyVal t,.int .i64 s] w fun e w'=>e=.returned (.bool (t.ref s)) /\ Below w.heap.size w w':=by
 obtain⟨k,n,m⟩:=t;have hk:=hm.1;have hk4:=hm.2.1;have hlow:=hm.2.2.1;have hhigh:=hm.2.2.2.1;simp only at hk hk4 hlow hhigh h1;have T1:=(Turn.refl (Has.nil w)).alloc (.cells #[.int .u8 k,.int .i64 n,.int .u64 m] 49);have c0:=T1.cell1 0;have c1:=T1.cell1 1;have c2:=T1.cell1 2;have HT1:=uh T1.below;have htb:=uh (tb_mod m);clear T1 hm;have hk':k=1∨k=2∨k=3∨k=4:=by omega
 rcases hk' with rfl|rfl|rfl|rfl
 · have hs64:=h1 rfl
   have he:(Ty.mk 1 n m).ref s=m.testBit s:=rfl;rw[he,←htb.out];clear he htb hlow hhigh
   go_enter func70,ntmps70
   go_wp2
   go_ret;exact⟨rfl,HT1.out⟩
 · have he:(Ty.mk 2 n m).ref s=true:=rfl
   rw[he];clear he htb hlow hhigh
   go_enter func70,ntmps70
   go_wp2
   go_ret;exact⟨rfl,HT1.out⟩
 · obtain⟨p,rfl⟩:∃p:Nat,n=p:=⟨n.toNat,by simp[low]at hlow;omega⟩
   have hp:1 <= p /\ p <= 16:=(by simp[low]at hlow;simp[high]at hhigh;omega);have he:(Ty.mk 3 p m).ref s=m.testBit (s%p):=rfl;rw[he,←htb.out];have hmod:((s:Int)).tmod (p:Int)=((s%p:Nat):Int):=(by rw[Int.tmod_eq_emod_of_nonneg (by omega),Int.natCast_emod]);have hp0:¬(p:Int)=0:=(by omega);have hsp:s%p<p:=Nat.mod_lt _ (by omega);clear he htb hlow hhigh;generalize s%p=q at*
   go_enter func70,ntmps70
   go_wp2_with fail
   go_region
   go_wp2
   go_ret;exact⟨rfl,HT1.out.drew⟩
 · have he:(Ty.mk 4 n m).ref s=false:=rfl
   rw[he];clear he htb hlow hhigh
   go_enter func70,ntmps70
   go_wp2
   go_ret;exact⟨rfl,HT1.out⟩
theorem lref (w:World)(t:Ty)(n:Nat)(hm:t.may)(s:Nat)(hs:s <= 65536)(h1:t.kind=1 -> s<64):Calls prog 247 #[layAgg t n,.int .i64 s] w fun e w'=>e=.returned (.bool (t.ref s)) /\ Below w.heap.size w w':=by
 obtain⟨k,x,m⟩:=t;have hk:=hm.1;have hmk:=mask_small hm;have hraw:=mask_raw hm;simp only at hmk hraw;have hk4:=hm.2.1;have hlow:=hm.2.2.1;have hhigh:=hm.2.2.2.1;simp only at hk hk4 hlow hhigh h1;have T1:=(Turn.refl (Has.nil w)).alloc (.cells #[.int .u8 k,.int .i64 x,.int .u64 m,.int .i64 n] 367);have c0:=T1.cell1 0;have c1:=T1.cell1 1;have c2:=T1.cell1 2;have c3:=T1.cell1 3;have HT1:=uh T1.below;have htb:=uh (tb_and hmk);clear T1 hm;have hk':k=1∨k=2∨k=3∨k=4:=by omega
 rcases hk' with rfl|rfl|rfl|rfl
 · have hs64:=h1 rfl
   have he:(Ty.mk 1 x m).ref s=m.testBit s:=rfl;rw[he,←htb.out];clear he hlow hhigh htb
   go_enter func247,ntmps247
   go_wp2
   go_ret;exact⟨rfl,HT1.out⟩
 · have he:(Ty.mk 2 x m).ref s=true:=rfl
   rw[he];clear he hlow hhigh htb
   go_enter func247,ntmps247
   go_wp2
   go_ret;exact⟨rfl,HT1.out⟩
 · obtain⟨p,rfl⟩:∃p:Nat,x=p:=⟨x.toNat,by simp[low]at hlow;omega⟩
   have hp:1 <= p /\ p <= 16:=(by simp[low]at hlow;simp[high]at hhigh;omega);have he:(Ty.mk 3 p m).ref s=m.testBit (s%p):=rfl;rw[he,←htb.out];have hmod:((s:Int)).tmod (p:Int)=((s%p:Nat):Int):=(by rw[Int.tmod_eq_emod_of_nonneg (by omega),Int.natCast_emod]);have hmod2:((s:Int))%(p:Int)=((s%p:Nat):Int):=(by rw[Int.natCast_emod]);have hp0:¬(p:Int)=0:=(by omega);have hsp:s%p<p:=Nat.mod_lt _ (by omega);clear he hlow hhigh htb;generalize s%p=q at*
   go_enter func247,ntmps247
   go_wp2
   go_ret;exact⟨rfl,HT1.out⟩
 · obtain rfl:=hraw rfl
   have he:(Ty.mk 4 x 0).ref s=false:=rfl;rw[he];have hz:=htb.out s;rw[Nat.zero_testBit]at hz;clear he hlow hhigh htb
   by_cases hs64:s<64
   · go_enter func247,ntmps247
     go_wp2
     go_ret;refine⟨?_,HT1.out⟩
     first|rfl|(rw[←hz];rfl)|(simp at hz ⊢;exact hz)
   · go_enter func247,ntmps247
     go_wp2
     go_ret;refine⟨?_,HT1.out⟩
     first|rfl|(rw[←hz];rfl)|(simp at hz ⊢;exact hz)
theorem err_two {t:Ty}{n:Int}(h:¬t.may∨n<0∨t.kind=1 /\ n≠0):t.err n=2:=by unfold Ty.err;rw[if_pos h]
theorem err_five {t:Ty}{n:Int}(hm:t.may)(hn:4096<n)(hk:¬(t.kind=1 /\ n≠0)):t.err n=5:=by
 unfold Ty.err;rw[if_neg (fun h=>by rcases h with h|h|h;exact h hm;omega;exact hk h),if_pos hn]
theorem err_zero {t:Ty}{n:Int}(hm:t.may)(h0:0 <= n)(hn:n <= 4096)(hk:¬(t.kind=1 /\ n≠0)):t.err n=0:=by
 unfold Ty.err;rw[if_neg (fun h=>by rcases h with h|h|h;exact h hm;omega;exact hk h),if_neg (by omega)]
theorem rslots (w:World)(t:Ty)(ht:TyIn t)(n:Int):
  Calls prog 19 #[tyVal t,.int .i64 n] w fun e w'=>e=.returned (.tuple #[.int .i64 (if t.err n=0 then((t.slots n.toNat:Nat):Int)else 0),.int .i64 (t.err n)]) /\ Below w.heap.size w w':=by
 have Hck:=uh (fun W=>rmay W t ht);have T1:=(Turn.refl (Has.nil w)).alloc (.cells #[.int .u8 t.kind,.int .i64 t.words,.int .u64 t.mask] 49);have HT1:=uh T1;clear T1
 by_cases hm:t.may
 · rw[decide_eq_true hm]at Hck
   by_cases hA:n<0
   · rw[err_two (.inr (.inl hA))]
     obtain⟨k,m,mk⟩:=t;have e1:decide (n<0)=true:=decide_eq_true hA
     go_enter func19,ntmps19
     go_wp2_with fail
     refine(Hck.out _).mono ?_;rintro e w2 ⟨rfl,hB2⟩;have T2:=HT1.out.call hB2;have c0:=T2.cell1 0;have c1:=T2.cell1 1;have HT2:=uh T2.below;clear T2 hB2 HT1 Hck
     go_wp2
     refine bodyPost_ret (results_tmp2 rfl _ _ _) rfl ?_;exact⟨rfl,HT2.out⟩
   have e1:decide (n<0)=false:=decide_eq_false hA
   by_cases hB:t.kind=1 /\ n≠0
   · rw[err_two (.inr (.inr hB))]
     obtain⟨k,m,mk⟩:=t;obtain⟨rfl,hB⟩:=hB;have e2:(n != 0)=true:=by simpa using hB
     go_enter func19,ntmps19
     go_wp2_with fail
     refine(Hck.out _).mono ?_;rintro e w2 ⟨rfl,hB2⟩;have T2:=HT1.out.call hB2;have c0:=T2.cell1 0;have c1:=T2.cell1 1;have HT2:=uh T2.below;clear T2 hB2 HT1 Hck
     go_wp2
     refine bodyPost_ret (results_tmp2 rfl _ _ _) rfl ?_;exact⟨rfl,HT2.out⟩
   by_cases hC:4096<n
   · rw[err_five hm hC hB]
     obtain⟨k,m,mk⟩:=t;have hk:¬(k:Int)=1:=fun h=>hB ⟨by simp only;omega,by omega⟩;have hk2:((k:Int) == 1)=false:=(by simpa using hk);clear hB
     go_enter func19,ntmps19
     go_wp2_with fail
     refine(Hck.out _).mono ?_;rintro e w2 ⟨rfl,hB2⟩;have T2:=HT1.out.call hB2;have c0:=T2.cell1 0;have c1:=T2.cell1 1;have HT2:=uh T2.below;clear T2 hB2 HT1 Hck
     go_wp2
     refine bodyPost_ret (results_tmp2 rfl _ _ _) rfl ?_;exact⟨rfl,HT2.out⟩
   rw[err_zero hm (by omega) (by omega) hB,if_pos rfl];obtain⟨q,rfl⟩:∃q:Nat,n=q:=⟨n.toNat,by omega⟩;have hsm:=slots_most hm (n:=q) (by omega);obtain⟨k,m,mk⟩:=t;have hk1:=hm.1;have hk4:=hm.2.1;have hlow:=hm.2.2.1;have hhigh:=hm.2.2.2.1;simp only at hk1 hk4 hlow hhigh hB;have hk':k=1∨k=2∨k=3∨k=4:=(by omega);clear hm;simp only[Int.toNat_natCast];rcases hk' with rfl|rfl|rfl|rfl
   · obtain rfl:q=0:=by omega
     obtain⟨p,rfl⟩:∃p:Nat,m=p:=⟨m.toNat,by simp[low]at hlow;omega⟩;have hs:(Ty.mk 1 p mk).slots 0=p:=rfl;rw[hs];clear hs hB hlow hhigh hsm
     go_enter func19,ntmps19
     go_wp2_with fail
     refine(Hck.out _).mono ?_;rintro e w2 ⟨rfl,hB2⟩;have T2:=HT1.out.call hB2;have c0:=T2.cell1 0;have c1:=T2.cell1 1;have HT2:=uh T2.below;clear T2 hB2 HT1 Hck
     go_wp2
     refine bodyPost_ret (results_tmp2 rfl _ _ _) rfl ?_;exact⟨rfl,HT2.out⟩
   · have hs:(Ty.mk 2 m mk).slots q=q:=rfl
     rw[hs];clear hs hB hlow hhigh hsm
     go_enter func19,ntmps19
     go_wp2_with fail
     refine(Hck.out _).mono ?_;rintro e w2 ⟨rfl,hB2⟩;have T2:=HT1.out.call hB2;have c0:=T2.cell1 0;have c1:=T2.cell1 1;have HT2:=uh T2.below;clear T2 hB2 HT1 Hck
     go_wp2
     refine bodyPost_ret (results_tmp2 rfl _ _ _) rfl ?_;exact⟨rfl,HT2.out⟩
   · obtain⟨p,rfl⟩:∃p:Nat,m=p:=⟨m.toNat,by simp[low]at hlow;omega⟩
     have hs:(Ty.mk 3 p mk).slots q=q*p:=rfl;rw[hs]at hsm ⊢;have hw:IntKind.i64.wrap ((q:Int)*(p:Int))=((q*p:Nat):Int):=(by rw[←Int.natCast_mul];exact i64_in _ (by omega));clear hs hB hlow hhigh;generalize q*p=z at*
     go_enter func19,ntmps19
     go_wp2_with fail
     refine(Hck.out _).mono ?_;rintro e w2 ⟨rfl,hB2⟩;have T2:=HT1.out.call hB2;have c0:=T2.cell1 0;have c1:=T2.cell1 1;have HT2:=uh T2.below;clear T2 hB2 HT1 Hck
     go_wp2
     refine bodyPost_ret (results_tmp2 rfl _ _ _) rfl ?_;exact⟨rfl,HT2.out⟩
   · have hs:(Ty.mk 4 m mk).slots q=q:=rfl
     rw[hs];clear hs hB hlow hhigh hsm
     go_enter func19,ntmps19
     go_wp2_with fail
     refine(Hck.out _).mono ?_;rintro e w2 ⟨rfl,hB2⟩;have T2:=HT1.out.call hB2;have c0:=T2.cell1 0;have c1:=T2.cell1 1;have HT2:=uh T2.below;clear T2 hB2 HT1 Hck
     go_wp2
     refine bodyPost_ret (results_tmp2 rfl _ _ _) rfl ?_;exact⟨rfl,HT2.out⟩
 · rw[decide_eq_false hm]at Hck
   rw[err_two (.inl hm)];obtain⟨k,m,mk⟩:=t
   go_enter func19,ntmps19
   go_wp2_with fail
   refine(Hck.out _).mono ?_;rintro e w2 ⟨rfl,hB2⟩;have T2:=HT1.out.call hB2;have c0:=T2.cell1 0;have c1:=T2.cell1 1;have HT2:=uh T2.below;clear T2 hB2 HT1 Hck
   go_wp2
   refine bodyPost_ret (results_tmp2 rfl _ _ _) rfl ?_;exact⟨rfl,HT2.out⟩
theorem rsize (w:World)(t:Ty)(ht:TyIn t)(n:Int):
  Calls prog 18 #[tyVal t,.int .i64 n] w fun e w'=>e=.returned (.tuple #[.int .i64 (if t.err n=0 then((t.size n.toNat:Nat):Int)else 0),.int .i64 (t.err n)]) /\ Below w.heap.size w w':=by
 have Hsl:=uh (fun W=>rslots W t ht n);have T1:=(Turn.refl (Has.nil w)).alloc (.cells #[.int .u8 t.kind,.int .i64 t.words,.int .u64 t.mask] 49);have HT1:=uh T1;clear T1
 by_cases he:t.err n=0
 · obtain⟨hm,h0,hn,-⟩:=err_ok.1 he
   obtain⟨q,rfl⟩:∃q:Nat,n=q:=⟨n.toNat,by omega⟩;have hsm:=slots_most hm (n:=q) (by omega);rw[he]at Hsl ⊢;simp only[if_true,Int.toNat_natCast]at Hsl ⊢;unfold Ty.size;generalize t.slots q=s at*;obtain⟨z,Hz⟩:∃z:Nat,Hid (z=(s+2)/2):=⟨_,uh rfl⟩;rw[←Hz.out];clear he hm hn ht;obtain⟨k,m,mk⟩:=t
   go_enter func18,ntmps18
   go_wp2_with fail
   refine(Hsl.out _).mono ?_;rintro e w2 ⟨rfl,hB2⟩;have HT2:=uh (HT1.out.call hB2).below;clear hB2 HT1 Hsl
   go_wp2_with fail
   go_loopw [8] (fun v8 wr=>wr=w2 /\ ∃g:Nat,v8=.int .i64 g /\ g <= s+1 /\ ∀j,j<g -> j*2<s+1) (fun v8 _=>s+2-(intOf v8).toNat)
   case atStart=>exact⟨rfl,0,rfl,Nat.zero_le _,fun j h=>by omega⟩
   case round=>
    obtain⟨rfl,g,rfl,hg,hj⟩:=hrel;have Hj:=uh hj;clear hj
    by_cases hlt:g*2<s+1
    · have hlt':(g:Int)*2<(s:Int)+1:=by omega
      go_wp2
      go_roundw
      case rel=>
       refine⟨by first|trivial|rfl,g+1,by go_num,by omega,fun j h5=>?_⟩
       by_cases h7:j=g
       ·rw[h7];exact hlt
       ·exact Hj.out j (by omega)
      case measure=>simp[intOf];omega
    · have hlt':¬(g:Int)*2<(s:Int)+1:=by omega
      have Hgs:=uh (size_least s g hlt Hj.out)
      go_wp2
      refine bodyPost_ret (results_tmp2 rfl _ _ _) rfl ?_;exact⟨by rw[Hz.out,←Hgs.out];rfl,HT2.out⟩
 · rw[if_neg he]at Hsl ⊢
   generalize t.err n=er at*;obtain⟨k,m,mk⟩:=t
   go_enter func18,ntmps18
   go_wp2_with fail
   refine(Hsl.out _).mono ?_;rintro e w2 ⟨rfl,hB2⟩;have HT2:=uh (HT1.out.call hB2).below;clear hB2 HT1 Hsl
   go_wp2
   refine bodyPost_ret (results_tmp2 rfl _ _ _) rfl ?_;exact⟨rfl,HT2.out⟩
theorem el_int:Elem prog 38 3 1 8 (.int .i64 0):=Elem.of underlying38 (by kernel_rfl) rfl
def nats (l:List Nat):List Value:=l.map fun n=>.int .i64 (n:Nat)
theorem nats_append (a b:List Nat):nats (a++b)=nats a++nats b:=by simp[nats]
theorem nats_length (a:List Nat):(nats a).length=a.length:=by simp[nats]
def refsTo (t:Ty)(j:Nat):List Nat:=(List.range j).filter t.ref
theorem refsTo_succ (t:Ty)(j:Nat):refsTo t (j+1)=refsTo t j++if t.ref j=true then [j]else []:=by
 unfold refsTo;rw[List.range_succ,List.filter_append]
 congr 1
 by_cases h:t.ref j=true
 ·rw[if_pos h,List.filter_cons_of_pos h];rfl
 ·rw[if_neg h,List.filter_cons_of_neg h];rfl
theorem refsTo_len (t:Ty)(j:Nat):(refsTo t j).length <= j:=by
 unfold refsTo;refine Nat.le_trans (List.length_filter_le ..) ?_;rw[List.length_range];exact Nat.le_refl _
theorem slots_kind {t:Ty}(hm:t.may)(n:Nat)(hk:t.kind=1):t.slots n <= 64:=by
 obtain⟨-,-,h1,h2,-⟩:=hm;unfold Ty.slots;unfold high at h2;rw[if_pos hk]at h2 ⊢;omega
theorem rrefs (w:World)(t:Ty)(ht:TyIn t)(n:Nat)(he:t.err n=0):
  Calls prog 20 #[tyVal t,.int .i64 n] w fun e w'=>∃ao cap l,e=.returned (.tuple #[.slice ao (t.refs n).length cap,.int .i64 0]) /\ Row 3 1 ao (t.refs n).length cap (nats (t.refs n)) l /\ Turn [] w l w':=by
 have Hsl:=uh (fun W=>rslots W t ht n);obtain⟨hm,h0,hn,-⟩:=err_ok.1 he;have hsm:=slots_most hm (n:=n) (by omega);have hs1:=slots_kind hm n;have His:=uh (fun W s hs h1=>ris W t hm s hs h1);have hE:t.refs n=refsTo t (t.slots n):=rfl;rw[hE];rw[he]at Hsl;simp only[if_true,Int.toNat_natCast]at Hsl;generalize t.slots n=sl at*;have T1:=(Turn.refl (Has.nil w)).alloc (.cells #[.int .u8 t.kind,.int .i64 t.words,.int .u64 t.mask] 49);have HT1:=uh T1;have Href:=uh (refsTo_succ t);have Hlen:=uh (refsTo_len t);generalize hR:refsTo t=R at*;have H64:=uh hs1;have hr0:R 0=[]:=by rw[←hR];rfl
 generalize hrf:t.ref=rf at*;clear T1 he hm h0 hn hE hR ht hs1 hrf;obtain⟨k,m,mk⟩:=t
 go_enter func20,ntmps20
 go_wp2_with fail
 refine(Hsl.out _).mono ?_;rintro e w2 ⟨rfl,hB2⟩;have HT2:=uh (HT1.out.call hB2);clear hB2 HT1 Hsl
 go_wp2_with fail
 go_loopw [8,9] (fun v8 v9 wr=>∃(j:Nat) (a8:Option Addr) (p8:Nat) (lr:List Blk),j <= sl /\ v9=.int .i64 j /\ v8=.slice a8 (R j).length p8 /\ Row 3 1 a8 (R j).length p8 (nats (R j)) lr /\ Turn [] w (lr++[(w.heap.size,.cells #[.int .u8 k,.int .i64 m,.int .u64 mk] 49)]) wr) (fun _ v9 _=>sl-(intOf v9).toNat)
 case atStart=>exact⟨0,none,0,[],Nat.zero_le _,rfl,by rw[hr0];rfl,by rw[hr0];exact Row.nil _ _,HT2.out⟩
 case round=>
  obtain⟨j,a8,p8,lr,hj,rfl,rfl,hr8,V⟩:=hrel
  by_cases hlt:j<sl
  · have hlt':(j:Int)<(sl:Int):=by omega
    have hbx:=V.has.cell (b:=w.heap.size) (c:=#[.int .u8 k,.int .i64 m,.int .u64 mk]) (e:=49) (f:=(0,0)) (by simp);have d0:wr.cell? ⟨w.heap.size,0,none⟩=some (.int .u8 k):=hbx 0;have d1:wr.cell? ⟨w.heap.size,1,none⟩=some (.int .i64 m):=hbx 1;have d2:wr.cell? ⟨w.heap.size,2,none⟩=some (.int .u64 mk):=hbx 2;have hi:=uh (His.out wr j (by omega) (fun hk=>by have:=H64.out hk;omega));have HV:=uh V;have Hr8:=uh hr8;have hle:=Hlen.out j;have Hj1:=uh (Href.out j);have h63:(R j).length+1 <= maxLen:=(by unfold maxLen;omega);clear hbx V hr8
    by_cases hb:rf j=true
    · rw[hb]at hi
      rw[if_pos hb]at Hj1;have hb2:((R j).length+1)*8 <= 140737488355328:=by omega
      go_wp2_with (first
       | (go_at_call 70;refine hi.out.mono ?_;rintro e w3 ⟨rfl,hB3⟩;have T3:=uh ((HV.out.call hB3).alloc (.cells #[.int .i64 j] 3));clear hB3)
       | (at_builtin;refine wpList_append_row rfl _ _ rfl el_int rfl Hr8.out (R:=[(w3.heap.size,.cells #[.int .i64 j] 3),(w.heap.size,.cells #[.int .u8 k,.int .i64 m,.int .u64 mk] 49)]) (T3.out.perm po).has rfl (news:=[.int .i64 j]) rfl (news_of (heap_alloc_new _ _)) (by simp[Value.oneCell']) h63 hb2 ?_;intro a9 p9 l9 w4 hr9 V4 hno;have V5:=uh ((T3.out.perm (l2:=lr++[(w3.heap.size,.cells #[.int .i64 j] 3),(w.heap.size,.cells #[.int .u8 k,.int .i64 m,.int .u64 mk] 49)]) po).trans V4);have Hr9:=uh hr9;clear hr9 V4 hno)
       | fail)
      go_roundw
      case rel=>
       have hl1:(R (j+1)).length=(R j).length+1:=(by rw[Hj1.out];simp);refine⟨j+1,a9,p9,l9,by omega,by go_num,by rw[hl1],?_,(V5.out.perm (l2:=(w3.heap.size,.cells #[.int .i64 j] 3)::(l9++[(w.heap.size,.cells #[.int .u8 k,.int .i64 m,.int .u64 mk] 49)])) po).tail⟩;rw[hl1,Hj1.out,nats_append];exact Hr9.out
      case measure=>simp[intOf];omega
    · rw[if_neg hb,List.append_nil]at Hj1
      have hbf:rf j=false:=(by simpa using hb);rw[hbf]at hi
      go_wp2_with (first
       | (go_at_call 70;refine hi.out.mono ?_;rintro e w3 ⟨rfl,hB3⟩;have T3:=uh (HV.out.call hB3);clear hB3)
       | fail)
      go_roundw
      case rel=>exact⟨j+1,a8,p8,lr,by omega,by go_num,by rw[Hj1.out],by rw[Hj1.out];exact Hr8.out,T3.out⟩
      case measure=>simp[intOf];omega
  · obtain rfl:j=sl:=by omega
    have HV:=uh V;have Hr8:=uh hr8;clear V hr8
    go_wp2
    refine bodyPost_ret (results_tmp2 rfl _ _ _) rfl ?_;exact⟨a8,p8,lr,rfl,Hr8.out,HV.out.sub (List.sublist_append_left lr _)⟩
theorem krefs (w:World)(t:Ty)(ht:TyIn t)(n:Nat)(he:t.err n=0):
  Calls prog 218 #[tyVal t,.int .i64 n] w fun e w'=>∃ao cap l,e=.returned (.tuple #[.slice ao (t.refs n).length cap,.int .i64 0]) /\ Row 3 1 ao (t.refs n).length cap (nats (t.refs n)) l /\ Turn [] w l w':=by
 have hsz:(prog.info? 367).map (·.size)=some 4:=by kernel_rfl
 have Hof:=uh (fun W=>kof W t ht n);rw[he,layVal_ok he]at Hof;have Hsl:=uh (fun W=>lslots W t n he);obtain⟨hm,h0,hn,-⟩:=err_ok.1 he;have hsm:=slots_most hm (n:=n) (by omega);have hs1:=slots_kind hm n;have His:=uh (fun W s hs h1=>lref W t n hm s hs h1);have hE:t.refs n=refsTo t (t.slots n):=rfl;rw[hE];generalize t.slots n=sl at*;have T1:=(Turn.refl (Has.nil w)).alloc (.cells #[.int .u8 t.kind,.int .i64 t.words,.int .u64 t.mask] 49);have HT1:=uh T1;have Href:=uh (refsTo_succ t);have Hlen:=uh (refsTo_len t);generalize hR:refsTo t=R at*;have H64:=uh hs1;have hr0:R 0=[]:=by rw[←hR];rfl
 generalize hrf:t.ref=rf at*;clear T1 he hm h0 hn hE hR ht hs1 hrf;obtain⟨k,m,mk⟩:=t;have ho1:(#[.int .u8 k,.int .i64 m,.int .u64 mk,.int .i64 n]:Array Value).all (·.oneCell')=true:=all_one (cs:=[.int .u8 k,.int .i64 m,.int .u64 mk,.int .i64 n]) (by simp[Value.oneCell'])
 go_enter func218,ntmps218
 go_wp2_with fail
 refine(Hof.out _).mono ?_;rintro e w1 ⟨rfl,hB1⟩;have T2:=(HT1.out.call hB1).alloc (.cells #[.int .u8 0,.int .i64 0,.int .u64 0,.int .i64 0] 367);have hth:(w1.alloc (.cells #[.int .u8 0,.int .i64 0,.int .u64 0,.int .i64 0] 367)).there w1.heap.size 0 4:=T2.there1;have T3:=T2.laid [.int .u8 k,.int .i64 m,.int .u64 mk,.int .i64 n] rfl;have hr3:=T3.range1;have HT3:=uh T3;clear T2 T3 hB1 HT1 Hof
 go_wp2_with (first
  | (show sW 367;refine wpList_store_mid rfl 367 _ _ rfl _ 0 #[.int .u8 k,.int .i64 m,.int .u64 mk,.int .i64 n] rfl rfl hth hsz ho1 ?_)
  | (show lW 367;refine wpList_load_mid rfl 367 _ rfl w1.heap.size 0 rfl [.int .u8 k,.int .i64 m,.int .u64 mk,.int .i64 n] _ hr3 underlying367 rfl hsz ?_)
  | (go_at_call 240;refine(Hsl.out _).mono ?_;rintro e w2 ⟨rfl,hB2⟩)
  | fail)
 have HT2:=uh (HT3.out.call hB2);generalize hbx1:(w.heap.size,Obj.cells #[Value.int .u8 k,Value.int .i64 m,Value.int .u64 mk] 49 (0,0))=BX at*;clear hB2 HT3 Hsl hr3 hth hbx1
 go_loopw [4,19] (fun v4 v19 wr=>∃(j:Nat) (a8:Option Addr) (p8:Nat) (lr:List Blk),j <= sl /\ v19=.int .i64 j /\ v4=.slice a8 (R j).length p8 /\ Row 3 1 a8 (R j).length p8 (nats (R j)) lr /\ Turn [] w (lr++[(w1.heap.size,.cells #[.int .u8 k,.int .i64 m,.int .u64 mk,.int .i64 n] 367),BX]) wr) (fun _ v19 _=>sl-(intOf v19).toNat)
 case atStart=>exact⟨0,none,0,[],Nat.zero_le _,rfl,by rw[hr0];rfl,by rw[hr0];exact Row.nil _ _,HT2.out⟩
 case round=>
  obtain⟨j,a8,p8,lr,hj,rfl,rfl,hr8,V⟩:=hrel
  by_cases hlt:j<sl
  · have hlt':(j:Int)<(sl:Int):=by omega
    have hrg:=V.has.range (b:=w1.heap.size) (c:=#[.int .u8 k,.int .i64 m,.int .u64 mk,.int .i64 n]) (e:=367) (f:=(0,0)) (by simp);have hi:=uh (His.out wr j (by omega) (fun hk=>by have:=H64.out hk;omega));have HV:=uh V;have Hr8:=uh hr8;have hle:=Hlen.out j;have Hj1:=uh (Href.out j);have h63:(R j).length+1 <= maxLen:=(by unfold maxLen;omega);clear V hr8
    by_cases hb:rf j=true
    · rw[hb]at hi
      rw[if_pos hb]at Hj1;have hb2:((R j).length+1)*8 <= 140737488355328:=by omega
      go_wp2_with (first
       | (show lW 367;refine wpList_load_mid rfl 367 _ rfl w1.heap.size 0 rfl [.int .u8 k,.int .i64 m,.int .u64 mk,.int .i64 n] _ hrg underlying367 rfl hsz ?_)
       | (go_at_call 247;refine hi.out.mono ?_;rintro e w3 ⟨rfl,hB3⟩;have T3:=uh ((HV.out.call hB3).alloc (.cells #[.int .i64 j] 3));clear hB3)
       | (at_builtin;refine wpList_append_row rfl _ _ rfl el_int rfl Hr8.out (R:=[(w3.heap.size,.cells #[.int .i64 j] 3),(w1.heap.size,.cells #[.int .u8 k,.int .i64 m,.int .u64 mk,.int .i64 n] 367),BX]) (T3.out.perm po).has rfl (news:=[.int .i64 j]) rfl (news_of (heap_alloc_new _ _)) (by simp[Value.oneCell']) h63 hb2 ?_;intro a9 p9 l9 w4 hr9 V4 hno;have V5:=uh ((T3.out.perm (l2:=lr++[(w3.heap.size,.cells #[.int .i64 j] 3),(w1.heap.size,.cells #[.int .u8 k,.int .i64 m,.int .u64 mk,.int .i64 n] 367),BX]) po).trans V4);have Hr9:=uh hr9;clear hr9 V4 hno)
       | fail)
      go_roundw
      case rel=>
       have hl1:(R (j+1)).length=(R j).length+1:=(by rw[Hj1.out];simp);refine⟨j+1,a9,p9,l9,by omega,by go_num,by rw[hl1],?_,(V5.out.perm (l2:=(w3.heap.size,.cells #[.int .i64 j] 3)::(l9++[(w1.heap.size,.cells #[.int .u8 k,.int .i64 m,.int .u64 mk,.int .i64 n] 367),BX])) po).tail⟩;rw[hl1,Hj1.out,nats_append];exact Hr9.out
      case measure=>simp[intOf];omega
    · rw[if_neg hb,List.append_nil]at Hj1
      have hbf:rf j=false:=(by simpa using hb);rw[hbf]at hi
      go_wp2_with (first
       | (show lW 367;refine wpList_load_mid rfl 367 _ rfl w1.heap.size 0 rfl [.int .u8 k,.int .i64 m,.int .u64 mk,.int .i64 n] _ hrg underlying367 rfl hsz ?_)
       | (go_at_call 247;refine hi.out.mono ?_;rintro e w3 ⟨rfl,hB3⟩;have T3:=uh (HV.out.call hB3);clear hB3)
       | fail)
      go_roundw
      case rel=>exact⟨j+1,a8,p8,lr,by omega,by go_num,by rw[Hj1.out],by rw[Hj1.out];exact Hr8.out,T3.out⟩
      case measure=>simp[intOf];omega
  · obtain rfl:j=sl:=by omega
    have HV:=uh V;have Hr8:=uh hr8;clear V hr8
    go_wp2
    refine bodyPost_ret (results_tmp2 rfl _ _ _) rfl ?_;exact⟨a8,p8,lr,rfl,Hr8.out,HV.out.sub (List.sublist_append_left lr _)⟩
abbrev tyCells (t:Ty):List Value:=[.int .u8 t.kind,.int .i64 t.words,.int .u64 t.mask]
def tys (L:List Ty):List Value:=L.flatMap tyCells
theorem tys_length (L:List Ty):(tys L).length=L.length*3:=by
 induction L with
 | nil=>rfl
 | cons a l ih=>
  show(tyCells a++tys l).length=_
  rw[List.length_append,ih,List.length_cons];simp;omega
theorem tys_get {L:List Ty}{i:Nat}{t:Ty}(hi:L[i]?= some t){j:Nat}(hj:j<3):(tys L)[i*3+j]?= (tyCells t)[j]? :=by
 induction L generalizing i with
 | nil=>cases hi
 | cons a l ih=>
  show(tyCells a++tys l)[i*3+j]?= _
  cases i with
  | zero=>
   have:a=t:=(by simpa using hi);subst this;rw[Nat.zero_mul,Nat.zero_add,List.getElem?_append_left (by exact hj)]
  | succ i=>
   rw[show(i+1)*3+j=3+(i*3+j)by omega,List.getElem?_append_right (by show 3 <= _;omega)];rw[show 3+(i*3+j)-(tyCells a).length=i*3+j from Nat.add_sub_cancel_left ..];exact ih (by simpa using hi)
theorem Src.ty {w:World}{b off n cap:Nat}{L:List Ty}(h:Src w (some ⟨b,off,none⟩) n cap 3 (tys L)){i:Nat}{t:Ty}(hi:L[i]?= some t):w.rangeAt b (off+i*3) (tyCells t):=by
 intro j v hv;have hj:j<3:=(List.getElem?_eq_some_iff.1 hv).1;have h1:=h.at_ _ rfl (i*3+j) v (by rw[tys_get hi hj];exact hv);rw[add_lit]at h1;rw[Nat.add_assoc];exact h1
theorem range_below {w w':World}{b o:Nat}{cs:List Value}(h:w.rangeAt b o cs)(hk:Below w.heap.size w w'):w'.rangeAt b o cs:=fun j v hv=>by
 have h1:=h j v hv;exact(hk.cell (p:=⟨b,o+j,none⟩) (World.block_lt_of_cell? w _ h1)).trans h1
theorem Src.below {w w':World}{ao:Option Addr}{n cap size:Nat}{xs:List Value}(h:Src w ao n cap size xs)(hk:Below w.heap.size w w'):Src w' ao n cap size xs:=h.later fun b hb=>hk.block b hb
def tyAt (L:List Ty)(id:Int):Ty:=(getTy L id).getD ⟨0,0,0⟩
def tyErr (L:List Ty)(id n:Int):Int:=match getTy L id with|none=>3|some t=>t.err n
def tySize (L:List Ty)(id n:Int):Nat:=match getTy L id with|none=>0|some t=>if t.err n=0 then t.size n.toNat else 0
theorem getTy_some {L:List Ty}{id:Int}{t:Ty}(h:getTy L id=some t):∃k:Nat,id=k+1 /\ L[k]?= some t /\ k<L.length:=by
 unfold getTy at h
 split at h
 ·refine⟨(id-1).toNat,by omega,h,(List.getElem?_eq_some_iff.1 h).1⟩
 ·cases h
theorem getTy_none {L:List Ty}{id:Int}(h:getTy L id=none):id<1∨(L.length:Int)<id:=by
 unfold getTy at h
 split at h
 · have:=List.getElem?_eq_none_iff.1 h
   omega
 ·omega
theorem rget (w:World)(L:List Ty)(ao:Option Addr)(cap:Nat)(hS:Src w ao L.length cap 3 (tys L))(hL:L.length <= 1000)(id:Int):
  Calls prog 238 #[.slice ao L.length cap,.int .i64 id] w fun e w'=>e=.returned (.tuple #[tyVal (tyAt L id),.int .i64 (if (getTy L id).isSome then 0 else 3)]) /\ Below w.heap.size w w':=by
 have hsz:(prog.info? 49).map (·.size)=some 3:=by kernel_rfl
 have T1:=(Turn.refl (Has.nil w)).alloc zT;have hth:(w.alloc zT).there w.heap.size 0 3:=T1.there1;unfold tyAt
 cases hg:getTy L id with
 | none=>
  have hid:=getTy_none hg;have T2:=T1.laid [.int .u8 0,.int .i64 0,.int .u64 0] rfl;have HT2:=uh T2;have ho1:(#[.int .u8 0,.int .i64 0,.int .u64 0]:Array Value).all (·.oneCell')=true:=all_one (cs:=[.int .u8 0,.int .i64 0,.int .u64 0]) (by simp[Value.oneCell']);clear hg T1 T2 hS;rcases hid with hid|hid
  · have e1:decide (id<1)=true:=decide_eq_true hid
    go_enter func238,ntmps238
    go_wp2_with (first
     | (show sW 49;refine wpList_store_mid rfl 49 _ _ rfl _ 0 #[.int .u8 0,.int .i64 0,.int .u64 0] rfl rfl hth hsz ho1 ?_)
     | fail)
    refine bodyPost_ret (res_two results238 _ _ _ _ _ rfl HT2.out.range1 underlying49 rfl hsz) rfl ⟨rfl,HT2.out.below⟩
  · have e1:decide (id<1)=false:=decide_eq_false (by omega)
    have e2:decide ((L.length:Int)<id)=true:=decide_eq_true hid;have e3:¬id<1:=by omega
    go_enter func238,ntmps238
    go_wp2_with (first
     | (show sW 49;refine wpList_store_mid rfl 49 _ _ rfl _ 0 #[.int .u8 0,.int .i64 0,.int .u64 0] rfl rfl hth hsz ho1 ?_)
     | fail)
    refine bodyPost_ret (res_two results238 _ _ _ _ _ rfl HT2.out.range1 underlying49 rfl hsz) rfl ⟨rfl,HT2.out.below⟩
 | some t=>
  obtain⟨i,rfl,hi,hlt⟩:=getTy_some hg;have hi1:i <= 1000:=by omega
  obtain⟨b,off,rfl,-⟩:=hS.form (by rw[tys_length];omega);have hrg:=range_below (hS.ty hi) T1.below;obtain⟨k,m,mk⟩:=t;have T2:=T1.laid (tyCells ⟨k,m,mk⟩) rfl;have HT2:=uh T2;have ho1:(#[.int .u8 k,.int .i64 m,.int .u64 mk]:Array Value).all (·.oneCell')=true:=all_one (cs:=[.int .u8 k,.int .i64 m,.int .u64 mk]) (by simp[Value.oneCell']);have e1:decide (((i:Int)+1)<1)=false:=decide_eq_false (by omega);have e2:decide ((L.length:Int)<(i:Int)+1)=false:=decide_eq_false (by omega);have e3:(i:Int)<(L.length:Int):=by omega
  have e4:¬((L.length:Int)<(i:Int)+1):=by omega
  clear hg T1 T2 hS hi
  go_enter func238,ntmps238
  go_wp2_with (first
   | (show lW 49;refine wpList_load_mid rfl 49 _ rfl b (off+i*3) rfl [.int .u8 k,.int .i64 m,.int .u64 mk] _ hrg underlying49 rfl hsz ?_)
   | (show sW 49;refine wpList_store_mid rfl 49 _ _ rfl _ 0 #[.int .u8 k,.int .i64 m,.int .u64 mk] rfl rfl hth hsz ho1 ?_)
   | fail)
  refine bodyPost_ret (res_two results238 _ _ _ _ _ rfl HT2.out.range1 underlying49 rfl hsz) rfl ⟨rfl,HT2.out.below⟩
abbrev hdCells (h:Hd):List Value:=[.int .u8 h.tag,.int .i64 h.typ,.int .i64 h.len,.int .i64 h.size]
abbrev hdVal (h:Hd):Value:=.agg #[.int .u8 h.tag,.int .i64 h.typ,.int .i64 h.len,.int .i64 h.size]
abbrev hd0:Hd:=⟨0,0,0,0⟩
structure HdIn (h:Hd):Prop where
 tag:h.tag <= 255
 typ:h.typ <= 9223372036854775807
 len:h.len <= 9223372036854775807
 size:h.size <= 9223372036854775807
theorem hd_one (h:Hd):(#[.int .u8 h.tag,.int .i64 h.typ,.int .i64 h.len,.int .i64 h.size]:Array Value).all (·.oneCell')=true:=all_one (cs:=hdCells h) (by simp[Value.oneCell'])
theorem sz_head:(prog.info? 79).map (·.size)=some 4:=by kernel_rfl
theorem sz_type:(prog.info? 49).map (·.size)=some 3:=by kernel_rfl
theorem may7 (w:World)(h:Hd)(hi:HdIn h):Calls prog 228 #[hdVal h] w fun e w'=>e=.returned (.bool (decide h.may)) /\ Below w.heap.size w w':=by
 obtain⟨a,b,c,d⟩:=h;obtain⟨i1,i2,i3,i4⟩:=hi;simp only at i1 i2 i3 i4;have T1:=(Turn.refl (Has.nil w)).alloc (.cells #[.int .u8 a,.int .i64 b,.int .i64 c,.int .i64 d] 79);have c0:=T1.cell1 0;have c1:=T1.cell1 1;have c2:=T1.cell1 2;have c3:=T1.cell1 3;have HT1:=uh T1.below;have Hmay:Hid ((Hd.mk a b c d).may↔1 <= d /\ d<16777216 /\ c<16777216 /\ (a=1 /\ 1 <= b /\ b <= 4095∨(a=2∨a=3) /\ b=0 /\ c=0)):=uh Iff.rfl;obtain⟨r,Hr⟩:∃r:Bool,Hid (r=decide (Hd.mk a b c d).may):=⟨_,uh rfl⟩;rw[←Hr.out];have HF:(¬(Hd.mk a b c d).may) -> r=false:=fun hn=>by rw[Hr.out];exact decide_eq_false hn
 have HTr:(Hd.mk a b c d).may -> r=true:=fun hn=>by rw[Hr.out];exact decide_eq_true hn
 clear T1 Hr;have k3:decide ((c:Int)<0)=false:=decide_eq_false (by omega)
 by_cases hd1:d<1
 · obtain rfl:=HF (fun h=>by have:=Hmay.out.1 h;omega)
   have k1:decide ((d:Int)<1)=true:=decide_eq_true (by omega);clear Hmay HF HTr
   go_enter func228,ntmps228
   go_wp2
   go_ret;exact⟨rfl,HT1.out⟩
 have k1:decide ((d:Int)<1)=false:=decide_eq_false (by omega);have n1:¬(d:Int)<1:=by omega
 by_cases hd2:16777216 <= d
 · obtain rfl:=HF (fun h=>by have:=Hmay.out.1 h;omega)
   have k2:decide ((16777216:Int) <= (d:Int))=true:=decide_eq_true (by omega);have n2:(16777216:Int) <= (d:Int):=(by omega);clear Hmay HF HTr
   go_enter func228,ntmps228
   go_wp2
   go_ret;exact⟨rfl,HT1.out⟩
 have k2:decide ((16777216:Int) <= (d:Int))=false:=decide_eq_false (by omega);have n2:¬(16777216:Int) <= (d:Int):=by omega
 by_cases hc2:16777216 <= c
 · obtain rfl:=HF (fun h=>by have:=Hmay.out.1 h;omega)
   have k4:decide ((16777216:Int) <= (c:Int))=true:=decide_eq_true (by omega);have n4:(16777216:Int) <= (c:Int):=(by omega);clear Hmay HF HTr
   go_enter func228,ntmps228
   go_wp2
   go_ret;exact⟨rfl,HT1.out⟩
 have k4:decide ((16777216:Int) <= (c:Int))=false:=decide_eq_false (by omega);have n4:¬(16777216:Int) <= (c:Int):=by omega
 by_cases a1:a=1
 · subst a1
   by_cases hb1:b<1
   · obtain rfl:=HF (fun h=>by have:=Hmay.out.1 h;omega)
     have k5:decide ((1:Int) <= (b:Int))=false:=decide_eq_false (by omega);have n5:¬(1:Int) <= (b:Int):=(by omega);clear Hmay HF HTr
     go_enter func228,ntmps228
     go_wp2
     go_ret;exact⟨rfl,HT1.out⟩
   have k5:decide ((1:Int) <= (b:Int))=true:=decide_eq_true (by omega);have n5:(1:Int) <= (b:Int):=by omega
   by_cases hb2:4095<b
   · obtain rfl:=HF (fun h=>by have:=Hmay.out.1 h;omega)
     have k6:decide ((b:Int) <= 4095)=false:=decide_eq_false (by omega);clear Hmay HF HTr
     go_enter func228,ntmps228
     go_wp2
     go_ret;exact⟨rfl,HT1.out⟩
   · obtain rfl:=HTr (Hmay.out.2 ⟨by omega,by omega,by omega,.inl ⟨rfl,by omega,by omega⟩⟩)
     have k6:decide ((b:Int) <= 4095)=true:=decide_eq_true (by omega);clear Hmay HF HTr
     go_enter func228,ntmps228
     go_wp2
     go_ret;exact⟨rfl,HT1.out⟩
 by_cases a23:a=2∨a=3
 · by_cases hb0:b=0
   · subst hb0
     by_cases hc0:c=0
     · subst hc0
       obtain rfl:=HTr (Hmay.out.2 ⟨by omega,by omega,by omega,.inr ⟨a23,rfl,rfl⟩⟩);clear Hmay HF HTr;rcases a23 with rfl|rfl
       all_goals
        go_enter func228,ntmps228
        go_wp2
        go_ret;exact⟨rfl,HT1.out⟩
     · obtain rfl:=HF (fun h=>by have:=Hmay.out.1 h;omega)
       have k8:((c:Int) == 0)=false:=(by rw[beq_eq_false_iff_ne];omega);have n8:¬(c:Int)=0:=(by omega);clear Hmay HF HTr;rcases a23 with rfl|rfl
       all_goals
        go_enter func228,ntmps228
        go_wp2
        go_ret;exact⟨rfl,HT1.out⟩
   · obtain rfl:=HF (fun h=>by have:=Hmay.out.1 h;omega)
     have k7:((b:Int) == 0)=false:=(by rw[beq_eq_false_iff_ne];omega);have n7:¬(b:Int)=0:=(by omega);clear Hmay HF HTr;rcases a23 with rfl|rfl
     all_goals
      go_enter func228,ntmps228
      go_wp2
      go_ret;exact⟨rfl,HT1.out⟩
 · obtain rfl:=HF (fun h=>by have:=Hmay.out.1 h;omega)
   have q1:¬(a:Int)=1:=(by omega);have q2:¬(a:Int)=2:=(by omega);have q3:¬(a:Int)=3:=(by omega);clear Hmay HF HTr a1 a23
   go_enter func228,ntmps228
   go_wp2
   go_ret;exact⟨rfl,HT1.out⟩
theorem enc7 (w:World)(h:Hd)(hi:HdIn h):Calls prog 237 #[hdVal h] w fun e w'=>e=.returned (.tuple #[.int .u64 (if h.may then((h.word:Nat):Int)else 0),.int .i64 (if h.may then 0 else 2)]) /\ Below w.heap.size w w':=by
 have Hck:=uh (fun W=>may7 W h hi);have hsz:=sz_head
 by_cases hm:h.may
 · rw[decide_eq_true hm]at Hck
   rw[if_pos hm,if_pos hm];obtain⟨m1,m2,m3,m4⟩:=hm;obtain⟨a,b,c,d⟩:=h;simp only at m1 m2 m3 m4;have hab:a <= 3 /\ b <= 4095:=(by omega);obtain⟨z,Hz⟩:∃z:Nat,Hid (z=(Hd.mk a b c d).word):=⟨_,uh rfl⟩;rw[←Hz.out];have T1:=(Turn.refl (Has.nil w)).alloc (.cells #[.int .u8 a,.int .i64 b,.int .i64 c,.int .i64 d] 79);have hr1:=T1.range1;have HT1:=uh T1;clear T1 m4
   go_enter func237,ntmps237
   go_wp2_with fail
   refine(Hck.out _).mono ?_;rintro e w2 ⟨rfl,hB2⟩;have T2:=HT1.out.call hB2;have c0:=T2.cell1 0;have c1:=T2.cell1 1;have c2:=T2.cell1 2;have c3:=T2.cell1 3;have HT2:=uh T2.below;clear T2 hB2 HT1 Hck hr1
   go_wp2
   refine bodyPost_ret (results_tmp2 rfl _ _ _) rfl ?_;refine⟨?_,HT2.out⟩;have hz:((z:Nat):Int)=(a:Int)+4*(b:Int)+65536*(c:Int)+1099511627776*(d:Int):=by rw[Hz.out];unfold Hd.word;simp only;omega
   rw[hz]
   rfl
 · rw[decide_eq_false hm]at Hck
   rw[if_neg hm,if_neg hm];obtain⟨a,b,c,d⟩:=h;have T1:=(Turn.refl (Has.nil w)).alloc (.cells #[.int .u8 a,.int .i64 b,.int .i64 c,.int .i64 d] 79);have HT1:=uh T1;clear T1
   go_enter func237,ntmps237
   go_wp2_with fail
   refine(Hck.out _).mono ?_;rintro e w2 ⟨rfl,hB2⟩;have HT2:=uh (HT1.out.call hB2).below;clear hB2 HT1 Hck
   go_wp2
   refine bodyPost_ret (results_tmp2 rfl _ _ _) rfl ?_;exact⟨rfl,HT2.out⟩
theorem hd0_one:(#[.int .u8 0,.int .i64 0,.int .i64 0,.int .i64 0]:Array Value).all (·.oneCell')=true:=all_one (cs:=[.int .u8 0,.int .i64 0,.int .i64 0,.int .i64 0]) (by simp[Value.oneCell'])
theorem ty_one (t:Ty):(#[.int .u8 t.kind,.int .i64 t.words,.int .u64 t.mask]:Array Value).all (·.oneCell')=true:=all_one (cs:=tyCells t) (by simp[Value.oneCell'])
theorem tmod_nat (m n:Nat):((m:Int)).tmod (n:Int)=((m%n:Nat):Int):=by rw[Int.tmod_eq_emod_of_nonneg (Int.natCast_nonneg _),Int.natCast_emod]
theorem tdiv_nat (m n:Nat):((m:Int)).tdiv (n:Int)=((m/n:Nat):Int):=by rw[Int.tdiv_eq_ediv_of_nonneg (Int.natCast_nonneg _),Int.natCast_ediv]
def decHd (v:Nat):Hd:=(decode v).getD hd0
theorem dec7 (w:World)(v:Nat)(hv:v<18446744073709551616):Calls prog 227 #[.int .u64 v] w fun e w'=>e=.returned (.tuple #[hdVal (decHd v),.int .i64 (if (decode v).isSome then 0 else 7)]) /\ Below w.heap.size w w':=by
 have hsz:=sz_head;have Henc:=uh (fun W=>enc7 W (hdOf v) ⟨by unfold hdOf;simp only;omega,by unfold hdOf;simp only;omega,by unfold hdOf;simp only;omega,by unfold hdOf;simp only;omega⟩)
 have hdec:decode v=if (hdOf v).may /\ (hdOf v).word=v then some (hdOf v)else none:=by
  unfold decode
  by_cases h:(hdOf v).may /\ gapOf v=0
  ·rw[if_pos h,if_pos ⟨h.1,(word_back v).2 h.2⟩]
  ·rw[if_neg h,if_neg (fun h2=>h ⟨h2.1,(word_back v).1 h2.2⟩)]
 have q1:((v:Int)).tmod 4=((v%4:Nat):Int):=tmod_nat v 4;have q2:((v:Int)).tdiv 4=((v/4:Nat):Int):=tdiv_nat v 4;have q3:(((v/4:Nat):Int)).tmod 4096=((v/4%4096:Nat):Int):=tmod_nat _ 4096;have q4:((v:Int)).tdiv 65536=((v/65536:Nat):Int):=tdiv_nat v 65536;have q5:(((v/65536:Nat):Int)).tmod 16777216=((v/65536%16777216:Nat):Int):=tmod_nat _ 16777216;have q6:((v:Int)).tdiv 1099511627776=((v/1099511627776:Nat):Int):=tdiv_nat v 1099511627776;have b1:v%4<4:=by omega
 have b2:v/4%4096<4096:=by omega
 have b3:v/65536%16777216<16777216:=by omega
 have b4:v/1099511627776<16777216:=by omega
 have b5:v/4<18446744073709551616:=by omega
 have b6:v/65536<18446744073709551616:=by omega
 unfold hdOf at Henc hdec;generalize v%4=x1 at*;generalize v/4%4096=x2 at*;generalize v/65536%16777216=x3 at*;generalize v/1099511627776=x4 at*;generalize v/4=y1 at*;generalize v/65536=y2 at*;obtain⟨ta,tb,tc,td,er,Hv⟩:∃ta tb tc td er,Hid (decHd v=⟨ta,tb,tc,td⟩ /\ (if (decode v).isSome=true then(0:Int)else 7)=er):=⟨_,_,_,_,_,uh ⟨rfl,rfl⟩⟩;rw[Hv.out.1,Hv.out.2]
 have Hsome:∀h,decode v=some h -> h.tag=ta /\ h.typ=tb /\ h.len=tc /\ h.size=td /\ er=0:=fun h hh=>by
  have h1:=Hv.out;unfold decHd at h1;rw[hh]at h1;obtain⟨rfl,rfl⟩:=h1;exact⟨rfl,rfl,rfl,rfl,rfl⟩
 have Hnone:decode v=none -> ta=0 /\ tb=0 /\ tc=0 /\ td=0 /\ er=7:=fun hh=>by
  have h1:=Hv.out;unfold decHd at h1;rw[hh]at h1;obtain⟨h1,rfl⟩:=h1
  cases h1
  exact⟨rfl,rfl,rfl,rfl,rfl⟩
 clear Hv;have T1:=((Turn.refl (Has.nil w)).alloc zH).alloc zH;rw[World.size_alloc]at T1;have hthA:((w.alloc zH).alloc zH).there (w.heap.size+1) 0 4:=T1.there1;have hoX:=hd_one ⟨x1,x2,x3,x4⟩;have T2:=T1.laid (hdCells ⟨x1,x2,x3,x4⟩) rfl;have hrA:=T2.range1;have HT2:=uh T2;clear T1 T2
 go_enter func227,ntmps227
 go_wp2_with (first
  | (show sW 79;refine wpList_store_mid rfl 79 _ _ rfl _ 0 #[.int .u8 x1,.int .i64 x2,.int .i64 x3,.int .i64 x4] rfl rfl hthA hsz hoX ?_)
  | (show lW 79;refine wpList_load_mid rfl 79 _ rfl (w.heap.size+1) 0 rfl [.int .u8 x1,.int .i64 x2,.int .i64 x3,.int .i64 x4] _ hrA underlying79 rfl hsz ?_)
  | fail)
 refine(Henc.out _).mono ?_;rintro e w3 ⟨rfl,hB3⟩;have T3:=HT2.out.call hB3;have hth3:w3.there w.heap.size 0 4:=T3.there2;have hr3:=T3.range1;have TZ:=T3.laid2 [.int .u8 0,.int .i64 0,.int .i64 0,.int .i64 0] rfl;have TV:=T3.laid2 (hdCells ⟨x1,x2,x3,x4⟩) rfl;have HTZ:=uh TZ;have HTV:=uh TV;clear T3 TZ TV hB3 HT2 Henc hrA hthA q1 q2 q3 q4 q5 q6 b5 b6;have hzo:=hd0_one
 by_cases hm:(Hd.mk x1 x2 x3 x4).may
 · simp only[if_pos hm]
   by_cases hw:(Hd.mk x1 x2 x3 x4).word=v
   · rw[if_pos ⟨hm,hw⟩]at hdec
     rw[hw];obtain⟨rfl,rfl,rfl,rfl,rfl⟩:=Hsome _ hdec;clear hdec hw hm HTZ Hsome Hnone
     go_wp2_with (first
      | (show lW 79;refine wpList_load_mid rfl 79 _ rfl (w.heap.size+1) 0 rfl [.int .u8 x1,.int .i64 x2,.int .i64 x3,.int .i64 x4] _ hr3 underlying79 rfl hsz ?_)
      | (show sW 79;refine wpList_store_mid rfl 79 _ _ rfl _ 0 #[.int .u8 x1,.int .i64 x2,.int .i64 x3,.int .i64 x4] rfl rfl hth3 hsz hoX ?_)
      | fail)
     refine bodyPost_ret (res_two results227 _ _ _ _ _ rfl HTV.out.range2 underlying79 rfl hsz) rfl ⟨rfl,HTV.out.below⟩
   · rw[if_neg (fun h=>hw h.2)]at hdec
     obtain⟨rfl,rfl,rfl,rfl,rfl⟩:=Hnone hdec;have hne:¬(((Hd.mk x1 x2 x3 x4).word:Nat):Int)=(v:Int):=(by omega);have hne2:((((Hd.mk x1 x2 x3 x4).word:Nat):Int) != (v:Int))=true:=(by rw[bne_iff_ne];exact hne);generalize(Hd.mk x1 x2 x3 x4).word=z at*;clear hdec hw hm HTV Hsome Hnone
     go_wp2_with (first
      | (show sW 79;refine wpList_store_mid rfl 79 _ _ rfl _ 0 #[.int .u8 0,.int .i64 0,.int .i64 0,.int .i64 0] rfl rfl hth3 hsz hzo ?_)
      | fail)
     refine bodyPost_ret (res_two results227 _ _ _ _ _ rfl HTZ.out.range2 underlying79 rfl hsz) rfl ⟨rfl,HTZ.out.below⟩
 · simp only[if_neg hm]
   rw[if_neg (fun h=>hm h.1)]at hdec;obtain⟨rfl,rfl,rfl,rfl,rfl⟩:=Hnone hdec;clear hdec hm HTV Hsome Hnone
   go_wp2_with (first
    | (show sW 79;refine wpList_store_mid rfl 79 _ _ rfl _ 0 #[.int .u8 0,.int .i64 0,.int .i64 0,.int .i64 0] rfl rfl hth3 hsz hzo ?_)
    | fail)
   refine bodyPost_ret (res_two results227 _ _ _ _ _ rfl HTZ.out.range2 underlying79 rfl hsz) rfl ⟨rfl,HTZ.out.below⟩
theorem size6 (w:World)(L:List Ty)(hT:∀t∈L,TyIn t)(hL:L.length <= 1000)(ao:Option Addr)(cap:Nat)(hS:Src w ao L.length cap 3 (tys L))(id n:Int):
  Calls prog 236 #[.slice ao L.length cap,.int .i64 id,.int .i64 n] w fun e w'=>e=.returned (.tuple #[.int .i64 (tySize L id n:Nat),.int .i64 (tyErr L id n)]) /\ Below w.heap.size w w':=by
 have hsz:=sz_type;have Hg:=uh (rget w L ao cap hS hL id);unfold tySize tyErr;unfold tyAt at Hg;clear hS
 cases hg:getTy L id with
 | none=>
  rw[hg]at Hg
  go_enter func236,ntmps236
  go_wp2_with fail
  refine Hg.out.mono ?_;rintro e w1 ⟨rfl,hB1⟩;have T1:=(Turn.of_below (Has.nil w) hB1).alloc zT;have hth:(w1.alloc zT).there w1.heap.size 0 3:=T1.there1;have HT2:=uh (T1.laid [.int .u8 0,.int .i64 0,.int .u64 0] rfl);have ho:=ty_one ⟨0,0,0⟩;clear T1 hB1 Hg
  go_wp2_with (first
   | (show sW 49;refine wpList_store_mid rfl 49 _ _ rfl _ 0 #[.int .u8 0,.int .i64 0,.int .u64 0] rfl rfl hth hsz ho ?_)
   | fail)
  refine bodyPost_ret (results_tmp2 rfl _ _ _) rfl ?_;exact⟨rfl,HT2.out.below⟩
 | some t=>
  rw[hg]at Hg;obtain⟨i,rfl,hi,hlt⟩:=getTy_some hg;have Hsz:=uh (fun W=>rsize W t (hT t (List.mem_of_getElem? hi)) n);obtain⟨k,m,mk⟩:=t;obtain⟨s,Hs⟩:∃s:Nat,Hid ((if (Ty.mk k m mk).err n=0 then(((Ty.mk k m mk).size n.toNat:Nat):Int)else 0)=s /\ (if (Ty.mk k m mk).err n=0 then(Ty.mk k m mk).size n.toNat else 0)=s):=⟨_,uh ⟨by split<;>rfl,rfl⟩⟩;rw[Hs.out.1]at Hsz;simp only[Hs.out.2];clear Hs;generalize(Ty.mk k m mk).err n=er at*;clear hg hi hlt hT
  go_enter func236,ntmps236
  go_wp2_with fail
  refine Hg.out.mono ?_;rintro e w1 ⟨rfl,hB1⟩;simp only[Option.getD_some,Option.isSome_some,if_true];have T1:=(Turn.of_below (Has.nil w) hB1).alloc zT;have hth:(w1.alloc zT).there w1.heap.size 0 3:=T1.there1;have T2:=T1.laid (tyCells ⟨k,m,mk⟩) rfl;have hr2:=T2.range1;have HT2:=uh T2;have ho:=ty_one ⟨k,m,mk⟩;clear T1 T2 hB1 Hg
  go_wp2_with (first
   | (show sW 49;refine wpList_store_mid rfl 49 _ _ rfl _ 0 #[.int .u8 k,.int .i64 m,.int .u64 mk] rfl rfl hth hsz ho ?_)
   | (show lW 49;refine wpList_load_mid rfl 49 _ rfl w1.heap.size 0 rfl [.int .u8 k,.int .i64 m,.int .u64 mk] _ hr2 underlying49 rfl hsz ?_)
   | (go_at_call 18;refine(Hsz.out _).mono ?_;rintro e w3 ⟨rfl,hB3⟩;have HB3:=uh (HT2.out.call hB3).below;clear hB3)
   | fail)
  refine bodyPost_ret (results_tmp2 rfl _ _ _) rfl ?_;exact⟨rfl,HB3.out⟩
def ofCells (L:List Ty)(id n:Int):List Value:=if tyErr L id n=0 then [.int .u8 1,.int .i64 id,.int .i64 n,.int .i64 (tySize L id n:Nat)]else [.int .u8 0,.int .i64 0,.int .i64 0,.int .i64 0]
theorem of7 (w:World)(L:List Ty)(hT:∀t∈L,TyIn t)(hL:L.length <= 1000)(ao:Option Addr)(cap:Nat)(hS:Src w ao L.length cap 3 (tys L))(id n:Int):
  Calls prog 192 #[.slice ao L.length cap,.int .i64 id,.int .i64 n] w fun e w'=>e=.returned (.tuple #[.agg (ofCells L id n).toArray,.int .i64 (tyErr L id n)]) /\ Below w.heap.size w w':=by
 have hsz:=sz_head;have T1:=(Turn.refl (Has.nil w)).alloc zH;have Hs:=uh (size6 _ L hT hL ao cap (hS.below T1.below) id n);have HT1:=uh T1;unfold ofCells;generalize tySize L id n=s at*;generalize tyErr L id n=er at*;clear T1 hS hT
 by_cases he:er=0
 · subst he
   rw[if_pos rfl]
   go_enter func192,ntmps192
   go_wp2_with fail
   refine Hs.out.mono ?_;rintro e w1 ⟨rfl,hB1⟩;have T2:=HT1.out.call hB1;have hth:w1.there w.heap.size 0 4:=T2.there1;have HT3:=uh (T2.laid [.int .u8 1,.int .i64 id,.int .i64 n,.int .i64 s] rfl);have ho:(#[.int .u8 1,.int .i64 id,.int .i64 n,.int .i64 s]:Array Value).all (·.oneCell')=true:=all_one (cs:=[.int .u8 1,.int .i64 id,.int .i64 n,.int .i64 s]) (by simp[Value.oneCell']);clear T2 hB1 HT1 Hs
   go_wp2_with (first
    | (show sW 79;refine wpList_store_mid rfl 79 _ _ rfl _ 0 #[.int .u8 1,.int .i64 id,.int .i64 n,.int .i64 s] rfl rfl hth hsz ho ?_)
    | fail)
   refine bodyPost_ret (res_two results192 _ _ _ _ _ rfl HT3.out.range1 underlying79 rfl hsz) rfl ⟨rfl,HT3.out.below⟩
 · rw[if_neg he]
   go_enter func192,ntmps192
   go_wp2_with fail
   refine Hs.out.mono ?_;rintro e w1 ⟨rfl,hB1⟩;have T2:=HT1.out.call hB1;have hth:w1.there w.heap.size 0 4:=T2.there1;have HT3:=uh (T2.laid [.int .u8 0,.int .i64 0,.int .i64 0,.int .i64 0] rfl);have ho:=hd0_one;clear T2 hB1 HT1 Hs
   go_wp2_with (first
    | (show sW 79;refine wpList_store_mid rfl 79 _ _ rfl _ 0 #[.int .u8 0,.int .i64 0,.int .i64 0,.int .i64 0] rfl rfl hth hsz ho ?_)
    | fail)
   refine bodyPost_ret (res_two results192 _ _ _ _ _ rfl HT3.out.range1 underlying79 rfl hsz) rfl ⟨rfl,HT3.out.below⟩
theorem ite_chain {w:World}{a b:Int}{c:Bool}{X:Result Bool}(h:X=.ok c w):(if a=b then X else .ok false w)=.ok ((a == b) && c) w:=by
 by_cases hab:a=b
 ·rw[if_pos hab,h,beq_iff_eq.2 hab,Bool.true_and]
 ·rw[if_neg hab,beq_eq_false_iff_ne.2 hab,Bool.false_and]
theorem ite_last {w:World}{a b:Int}:(if a=b then Result.ok true w else .ok false w)=.ok (a == b) w:=by
 by_cases hab:a=b
 ·rw[if_pos hab,beq_iff_eq.2 hab]
 ·rw[if_neg hab,beq_eq_false_iff_ne.2 hab]
theorem equalIn_hd (w:World)(a b c d a' b' c' d':Int):
  (Op.equalIn 10000 79 (.agg #[.int .u8 a,.int .i64 b,.int .i64 c,.int .i64 d]) (.agg #[.int .u8 a',.int .i64 b',.int .i64 c',.int .i64 d'])).run prog w=.ok ((a == a') && ((b == b') && ((c == c') && (d == d')))) w:=by
 show(Op.equalIn (9999+1) _ _ _).run _ _=_
 have hp:prog.stoodInHeld 79= false:=by kernel_rfl
 rw[run_equalIn_struct w 9999 79 _ _ underlying79 hp];simp[go_sem]
 iterate 3 refine ite_chain ?_
 exact ite_last
def fitErr (L:List Ty)(h:Hd):Int:=if ¬h.may then 2 else if h.tag≠1 then 0 else if tyErr L h.typ h.len=0 /\ tySize L h.typ h.len=h.size then 0 else 8
theorem fit_iff (L:List Ty)(h:Hd):fitErr L h=0↔fits L h:=by
 unfold fitErr fits
 by_cases hm:h.may
 · rw[if_neg (by simpa using hm)]
   by_cases ht:h.tag=1
   · rw[if_neg (by simpa using ht)]
     have h1:1 <= h.typ:=by
      obtain⟨-,-,-,h|h⟩:=hm
      ·exact h.2.1
      ·omega
     have hg:getTy L (h.typ:Nat)=L[h.typ-1]? :=by
      unfold getTy;rw[if_pos (by omega),show((h.typ:Int)-1).toNat=h.typ-1 by omega]
     cases hl:L[h.typ-1]? with
     | none=>
      have e1:tyErr L h.typ h.len=3:=(by unfold tyErr;rw[hg,hl]);rw[if_neg (fun h2=>by rw[e1]at h2;omega)];refine⟨fun h=>by omega,fun h=>?_⟩;obtain⟨t,h2,-⟩:=h.2 ht
      cases h2
     | some t=>
      have e1:tyErr L h.typ h.len=t.err h.len:=(by unfold tyErr;rw[hg,hl]);have e2:t.err h.len=0 -> tySize L h.typ h.len=t.size h.len:=fun he=>by unfold tySize;rw[hg,hl];simp only;rw[if_pos he];simp
      constructor
      · intro h2
        refine⟨hm,fun _=>⟨t,rfl,?_⟩⟩
        by_cases he:t.err h.len=0
        · by_cases hs:t.size h.len=h.size
          ·exact⟨he,hs⟩
          · rw[if_neg (fun h=>hs (by rw[←e2 he];exact h.2))]at h2
            omega
        · rw[if_neg (fun h=>he (by rw[←e1];exact h.1))]at h2
          omega
      · rintro⟨-,h2⟩
        obtain⟨t',h3,h4,h5⟩:=h2 ht
        cases h3
        rw[if_pos ⟨by rw[e1];exact h4,by rw[e2 h4];exact h5⟩]
   · rw[if_pos ht]
     exact⟨fun _=>⟨hm,fun h=>absurd h ht⟩,fun _=>rfl⟩
 · rw[if_pos hm]
   exact⟨fun h=>by omega,fun h=>absurd h.1 hm⟩
theorem fits7 (w:World)(L:List Ty)(hT:∀t∈L,TyIn t)(hL:L.length <= 1000)(ao:Option Addr)(cap:Nat)(hS:Src w ao L.length cap 3 (tys L))(h:Hd)(hi:HdIn h):
  Calls prog 182 #[.slice ao L.length cap,hdVal h] w fun e w'=>e=.returned (.int .i64 (fitErr L h)) /\ Below w.heap.size w w':=by
 have hsz:=sz_head;have Hck:=uh (fun W=>may7 W h hi);have T1:=(Turn.refl (Has.nil w)).alloc (.cells #[.int .u8 h.tag,.int .i64 h.typ,.int .i64 h.len,.int .i64 h.size] 79);have hr1:=T1.range1;have Hof:=uh (fun(w2:World) (hB:Below (w.alloc (.cells #[.int .u8 h.tag,.int .i64 h.typ,.int .i64 h.len,.int .i64 h.size] 79)).heap.size (w.alloc (.cells #[.int .u8 h.tag,.int .i64 h.typ,.int .i64 h.len,.int .i64 h.size] 79)) w2)=>of7 w2 L hT hL ao cap ((hS.below ((Turn.refl (Has.nil w)).alloc (.cells #[.int .u8 h.tag,.int .i64 h.typ,.int .i64 h.len,.int .i64 h.size] 79)).below).below hB) h.typ h.len);have HT1:=uh T1;clear T1 hS hT;unfold fitErr
 by_cases hm:h.may
 · rw[decide_eq_true hm]at Hck
   rw[if_neg (by simpa using hm)]
   by_cases ht:h.tag=1
   · rw[if_neg (by simpa using ht)]
     have hld:=hd_one ⟨0,0,0,0⟩;unfold ofCells at Hof;generalize tyErr L h.typ h.len=er at*;generalize tySize L h.typ h.len=s at*;obtain⟨tg,b,c,d⟩:=h;simp only at ht;subst ht;clear hm hi
     by_cases he:er=0
     · subst he
       simp only[if_true]at Hof;have ho:(#[.int .u8 1,.int .i64 b,.int .i64 c,.int .i64 s]:Array Value).all (·.oneCell')=true:=all_one (cs:=[.int .u8 1,.int .i64 b,.int .i64 c,.int .i64 s]) (by simp[Value.oneCell']);have heq:=fun w=>equalIn_hd w 1 b c s 1 b c d
       by_cases hs:s=d
       · rw[if_pos ⟨rfl,hs⟩]
         have hs2:((s:Int) == (d:Int))=true:=(by rw[beq_iff_eq];omega);subst hs
         go_enter func182,ntmps182
         go_wp2_with fail
         refine(Hck.out _).mono ?_;rintro e w2 ⟨rfl,hB2⟩;have T2:=HT1.out.call hB2;have c0:=T2.cell1 0;have c1:=T2.cell1 1;have c2:=T2.cell1 2;have Hof2:=uh (Hof.out w2 hB2);have HT2:=uh T2;clear T2 hB2 HT1 Hck Hof hr1
         go_wp2_with fail
         refine Hof2.out.mono ?_;rintro e w3 ⟨rfl,hB3⟩;have T3:=(HT2.out.call hB3).alloc zH;have hth:(w3.alloc zH).there w3.heap.size 0 4:=T3.there1;have T4:=T3.laid [.int .u8 1,.int .i64 b,.int .i64 c,.int .i64 s] rfl;have hr4:=T4.range1;have hr5:=T4.range2;have HT4:=uh T4.below;clear T3 T4 hB3 HT2 Hof2 c0 c1 c2
         go_wp2_with (first
          | (show sW 79;refine wpList_store_mid rfl 79 _ _ rfl _ 0 #[.int .u8 1,.int .i64 b,.int .i64 c,.int .i64 s] rfl rfl hth hsz ho ?_)
          | (show lW 79;refine wpList_load_g 79 _ rfl (by rfl) w3.heap.size 0 rfl [.int .u8 1,.int .i64 b,.int .i64 c,.int .i64 s] _ hr4 underlying79 rfl hsz ?_)
          | (show lW 79;refine wpList_load_g 79 _ rfl (by rfl) w.heap.size 0 rfl [.int .u8 1,.int .i64 b,.int .i64 c,.int .i64 s] _ hr5 underlying79 rfl hsz ?_)
          | fail)
         go_ret;exact⟨rfl,HT4.out⟩
       · rw[if_neg (fun h=>hs h.2)]
         have hs2:((s:Int) == (d:Int))=false:=(by rw[beq_eq_false_iff_ne];omega);have hs3:¬(s:Int)=(d:Int):=(by omega);have hs4:¬(s=d):=hs;simp only[hs2,Bool.and_false,beq_self_eq_true]at heq;clear hs
         go_enter func182,ntmps182
         go_wp2_with fail
         refine(Hck.out _).mono ?_;rintro e w2 ⟨rfl,hB2⟩;have T2:=HT1.out.call hB2;have c0:=T2.cell1 0;have c1:=T2.cell1 1;have c2:=T2.cell1 2;have Hof2:=uh (Hof.out w2 hB2);have HT2:=uh T2;clear T2 hB2 HT1 Hck Hof hr1
         go_wp2_with fail
         refine Hof2.out.mono ?_;rintro e w3 ⟨rfl,hB3⟩;have T3:=(HT2.out.call hB3).alloc zH;have hth:(w3.alloc zH).there w3.heap.size 0 4:=T3.there1;have T4:=T3.laid [.int .u8 1,.int .i64 b,.int .i64 c,.int .i64 s] rfl;have hr4:=T4.range1;have hr5:=T4.range2;have HT4:=uh T4.below;clear T3 T4 hB3 HT2 Hof2 c0 c1 c2
         go_wp2_with (first
          | (show sW 79;refine wpList_store_mid rfl 79 _ _ rfl _ 0 #[.int .u8 1,.int .i64 b,.int .i64 c,.int .i64 s] rfl rfl hth hsz ho ?_)
          | (show lW 79;refine wpList_load_g 79 _ rfl (by rfl) w3.heap.size 0 rfl [.int .u8 1,.int .i64 b,.int .i64 c,.int .i64 s] _ hr4 underlying79 rfl hsz ?_)
          | (show lW 79;refine wpList_load_g 79 _ rfl (by rfl) w.heap.size 0 rfl [.int .u8 1,.int .i64 b,.int .i64 c,.int .i64 d] _ hr5 underlying79 rfl hsz ?_)
          | fail)
         go_ret;exact⟨rfl,HT4.out⟩
     · rw[if_neg (fun h=>he h.1)]
       simp only[if_neg he]at Hof
       go_enter func182,ntmps182
       go_wp2_with fail
       refine(Hck.out _).mono ?_;rintro e w2 ⟨rfl,hB2⟩;have T2:=HT1.out.call hB2;have c0:=T2.cell1 0;have c1:=T2.cell1 1;have c2:=T2.cell1 2;have Hof2:=uh (Hof.out w2 hB2);have HT2:=uh T2;clear T2 hB2 HT1 Hck Hof hr1
       go_wp2_with fail
       refine Hof2.out.mono ?_;rintro e w3 ⟨rfl,hB3⟩;have T3:=(HT2.out.call hB3).alloc zH;have hth:(w3.alloc zH).there w3.heap.size 0 4:=T3.there1;have HT4:=uh (T3.laid [.int .u8 0,.int .i64 0,.int .i64 0,.int .i64 0] rfl).below;clear T3 hB3 HT2 Hof2 c0 c1 c2
       go_wp2_with (first
        | (show sW 79;refine wpList_store_mid rfl 79 _ _ rfl _ 0 #[.int .u8 0,.int .i64 0,.int .i64 0,.int .i64 0] rfl rfl hth hsz hld ?_)
        | fail)
       go_ret;exact⟨rfl,HT4.out⟩
   · rw[if_pos ht]
     obtain⟨tg,b,c,d⟩:=h;have ht2:¬(tg:Int)=1:=(by simp only at ht;omega);have ht3:((tg:Int) != 1)=true:=(by rw[bne_iff_ne];exact ht2);clear hm ht hi
     go_enter func182,ntmps182
     go_wp2_with fail
     refine(Hck.out _).mono ?_;rintro e w2 ⟨rfl,hB2⟩;have T2:=HT1.out.call hB2;have c0:=T2.cell1 0;have HT2:=uh T2.below;clear T2 hB2 HT1 Hck Hof hr1
     go_wp2
     go_ret;exact⟨rfl,HT2.out⟩
 · rw[decide_eq_false hm]at Hck
   rw[if_pos hm];obtain⟨tg,b,c,d⟩:=h;clear hm hi
   go_enter func182,ntmps182
   go_wp2_with fail
   refine(Hck.out _).mono ?_;rintro e w2 ⟨rfl,hB2⟩;have HT2:=uh (HT1.out.call hB2).below;clear hB2 HT1 Hck Hof hr1
   go_wp2
   go_ret;exact⟨rfl,HT2.out⟩
end
section
open Go Go.RowKit Tryz Go.Shelf Go.IntWalk
attribute [local go_sem] Oper.semAt_some
theorem sz_place:(prog.info? 272).map (·.size)=some 2:=by kernel_rfl
theorem sz_piece:(prog.info? 343).map (·.size)=some 3:=by kernel_rfl
theorem bat (w:World)(i:Nat)(hi:i <= 65536):Calls prog 154 #[.int .i64 i] w fun e w'=>e=.returned (.agg #[.int .i64 (i/64:Nat),.int .i64 (i%64:Nat)]) /\ Below w.heap.size w w':=by
 have k1:((i:Int)).tdiv 64=((i/64:Nat):Int):=tdiv_nat _ 64;have k2:((i:Int)).tmod 64=((i%64:Nat):Int):=by rw[Int.tmod_eq_emod_of_nonneg (by omega)];omega
 have k3:(i:Int)/64=((i/64:Nat):Int):=by omega
 have k4:(i:Int)%64=((i%64:Nat):Int):=by omega
 have T:=(Turn.refl (Has.nil w)).alloc (.cells #[.int .i64 (i/64:Nat),.int .i64 (i%64:Nat)] 272);have HT2:=uh T;have hr:=T.range1;have hsz:=sz_place;have hq:i/64 <= 65536:=by omega
 generalize i/64=q at*;generalize i%64=r at*;clear T
 go_enter func154,ntmps154
 go_wp2_with fail
 refine bodyPost_ret (res_cell results154 _ _ _ _ _ rfl hr underlying272 rfl hsz) rfl ?_;exact⟨rfl,HT2.out.below⟩
theorem pieces_in (n:Nat)(i k:Int)(w:World):
  CallsIn Fence.wide n prog 207 #[.int .i64 i,.int .i64 k] w fun e w'=>e=.returned (.func (.func 244) #[] #[pt (w.heap.size+1),pt w.heap.size]) /\ w'=(w.alloc (.cells #[.int .i64 i] 3)).alloc (.cells #[.int .i64 k] 3):=by
 have hf:Fence.wide.fn 207:= trivial;refine callsIn_of_wp func207 rfl hf ?_ rfl;simp only[ntmps207,List.size_toArray,List.length_cons,List.length_nil,Nat.reduceAdd,Nat.reduceSub,Array.replicate_succ,Array.replicate_zero,List.push_toArray,List.append_toArray,List.nil_append,List.cons_append]
 gi_wp2
 go_ret;exact⟨rfl,rfl⟩
end
section
open Go Go.RowKit Tryz Go.Shelf Go.IntWalk
attribute [local go_sem] Oper.semAt_some
def sumK (xs:List (Nat×Nat)):Nat:=(xs.map (·.2)).sum
theorem sumK_snoc (xs:List (Nat×Nat))(x:Nat×Nat):sumK (xs++[x])=sumK xs+x.2:=by simp[sumK]
def pcNx (i n:Nat)(pre:List (Nat×Nat))(x:Nat×Nat):Prop:=sumK pre<n /\ x=(i+sumK pre,pk (i+sumK pre) (n-sumK pre))
def pcArgs (x:Nat×Nat):Array Value:=#[.agg #[.int .i64 (x.1/64:Nat),.int .i64 (x.1%64:Nat),.int .u64 (pmask x.2 (x.1%64):Nat)]]
structure KpBox (Bn Bi:Nat)(A B:World):Prop where
 n:B.heap[Bn]?= A.heap[Bn]?
 i:B.heap[Bi]?= A.heap[Bi]?
def UpBox (Bn Bi:Nat)(A B:World):Prop:=∃v,B=A.setCell ⟨Bn,0,none⟩ v∨B=A.setCell ⟨Bi,0,none⟩ v
def pcBoxes (Bn Bi:Nat)(n i:Nat):List Blk:=[(Bn,.cells #[.int .i64 n] 3),(Bi,.cells #[.int .i64 i] 3)]
theorem Has.below {w w':World}{l:List Blk}(h:Has w l)(hB:Below w.heap.size w w'):Has w' l:=(Turn.of_below h hB).has
theorem below_grownBy {w w':World}(hB:Below w.heap.size w w'):w.grownBy w' none:=⟨hB.os,hB.tape,hB.output,hB.size,fun b hb _=>hB.block b hb⟩
theorem Has.kp {Bn Bi n i:Nat}{A B:World}(h:Has A (pcBoxes Bn Bi n i))(k:KpBox Bn Bi A B):Has B (pcBoxes Bn Bi n i):=by
 refine⟨h.nd,fun b o hm=>?_⟩;have h1:=h.own b o hm;simp only[pcBoxes,List.mem_cons,List.not_mem_nil,or_false]at hm;rcases hm with hm|hm
 ·cases hm;exact k.n.trans h1
 ·cases hm;exact k.i.trans h1
theorem pmask_mul {k b:Nat}(h:k+b <= 64):IntKind.u64.wrap (((2^k-1:Nat):Int)*2^b)=((pmask k b:Nat):Int):=by
 have h1:=pmask_lt h;unfold pmask at*;rw[IntKind.wrap_u64];have:((2^k-1:Nat):Int)*2^b=(((2^k-1)*2^b:Nat):Int):=by push_cast;rfl
 rw[this];omega
theorem mask_run {k r:Nat}(hk:k<64)(h:k+r <= 64):IntKind.u64.wrap (IntKind.u64.wrap (IntKind.u64.wrap (2^k)-1)*2^r)=((pmask k r:Nat):Int):=by
 have h1:(2:Nat)^k <= 2^63:=Nat.pow_le_pow_right (by omega) (by omega);have h2:(2:Nat)^63=9223372036854775808:=by decide
 have h3:0<(2:Nat)^k:=Nat.two_pow_pos k
 have e1:IntKind.u64.wrap (2^k)=((2^k:Nat):Int):=by
  rw[IntKind.wrap_u64,show(2:Int)^k=((2^k:Nat):Int)by push_cast;rfl];omega
 have e2:IntKind.u64.wrap (((2^k:Nat):Int)-1)=((2^k-1:Nat):Int):=by
  rw[IntKind.wrap_u64];omega
 rw[e1,e2,pmask_mul h]
theorem pieces_up (n:Nat)(hn:2 <= n)(Bn Bi i0 n0:Nat)(hsm:i0+n0 <= 65536)(w:World)(hH:Has w (pcBoxes Bn Bi n0 i0)):
  SeqUp Fence.wide n prog 244 #[pt Bn,pt Bi] pcArgs (KpBox Bn Bi) (pcNx i0 n0) (fun xs=>sumK xs=n0) (UpBox Bn Bi) w:=fun l J Jx W hW hJ hJx hUp hY h0=>by
 have hH0:Has W (pcBoxes Bn Bi n0 i0):=hH.below hW;have hf:Fence.wide.fn 244:= trivial;have hfl:Fence.wide.fn 154:= trivial;refine callsIn_of_wp func244 rfl hf ?_ rfl;simp only[ntmps244,List.size_toArray,List.length_cons,List.length_nil,Nat.reduceAdd,Nat.reduceSub,Array.replicate_succ,Array.replicate_zero,List.push_toArray,List.append_toArray,List.nil_append,List.cons_append];have h1:1 <= n:=by omega
 have h2:1 <= n-1:=by omega
 have HY:=uh hY;have HJ:=uh hJ;have HUp:=uh hUp;have HH0:=uh hH0;have hsz:=sz_piece;clear hY hJ hUp hJx hW hH hH0
 gi_wp2_with fail
 gi_loopw [5] (fun _ wr=>∃pre:List (Nat×Nat),sumK pre <= n0 /\ J pre wr /\ Has wr (pcBoxes Bn Bi (n0-sumK pre) (i0+sumK pre)))
  (fun _ wr=>match wr.cell? ⟨Bn,0,none⟩with|some (.int _ k)=>k.toNat|_=>0)
 case atStart=>exact⟨[],Nat.zero_le _,h0,HH0.out⟩
 case round=>
  clear HH0 h0;obtain⟨pre,hle,hJw,hHw⟩:=hrel;have cn:wr.cell? ⟨Bn,0,none⟩=some (.int .i64 (n0-sumK pre:Nat)):=hHw.cell (b:=Bn) (c:=#[.int .i64 (n0-sumK pre:Nat)]) (e:=3) (f:=(0,0)) (by simp[pcBoxes]) 0;have ci:wr.cell? ⟨Bi,0,none⟩=some (.int .i64 (i0+sumK pre:Nat)):=hHw.cell (b:=Bi) (c:=#[.int .i64 (i0+sumK pre:Nat)]) (e:=3) (f:=(0,0)) (by simp[pcBoxes]) 0
  by_cases hlt:sumK pre<n0
  · obtain⟨s,hs⟩:∃s,sumK pre=s:=⟨_,rfl⟩
    rw[hs]at hlt hle hHw cn ci;have hNx:pcNx i0 n0 pre (i0+s,pk (i0+s) (n0-s)):=⟨by rw[hs];exact hlt,by rw[hs]⟩;have HY2:=uh (fun W1=>HY.out pre _ W1 hNx);have Hsn:=uh (sumK_snoc pre (i0+s,pk (i0+s) (n0-s)));rw[hs]at Hsn;clear hNx HY;have hpk:=pk_le (i0+s) (n0-s);have hpn:=pk_n (i0+s) (n0-s);have hpp:=pk_pos (i:=i0+s) (n:=n0-s) (by omega);have Hmin:=uh (show min (n0-s) (64-(i0+s)%64)=pk (i0+s) (n0-s)from rfl);unfold pcArgs at HY2;simp only at HY2 Hsn;have Hat:=uh (fun w'=>bat w' (i0+s) (by omega));obtain⟨i1,hi1⟩:∃i1,i0+s=i1:=⟨_,rfl⟩;obtain⟨m1,hm1⟩:∃m1,n0-s=m1:=⟨_,rfl⟩;rw[hi1]at hHw ci HY2 Hsn hpk hpp Hmin Hat hpn;rw[hm1]at hHw cn HY2 Hsn hpk hpn hpp Hmin;have hq:i1/64 <= 65536:=(by omega);have hb1:i1+pk i1 m1 <= 65536:=(by omega);have hb2:m1 <= 65536:=(by omega);have hr:i1%64<64:=(by omega);generalize pk i1 m1=k at*;have hpos:(0:Int)<(m1:Int):=(by omega);have HHw:=uh hHw;have HJw:=uh hJw;have HT0:=uh (Turn.refl (Has.nil wr));generalize i1/64=q at*;generalize i1%64=r at*;clear hHw hJw;have cn9:=cn;rcases(show m1=k∨(64-(r:Int)=(k:Int) /\ ¬m1 <= k)by have:=Hmin.out;omega)with hA|⟨hA,hA2⟩
    · subst hA
      have hmn:decide ((m1:Int) <= 64-(r:Int))=true:=decide_eq_true (by omega);have hmn2:(m1:Int) <= 64-(r:Int):=(by omega);clear Hmin
      by_cases hk:m1<64
      · have hM:IntKind.u64.wrap (IntKind.u64.wrap (IntKind.u64.wrap (2^m1)-1)*2^r)=((pmask m1 r:Nat):Int):=mask_run hk (by omega)
        have hk1:decide ((m1:Int)<64)=true:=decide_eq_true (by omega);have hk2:decide (m1<64)=true:=decide_eq_true hk
        gi_wp2_with (first
         | (gi_at_call 154;go_loud (refine(callsIn_wide.2 (Hat.out _)).mono ?_;rintro e w1 ⟨rfl,hB1⟩;have T1:=(HT0.out.call hB1).alloc (.cells #[.int .i64 q,.int .i64 r,.int .u64 (pmask m1 r:Nat)] 343);have HB:=uh T1.below;have cn1:=(HHw.out.below (w':=w1.alloc (.cells #[.int .i64 q,.int .i64 r,.int .u64 18446744073709551615] 343)) ((HT0.out.call hB1).alloc _).below).cell (b:=Bn) (c:=#[.int .i64 m1]) (e:=3) (f:=(0,0)) (by simp[pcBoxes]) 0;obtain⟨fn,tmps,assign,body,hy,hR⟩:=HY2.out _ (HJ.out pre wr _ none HJw.out (below_grownBy HB.out) (fun r e=>by cases e));have HR:=uh hR;clear hR))
         | fail)
        refine HR.out.mono ?_;rintro e W3 (⟨rfl,hJ3,hk3⟩|⟨rfl,hJx3⟩)
        · have HH3:=((HHw.out.below HB.out).kp hk3)
          have HJ3:=uh hJ3;have T3:=(Turn.refl HH3);have b1:W3.cell? ⟨Bn,0,none⟩=some (.int .i64 m1):=T3.has.cell (b:=Bn) (c:=#[.int .i64 m1]) (e:=3) (f:=(0,0)) (by simp[pcBoxes]) 0;have b2:W3.cell? ⟨Bi,0,none⟩=some (.int .i64 i1):=T3.has.cell (b:=Bi) (c:=#[.int .i64 i1]) (e:=3) (f:=(0,0)) (by simp[pcBoxes]) 0;have f2:W3.frozen? ⟨Bi,0,none⟩=false:=T3.has.free (b:=Bi) (c:=#[.int .i64 i1]) (e:=3) (by simp[pcBoxes]) 0;have T3':Turn (pcBoxes Bn Bi m1 i1) W3 ((Bi,.cells #[.int .i64 i1] 3)::[(Bn,.cells #[.int .i64 m1] 3)]) W3:=T3.swap;have T4:=T3'.setCell 0 (.int .i64 ((i1:Int)+(m1:Int)));have b3:(W3.setCell ⟨Bi,0,none⟩ (.int .i64 ((i1:Int)+(m1:Int)))).cell? ⟨Bn,0,none⟩=some (.int .i64 m1):=T4.cell2 0;have f3:(W3.setCell ⟨Bi,0,none⟩ (.int .i64 ((i1:Int)+(m1:Int)))).frozen? ⟨Bn,0,none⟩=false:=T4.free2 0;have T5:=T4.swap.setCell 0 (.int .i64 0);have HT5:=uh T5.drew;have HJ5:=uh (HJ.out _ _ ((W3.setCell ⟨Bi,0,none⟩ (.int .i64 ((i1:Int)+(m1:Int)))).setCell ⟨Bn,0,none⟩ (.int .i64 0)).drew none (HUp.out _ _ _ (HUp.out _ _ _ hJ3 ⟨.int .i64 ((i1:Int)+(m1:Int)),.inr rfl⟩) ⟨.int .i64 0,.inl rfl⟩) ⟨rfl,rfl,rfl,Nat.le_refl _,fun _ _ _=>rfl⟩ (fun r e=>by cases e));have f1:W3.frozen? ⟨Bn,0,none⟩=false:=T3.has.free (b:=Bn) (c:=#[.int .i64 m1]) (e:=3) (by simp[pcBoxes]) 0;have T6:=(Turn.setCell (T3:Turn (pcBoxes Bn Bi m1 i1) W3 ((Bn,.cells #[.int .i64 m1] 3)::[(Bi,.cells #[.int .i64 i1] 3)]) W3) 0 (.int .i64 0)).swap
          have f4:(W3.setCell ⟨Bn,0,none⟩ (.int .i64 0)).frozen? ⟨Bi,0,none⟩=false:=T6.free1 0;have HT6:=uh ((T6.setCell 0 (.int .i64 ((i1:Int)+(m1:Int)))).swap.drew);have HJ6:=uh (HJ.out _ _ ((W3.setCell ⟨Bn,0,none⟩ (.int .i64 0)).setCell ⟨Bi,0,none⟩ (.int .i64 ((i1:Int)+(m1:Int)))).drew none (HUp.out _ _ _ (HUp.out _ _ _ hJ3 ⟨.int .i64 0,.inl rfl⟩) ⟨.int .i64 ((i1:Int)+(m1:Int)),.inr rfl⟩) ⟨rfl,rfl,rfl,Nat.le_refl _,fun _ _ _=>rfl⟩ (fun r e=>by cases e));have E1:((i0+(s+m1):Nat):Int)=(i1:Int)+(m1:Int):=(by omega);have E2:((n0-(s+m1):Nat):Int)=0:=(by omega);have HE1:=uh E1;have HE2:=uh E2;clear E1 E2 T6;clear HH3 HR hk3 hJ3 HJ3 T3 T3' T4 T5 cn ci cn1 hy HY2 Hat hM
          gi_wp2_with fail
          gi_region
          all_goals (
           gi_wp2_with fail
           go_roundw
           case rel=>
            first
             | (refine⟨pre++[(i1,m1)],by rw[Hsn.out];omega,HJ5.out,?_⟩;rw[Hsn.out];unfold pcBoxes;rw[HE1.out,HE2.out];exact HT5.out.has)
             | (refine⟨pre++[(i1,m1)],by rw[Hsn.out];omega,HJ6.out,?_⟩;rw[Hsn.out];unfold pcBoxes;rw[HE1.out,HE2.out];exact HT6.out.has)
           case measure=>
            simp only[cn9]
            first
             | (rw[show(((W3.setCell ⟨Bi,0,none⟩ (.int .i64 ((i1:Int)+(m1:Int)))).setCell ⟨Bn,0,none⟩ (.int .i64 0)).drew).cell? ⟨Bn,0,none⟩=some (.int .i64 0)from HT5.out.cell1 0];simp only;omega)
             | (rw[show(((W3.setCell ⟨Bn,0,none⟩ (.int .i64 0)).setCell ⟨Bi,0,none⟩ (.int .i64 ((i1:Int)+(m1:Int)))).drew).cell? ⟨Bn,0,none⟩=some (.int .i64 0)from HT6.out.cell1 0];simp only;omega))
        · clear HR cn ci cn1 hy HY2 Hat hM
          gi_wp2_with fail
          refine bodyPost_ret (results_none rfl _ _ _) rfl ?_;exact⟨⟨_,rfl⟩,.inr ⟨_,hJx3⟩⟩
      · have hM:IntKind.u64.wrap (18446744073709551615*2^r)=((pmask m1 r:Nat):Int):=by
          have h0:m1=64:=(by omega);have h9:r=0:=(by omega);rw[h0,h9]
          rfl
        have hk1:decide ((m1:Int)<64)=false:=decide_eq_false (by omega);have hk2:decide (m1<64)=false:=decide_eq_false hk
        gi_wp2_with (first
         | (gi_at_call 154;go_loud (refine(callsIn_wide.2 (Hat.out _)).mono ?_;rintro e w1 ⟨rfl,hB1⟩;have T1:=(HT0.out.call hB1).alloc (.cells #[.int .i64 q,.int .i64 r,.int .u64 (pmask m1 r:Nat)] 343);have HB:=uh T1.below;have cn1:=(HHw.out.below (w':=w1.alloc (.cells #[.int .i64 q,.int .i64 r,.int .u64 18446744073709551615] 343)) ((HT0.out.call hB1).alloc _).below).cell (b:=Bn) (c:=#[.int .i64 m1]) (e:=3) (f:=(0,0)) (by simp[pcBoxes]) 0;obtain⟨fn,tmps,assign,body,hy,hR⟩:=HY2.out _ (HJ.out pre wr _ none HJw.out (below_grownBy HB.out) (fun r e=>by cases e));have HR:=uh hR;clear hR))
         | fail)
        refine HR.out.mono ?_;rintro e W3 (⟨rfl,hJ3,hk3⟩|⟨rfl,hJx3⟩)
        · have HH3:=((HHw.out.below HB.out).kp hk3)
          have HJ3:=uh hJ3;have T3:=(Turn.refl HH3);have b1:W3.cell? ⟨Bn,0,none⟩=some (.int .i64 m1):=T3.has.cell (b:=Bn) (c:=#[.int .i64 m1]) (e:=3) (f:=(0,0)) (by simp[pcBoxes]) 0;have b2:W3.cell? ⟨Bi,0,none⟩=some (.int .i64 i1):=T3.has.cell (b:=Bi) (c:=#[.int .i64 i1]) (e:=3) (f:=(0,0)) (by simp[pcBoxes]) 0;have f2:W3.frozen? ⟨Bi,0,none⟩=false:=T3.has.free (b:=Bi) (c:=#[.int .i64 i1]) (e:=3) (by simp[pcBoxes]) 0;have T3':Turn (pcBoxes Bn Bi m1 i1) W3 ((Bi,.cells #[.int .i64 i1] 3)::[(Bn,.cells #[.int .i64 m1] 3)]) W3:=T3.swap;have T4:=T3'.setCell 0 (.int .i64 ((i1:Int)+(m1:Int)));have b3:(W3.setCell ⟨Bi,0,none⟩ (.int .i64 ((i1:Int)+(m1:Int)))).cell? ⟨Bn,0,none⟩=some (.int .i64 m1):=T4.cell2 0;have f3:(W3.setCell ⟨Bi,0,none⟩ (.int .i64 ((i1:Int)+(m1:Int)))).frozen? ⟨Bn,0,none⟩=false:=T4.free2 0;have T5:=T4.swap.setCell 0 (.int .i64 0);have HT5:=uh T5.drew;have HJ5:=uh (HJ.out _ _ ((W3.setCell ⟨Bi,0,none⟩ (.int .i64 ((i1:Int)+(m1:Int)))).setCell ⟨Bn,0,none⟩ (.int .i64 0)).drew none (HUp.out _ _ _ (HUp.out _ _ _ hJ3 ⟨.int .i64 ((i1:Int)+(m1:Int)),.inr rfl⟩) ⟨.int .i64 0,.inl rfl⟩) ⟨rfl,rfl,rfl,Nat.le_refl _,fun _ _ _=>rfl⟩ (fun r e=>by cases e));have f1:W3.frozen? ⟨Bn,0,none⟩=false:=T3.has.free (b:=Bn) (c:=#[.int .i64 m1]) (e:=3) (by simp[pcBoxes]) 0;have T6:=(Turn.setCell (T3:Turn (pcBoxes Bn Bi m1 i1) W3 ((Bn,.cells #[.int .i64 m1] 3)::[(Bi,.cells #[.int .i64 i1] 3)]) W3) 0 (.int .i64 0)).swap
          have f4:(W3.setCell ⟨Bn,0,none⟩ (.int .i64 0)).frozen? ⟨Bi,0,none⟩=false:=T6.free1 0;have HT6:=uh ((T6.setCell 0 (.int .i64 ((i1:Int)+(m1:Int)))).swap.drew);have HJ6:=uh (HJ.out _ _ ((W3.setCell ⟨Bn,0,none⟩ (.int .i64 0)).setCell ⟨Bi,0,none⟩ (.int .i64 ((i1:Int)+(m1:Int)))).drew none (HUp.out _ _ _ (HUp.out _ _ _ hJ3 ⟨.int .i64 0,.inl rfl⟩) ⟨.int .i64 ((i1:Int)+(m1:Int)),.inr rfl⟩) ⟨rfl,rfl,rfl,Nat.le_refl _,fun _ _ _=>rfl⟩ (fun r e=>by cases e));have E1:((i0+(s+m1):Nat):Int)=(i1:Int)+(m1:Int):=(by omega);have E2:((n0-(s+m1):Nat):Int)=0:=(by omega);have HE1:=uh E1;have HE2:=uh E2;clear E1 E2 T6;clear HH3 HR hk3 hJ3 HJ3 T3 T3' T4 T5 cn ci cn1 hy HY2 Hat hM
          gi_wp2_with fail
          gi_region
          all_goals (
           gi_wp2_with fail
           go_roundw
           case rel=>
            first
             | (refine⟨pre++[(i1,m1)],by rw[Hsn.out];omega,HJ5.out,?_⟩;rw[Hsn.out];unfold pcBoxes;rw[HE1.out,HE2.out];exact HT5.out.has)
             | (refine⟨pre++[(i1,m1)],by rw[Hsn.out];omega,HJ6.out,?_⟩;rw[Hsn.out];unfold pcBoxes;rw[HE1.out,HE2.out];exact HT6.out.has)
           case measure=>
            simp only[cn9]
            first
             | (rw[show(((W3.setCell ⟨Bi,0,none⟩ (.int .i64 ((i1:Int)+(m1:Int)))).setCell ⟨Bn,0,none⟩ (.int .i64 0)).drew).cell? ⟨Bn,0,none⟩=some (.int .i64 0)from HT5.out.cell1 0];simp only;omega)
             | (rw[show(((W3.setCell ⟨Bn,0,none⟩ (.int .i64 0)).setCell ⟨Bi,0,none⟩ (.int .i64 ((i1:Int)+(m1:Int)))).drew).cell? ⟨Bn,0,none⟩=some (.int .i64 0)from HT6.out.cell1 0];simp only;omega))
        · clear HR cn ci cn1 hy HY2 Hat hM
          gi_wp2_with fail
          refine bodyPost_ret (results_none rfl _ _ _) rfl ?_;exact⟨⟨_,rfl⟩,.inr ⟨_,hJx3⟩⟩
    · have hmn:decide ((m1:Int) <= (k:Int))=false:=decide_eq_false (by omega)
      have hmn2:¬(m1:Int) <= (k:Int):=(by omega);clear Hmin
      by_cases hk:k<64
      · have hM:IntKind.u64.wrap (IntKind.u64.wrap (IntKind.u64.wrap (2^k)-1)*2^r)=((pmask k r:Nat):Int):=mask_run hk (by omega)
        have hk1:decide ((k:Int)<64)=true:=decide_eq_true (by omega);have hk2:decide (k<64)=true:=decide_eq_true hk
        gi_wp2_with (first
         | (gi_at_call 154;go_loud (refine(callsIn_wide.2 (Hat.out _)).mono ?_;rintro e w1 ⟨rfl,hB1⟩;have T1:=(HT0.out.call hB1).alloc (.cells #[.int .i64 q,.int .i64 r,.int .u64 (pmask k r:Nat)] 343);have HB:=uh T1.below;have cn1:=(HHw.out.below (w':=w1.alloc (.cells #[.int .i64 q,.int .i64 r,.int .u64 18446744073709551615] 343)) ((HT0.out.call hB1).alloc _).below).cell (b:=Bn) (c:=#[.int .i64 m1]) (e:=3) (f:=(0,0)) (by simp[pcBoxes]) 0;obtain⟨fn,tmps,assign,body,hy,hR⟩:=HY2.out _ (HJ.out pre wr _ none HJw.out (below_grownBy HB.out) (fun r e=>by cases e));have HR:=uh hR;clear hR))
         | fail)
        refine HR.out.mono ?_;rintro e W3 (⟨rfl,hJ3,hk3⟩|⟨rfl,hJx3⟩)
        · have HH3:=((HHw.out.below HB.out).kp hk3)
          have HJ3:=uh hJ3;have T3:=(Turn.refl HH3);have b1:W3.cell? ⟨Bn,0,none⟩=some (.int .i64 m1):=T3.has.cell (b:=Bn) (c:=#[.int .i64 m1]) (e:=3) (f:=(0,0)) (by simp[pcBoxes]) 0;have b2:W3.cell? ⟨Bi,0,none⟩=some (.int .i64 i1):=T3.has.cell (b:=Bi) (c:=#[.int .i64 i1]) (e:=3) (f:=(0,0)) (by simp[pcBoxes]) 0;have f2:W3.frozen? ⟨Bi,0,none⟩=false:=T3.has.free (b:=Bi) (c:=#[.int .i64 i1]) (e:=3) (by simp[pcBoxes]) 0;have T3':Turn (pcBoxes Bn Bi m1 i1) W3 ((Bi,.cells #[.int .i64 i1] 3)::[(Bn,.cells #[.int .i64 m1] 3)]) W3:=T3.swap;have T4:=T3'.setCell 0 (.int .i64 ((i1:Int)+(k:Int)));have b3:(W3.setCell ⟨Bi,0,none⟩ (.int .i64 ((i1:Int)+(k:Int)))).cell? ⟨Bn,0,none⟩=some (.int .i64 m1):=T4.cell2 0;have f3:(W3.setCell ⟨Bi,0,none⟩ (.int .i64 ((i1:Int)+(k:Int)))).frozen? ⟨Bn,0,none⟩=false:=T4.free2 0;have T5:=T4.swap.setCell 0 (.int .i64 ((m1:Int)-(k:Int)));have HT5:=uh T5.drew;have HJ5:=uh (HJ.out _ _ ((W3.setCell ⟨Bi,0,none⟩ (.int .i64 ((i1:Int)+(k:Int)))).setCell ⟨Bn,0,none⟩ (.int .i64 ((m1:Int)-(k:Int)))).drew none (HUp.out _ _ _ (HUp.out _ _ _ hJ3 ⟨.int .i64 ((i1:Int)+(k:Int)),.inr rfl⟩) ⟨.int .i64 ((m1:Int)-(k:Int)),.inl rfl⟩) ⟨rfl,rfl,rfl,Nat.le_refl _,fun _ _ _=>rfl⟩ (fun r e=>by cases e));have f1:W3.frozen? ⟨Bn,0,none⟩=false:=T3.has.free (b:=Bn) (c:=#[.int .i64 m1]) (e:=3) (by simp[pcBoxes]) 0
          have T6:=(Turn.setCell (T3:Turn (pcBoxes Bn Bi m1 i1) W3 ((Bn,.cells #[.int .i64 m1] 3)::[(Bi,.cells #[.int .i64 i1] 3)]) W3) 0 (.int .i64 ((m1:Int)-(k:Int)))).swap;have f4:(W3.setCell ⟨Bn,0,none⟩ (.int .i64 ((m1:Int)-(k:Int)))).frozen? ⟨Bi,0,none⟩=false:=T6.free1 0;have HT6:=uh ((T6.setCell 0 (.int .i64 ((i1:Int)+(k:Int)))).swap.drew);have HJ6:=uh (HJ.out _ _ ((W3.setCell ⟨Bn,0,none⟩ (.int .i64 ((m1:Int)-(k:Int)))).setCell ⟨Bi,0,none⟩ (.int .i64 ((i1:Int)+(k:Int)))).drew none (HUp.out _ _ _ (HUp.out _ _ _ hJ3 ⟨.int .i64 ((m1:Int)-(k:Int)),.inl rfl⟩) ⟨.int .i64 ((i1:Int)+(k:Int)),.inr rfl⟩) ⟨rfl,rfl,rfl,Nat.le_refl _,fun _ _ _=>rfl⟩ (fun r e=>by cases e));have E1:((i0+(s+k):Nat):Int)=(i1:Int)+(k:Int):=(by omega);have E2:((n0-(s+k):Nat):Int)=((m1:Int)-(k:Int)):=(by omega);have HE1:=uh E1;have HE2:=uh E2;clear E1 E2 T6;clear HH3 HR hk3 hJ3 HJ3 T3 T3' T4 T5 cn ci cn1 hy HY2 Hat hM
          gi_wp2_with fail
          gi_region
          all_goals (
           gi_wp2_with fail
           go_roundw
           case rel=>
            first
             | (refine⟨pre++[(i1,k)],by rw[Hsn.out];omega,HJ5.out,?_⟩;rw[Hsn.out];unfold pcBoxes;rw[HE1.out,HE2.out];exact HT5.out.has)
             | (refine⟨pre++[(i1,k)],by rw[Hsn.out];omega,HJ6.out,?_⟩;rw[Hsn.out];unfold pcBoxes;rw[HE1.out,HE2.out];exact HT6.out.has)
           case measure=>
            simp only[cn9]
            first
             | (rw[show(((W3.setCell ⟨Bi,0,none⟩ (.int .i64 ((i1:Int)+(k:Int)))).setCell ⟨Bn,0,none⟩ (.int .i64 ((m1:Int)-(k:Int)))).drew).cell? ⟨Bn,0,none⟩=some (.int .i64 ((m1:Int)-(k:Int)))from HT5.out.cell1 0];simp only;omega)
             | (rw[show(((W3.setCell ⟨Bn,0,none⟩ (.int .i64 ((m1:Int)-(k:Int)))).setCell ⟨Bi,0,none⟩ (.int .i64 ((i1:Int)+(k:Int)))).drew).cell? ⟨Bn,0,none⟩=some (.int .i64 ((m1:Int)-(k:Int)))from HT6.out.cell1 0];simp only;omega))
        · clear HR cn ci cn1 hy HY2 Hat hM
          gi_wp2_with fail
          refine bodyPost_ret (results_none rfl _ _ _) rfl ?_;exact⟨⟨_,rfl⟩,.inr ⟨_,hJx3⟩⟩
      · have hM:IntKind.u64.wrap (18446744073709551615*2^r)=((pmask k r:Nat):Int):=by
          have h0:k=64:=(by omega);have h9:r=0:=(by omega);rw[h0,h9]
          rfl
        have hk1:decide ((k:Int)<64)=false:=decide_eq_false (by omega);have hk2:decide (k<64)=false:=decide_eq_false hk
        gi_wp2_with (first
         | (gi_at_call 154;go_loud (refine(callsIn_wide.2 (Hat.out _)).mono ?_;rintro e w1 ⟨rfl,hB1⟩;have T1:=(HT0.out.call hB1).alloc (.cells #[.int .i64 q,.int .i64 r,.int .u64 (pmask k r:Nat)] 343);have HB:=uh T1.below;have cn1:=(HHw.out.below (w':=w1.alloc (.cells #[.int .i64 q,.int .i64 r,.int .u64 18446744073709551615] 343)) ((HT0.out.call hB1).alloc _).below).cell (b:=Bn) (c:=#[.int .i64 m1]) (e:=3) (f:=(0,0)) (by simp[pcBoxes]) 0;obtain⟨fn,tmps,assign,body,hy,hR⟩:=HY2.out _ (HJ.out pre wr _ none HJw.out (below_grownBy HB.out) (fun r e=>by cases e));have HR:=uh hR;clear hR))
         | fail)
        refine HR.out.mono ?_;rintro e W3 (⟨rfl,hJ3,hk3⟩|⟨rfl,hJx3⟩)
        · have HH3:=((HHw.out.below HB.out).kp hk3)
          have HJ3:=uh hJ3;have T3:=(Turn.refl HH3);have b1:W3.cell? ⟨Bn,0,none⟩=some (.int .i64 m1):=T3.has.cell (b:=Bn) (c:=#[.int .i64 m1]) (e:=3) (f:=(0,0)) (by simp[pcBoxes]) 0;have b2:W3.cell? ⟨Bi,0,none⟩=some (.int .i64 i1):=T3.has.cell (b:=Bi) (c:=#[.int .i64 i1]) (e:=3) (f:=(0,0)) (by simp[pcBoxes]) 0;have f2:W3.frozen? ⟨Bi,0,none⟩=false:=T3.has.free (b:=Bi) (c:=#[.int .i64 i1]) (e:=3) (by simp[pcBoxes]) 0;have T3':Turn (pcBoxes Bn Bi m1 i1) W3 ((Bi,.cells #[.int .i64 i1] 3)::[(Bn,.cells #[.int .i64 m1] 3)]) W3:=T3.swap;have T4:=T3'.setCell 0 (.int .i64 ((i1:Int)+(k:Int)));have b3:(W3.setCell ⟨Bi,0,none⟩ (.int .i64 ((i1:Int)+(k:Int)))).cell? ⟨Bn,0,none⟩=some (.int .i64 m1):=T4.cell2 0;have f3:(W3.setCell ⟨Bi,0,none⟩ (.int .i64 ((i1:Int)+(k:Int)))).frozen? ⟨Bn,0,none⟩=false:=T4.free2 0;have T5:=T4.swap.setCell 0 (.int .i64 ((m1:Int)-(k:Int)));have HT5:=uh T5.drew;have HJ5:=uh (HJ.out _ _ ((W3.setCell ⟨Bi,0,none⟩ (.int .i64 ((i1:Int)+(k:Int)))).setCell ⟨Bn,0,none⟩ (.int .i64 ((m1:Int)-(k:Int)))).drew none (HUp.out _ _ _ (HUp.out _ _ _ hJ3 ⟨.int .i64 ((i1:Int)+(k:Int)),.inr rfl⟩) ⟨.int .i64 ((m1:Int)-(k:Int)),.inl rfl⟩) ⟨rfl,rfl,rfl,Nat.le_refl _,fun _ _ _=>rfl⟩ (fun r e=>by cases e));have f1:W3.frozen? ⟨Bn,0,none⟩=false:=T3.has.free (b:=Bn) (c:=#[.int .i64 m1]) (e:=3) (by simp[pcBoxes]) 0
          have T6:=(Turn.setCell (T3:Turn (pcBoxes Bn Bi m1 i1) W3 ((Bn,.cells #[.int .i64 m1] 3)::[(Bi,.cells #[.int .i64 i1] 3)]) W3) 0 (.int .i64 ((m1:Int)-(k:Int)))).swap;have f4:(W3.setCell ⟨Bn,0,none⟩ (.int .i64 ((m1:Int)-(k:Int)))).frozen? ⟨Bi,0,none⟩=false:=T6.free1 0;have HT6:=uh ((T6.setCell 0 (.int .i64 ((i1:Int)+(k:Int)))).swap.drew);have HJ6:=uh (HJ.out _ _ ((W3.setCell ⟨Bn,0,none⟩ (.int .i64 ((m1:Int)-(k:Int)))).setCell ⟨Bi,0,none⟩ (.int .i64 ((i1:Int)+(k:Int)))).drew none (HUp.out _ _ _ (HUp.out _ _ _ hJ3 ⟨.int .i64 ((m1:Int)-(k:Int)),.inl rfl⟩) ⟨.int .i64 ((i1:Int)+(k:Int)),.inr rfl⟩) ⟨rfl,rfl,rfl,Nat.le_refl _,fun _ _ _=>rfl⟩ (fun r e=>by cases e));have E1:((i0+(s+k):Nat):Int)=(i1:Int)+(k:Int):=(by omega);have E2:((n0-(s+k):Nat):Int)=((m1:Int)-(k:Int)):=(by omega);have HE1:=uh E1;have HE2:=uh E2;clear E1 E2 T6;clear HH3 HR hk3 hJ3 HJ3 T3 T3' T4 T5 cn ci cn1 hy HY2 Hat hM
          gi_wp2_with fail
          gi_region
          all_goals (
           gi_wp2_with fail
           go_roundw
           case rel=>
            first
             | (refine⟨pre++[(i1,k)],by rw[Hsn.out];omega,HJ5.out,?_⟩;rw[Hsn.out];unfold pcBoxes;rw[HE1.out,HE2.out];exact HT5.out.has)
             | (refine⟨pre++[(i1,k)],by rw[Hsn.out];omega,HJ6.out,?_⟩;rw[Hsn.out];unfold pcBoxes;rw[HE1.out,HE2.out];exact HT6.out.has)
           case measure=>
            simp only[cn9]
            first
             | (rw[show(((W3.setCell ⟨Bi,0,none⟩ (.int .i64 ((i1:Int)+(k:Int)))).setCell ⟨Bn,0,none⟩ (.int .i64 ((m1:Int)-(k:Int)))).drew).cell? ⟨Bn,0,none⟩=some (.int .i64 ((m1:Int)-(k:Int)))from HT5.out.cell1 0];simp only;omega)
             | (rw[show(((W3.setCell ⟨Bn,0,none⟩ (.int .i64 ((m1:Int)-(k:Int)))).setCell ⟨Bi,0,none⟩ (.int .i64 ((i1:Int)+(k:Int)))).drew).cell? ⟨Bn,0,none⟩=some (.int .i64 ((m1:Int)-(k:Int)))from HT6.out.cell1 0];simp only;omega))
        · clear HR cn ci cn1 hy HY2 Hat hM
          gi_wp2_with fail
          refine bodyPost_ret (results_none rfl _ _ _) rfl ?_;exact⟨⟨_,rfl⟩,.inr ⟨_,hJx3⟩⟩
  · have hz:n0-sumK pre=0:=by omega
    have hs:sumK pre=n0:=(by omega);rw[hz]at cn;have HJw:=uh hJw;clear hJw hHw hz ci
    gi_wp2_with fail
    go_end0;exact⟨⟨_,rfl⟩,.inl ⟨pre,hs,HJw.out⟩⟩
end
section
open Go Go.RowKit
theorem Turn.grownB {l L:List Blk}{w W W':World}{B:Nat}{row:Option Nat}(h:Turn l w L W)(hB:w.heap.size <= B)(hL:∀x∈L,x.2.isCells=true)(hg:W.grownBy W' row)(hr:∀r,row=some r -> B <= r /\ ∃o:Obj,W.heap[r]?= some o /\ o.isCells=false):Turn l w L W':=by
 have hne:∀b o,(b,o)∈L -> some b≠row:=fun b o hm he=>by
  obtain⟨-,o',ho',hc⟩:=hr b he.symm;have h1:=h.has.own b o hm;rw[h1]at ho'
  cases ho'
  have:=hL _ hm;rw[hc]at this
  cases this
 refine⟨hg.os.trans h.os,hg.tape.trans h.tape,hg.output.trans h.output,Nat.le_trans h.size hg.size,⟨h.has.nd,fun b o hm=>?_⟩,h.new,fun b hb hn=>?_⟩
 · rw[hg.block b (lt_of_block (h.has.own b o hm)) (hne b o hm)]
   exact h.has.own b o hm
 · rw[hg.block b (Nat.lt_of_lt_of_le hb h.size) (fun he=>by have:=(hr b he.symm).1;omega)]
   exact h.same b hb hn
theorem wpListIn_by {F:Fence}{n:Nat}{P:Program}{ops:Array Oper}{Q:Exit -> Act -> World -> Prop}{o:Oper}{rest:List Oper}{a:Act}{w:World}(hF:Follows F n P)(hgd:o.guard=none)(hd:∀c,o.op≠ .defer c)
  (h:o.wp P a w (wpListIn F n P ops Q rest) Q):wpListIn F n P ops Q (o::rest) a w:=by
 have hw:Region.wanted o (yielded ops a.tmps)=true:=by simp[Region.wanted,hgd]
 unfold wpListIn;rw[if_pos hw];exact hF.op o a w _ Q hd h
theorem keepsOthers_setCells {b:Nat}:∀(vs:List Value) (o:Nat) (W:World),KeepsOthers W (W.setCells b o vs)
 | [],_,W=>KeepsOthers.refl W
 | v::r,o,W=>(KeepsOthers.setCell W ⟨b,o,none⟩ v).trans (keepsOthers_setCells r (o+1) _)
theorem Turn.keepsOthers {L L':List Blk}{W W':World}(h:Turn L W L' W')(hH:Has W L)(hc:∀x∈L,x.2.isCells=true):KeepsOthers W W':=
 ⟨h.size,fun k o hk ho=>(h.same k (lt_of_block hk) (fun hm=>by
  obtain⟨o',ho'⟩:=mem_keys.1 hm;have h1:=hH.own k o' ho';rw[hk]at h1
  cases h1
  have:=hc _ ho';rw[ho]at this
  cases this)).trans hk⟩
theorem Row.cells {e:TypeId}{size:Nat}{ao:Option Addr}{n cap:Nat}{xs:List Value}{l:List Blk}(h:Row e size ao n cap xs l):∀x∈l,x.2.isCells=true:=by
 rcases h.2.2.2 with⟨_,_,h1⟩|⟨g,cur,_,h1,_⟩
 ·rw[h1];intro x hx;cases hx
 ·rw[h1];intro x hx;rw[List.mem_singleton.1 hx];rfl
end
section
open Go Go.RowKit Tryz Go.IntWalk
def fieldCells:List Value:=[.int .i64 0,.int .i64 2,.int .i64 2,.int .i64 12,.int .i64 14,.int .i64 2,.int .i64 16,.int .i64 24,.int .i64 40,.int .i64 24]
abbrev Fields (w:World):Prop:=w.rangeAt 0 0 fieldCells
theorem fields_at {w:World}(h:Fields w){i:Nat}{v:Value}(hv:fieldCells[i]?= some v):w.cell? ⟨0,i,none⟩=some v:=by
 have:=h i v hv
 rwa [Nat.zero_add]at this
theorem hmost (w:World)(hF:Fields w)(f r:Int)(h:f=1 /\ r=4095∨f=3 /\ r=16777215∨f=4 /\ r=16777215):Calls prog 233 #[.int .i64 f] w fun e w'=>e=.returned (.int .i64 r) /\ w'=w:=by
 have c3:=fields_at hF (i:=3) rfl;have c7:=fields_at hF (i:=7) rfl;have c9:=fields_at hF (i:=9) rfl;clear hF;rcases h with⟨rfl,rfl⟩|⟨rfl,rfl⟩|⟨rfl,rfl⟩
 all_goals
  go_enter func233,ntmps233
  go_wp2
  go_ret;exact⟨rfl,rfl⟩
theorem hcheck (w:World)(hF:Fields w)(h:Hd)(hi:HdIn h):Calls prog 189 #[hdVal h] w fun e w'=>e=.returned (.int .i64 (if h.may then 0 else 2)) /\ Below w.heap.size w w':=by
 obtain⟨a,b,c,d⟩:=h;obtain⟨i1,i2,i3,i4⟩:=hi;simp only at i1 i2 i3 i4;have T1:=(Turn.refl (Has.nil w)).alloc (.cells #[.int .u8 a,.int .i64 b,.int .i64 c,.int .i64 d] 79);have c0:=T1.cell1 0;have c1:=T1.cell1 1;have c2:=T1.cell1 2;have c3:=T1.cell1 3;have HT1:=uh T1;have HM:=uh (fun n f r hfr=>hmost ((w.alloc (.cells #[.int .u8 a,.int .i64 b,.int .i64 c,.int .i64 d] 79)).drewN n) (range_below hF (T1.drewN n).below) f r hfr);have HFw:=uh hF;have Hmay:Hid ((Hd.mk a b c d).may↔1 <= d /\ d<16777216 /\ c<16777216 /\ (a=1 /\ 1 <= b /\ b <= 4095∨(a=2∨a=3) /\ b=0 /\ c=0)):=uh Iff.rfl;obtain⟨r,Hr⟩:∃r:Int,Hid (r=if (Hd.mk a b c d).may then 0 else 2):=⟨_,uh rfl⟩;rw[←Hr.out];have HF:(¬(Hd.mk a b c d).may) -> r=2:=fun hn=>by rw[Hr.out,if_neg hn]
 have HTr:(Hd.mk a b c d).may -> r=0:=fun hn=>by rw[Hr.out,if_pos hn]
 clear T1 Hr hF;have k3:decide ((c:Int)<0)=false:=decide_eq_false (by omega)
 by_cases hd1:d<1
 · obtain rfl:=HF (fun h=>by have:=Hmay.out.1 h;omega)
   have k1:decide ((d:Int)<1)=true:=decide_eq_true (by omega);clear Hmay HF HTr
   go_enter func189,ntmps189
   go_wp2_with fail
   go_quiet (first|(go_at_call 233;refine Calls.quiet_of_same (HM.out _ _ _ (.inr (.inr ⟨rfl,rfl⟩))))|(go_at_call 233;refine Calls.quiet_of_same (HM.out _ _ _ (.inr (.inl ⟨rfl,rfl⟩)))))
   go_wp2
   go_ret;exact⟨rfl,(HT1.out.drewN _).below⟩
 have k1:decide ((d:Int)<1)=false:=decide_eq_false (by omega);have n1:¬(d:Int)<1:=by omega
 by_cases hd2:16777215<d
 · obtain rfl:=HF (fun h=>by have:=Hmay.out.1 h;omega)
   have k2:decide ((16777215:Int)<(d:Int))=true:=decide_eq_true (by omega);have n2:(16777215:Int)<(d:Int):=(by omega);clear Hmay HF HTr
   go_enter func189,ntmps189
   go_wp2_with fail
   go_quiet (first|(go_at_call 233;refine Calls.quiet_of_same (HM.out _ _ _ (.inr (.inr ⟨rfl,rfl⟩))))|(go_at_call 233;refine Calls.quiet_of_same (HM.out _ _ _ (.inr (.inl ⟨rfl,rfl⟩)))))
   go_wp2
   go_ret;exact⟨rfl,(HT1.out.drewN _).below⟩
 have k2:decide ((16777215:Int)<(d:Int))=false:=decide_eq_false (by omega);have n2:¬(16777215:Int)<(d:Int):=by omega
 by_cases hc2:16777215<c
 · obtain rfl:=HF (fun h=>by have:=Hmay.out.1 h;omega)
   have k4:decide ((16777215:Int)<(c:Int))=true:=decide_eq_true (by omega);have n4:(16777215:Int)<(c:Int):=(by omega);clear Hmay HF HTr
   go_enter func189,ntmps189
   go_wp2_with fail
   go_quiet (first|(go_at_call 233;refine Calls.quiet_of_same (HM.out _ _ _ (.inr (.inr ⟨rfl,rfl⟩))))|(go_at_call 233;refine Calls.quiet_of_same (HM.out _ _ _ (.inr (.inl ⟨rfl,rfl⟩)))))
   go_wp2
   go_ret;exact⟨rfl,(HT1.out.drewN _).below⟩
 have k4:decide ((16777215:Int)<(c:Int))=false:=decide_eq_false (by omega);have n4:¬(16777215:Int)<(c:Int):=by omega
 go_enter func189,ntmps189
 go_wp2_with fail
 go_quiet (first|(go_at_call 233;refine Calls.quiet_of_same (HM.out _ _ _ (.inr (.inr ⟨rfl,rfl⟩))))|(go_at_call 233;refine Calls.quiet_of_same (HM.out _ _ _ (.inr (.inl ⟨rfl,rfl⟩)))))
 go_wp2_with fail
 refine wp_abs (fun W=>Turn [] w [(w.heap.size,.cells #[.int .u8 a,.int .i64 b,.int .i64 c,.int .i64 d] 79)] W) (HT1.out.drewN _) fun W2 T2=>?_;clear c0 c1 c2 c3 HT1 HM;have c0:=T2.cell1 0;have c1:=T2.cell1 1;have c2:=T2.cell1 2;have HM2:=uh (fun n=>hmost (W2.drewN n) (range_below HFw.out (T2.drewN n).below) 1 4095 (.inl ⟨rfl,rfl⟩));have HT2:=uh T2;clear T2
 by_cases a1:a=1
 · subst a1
   replace c0:_=some (Value.int .u8 1):=c0
   by_cases hb1:b<1
   · obtain rfl:=HF (fun h=>by have:=Hmay.out.1 h;omega)
     have k5:decide ((1:Int) <= (b:Int))=false:=decide_eq_false (by omega);have n5:¬(1:Int) <= (b:Int):=(by omega);clear Hmay HF HTr
     go_quiet (first|(go_at_call 233;refine Calls.quiet_of_same (HM2.out _)))
     go_wp2
     go_ret;exact⟨rfl,(HT2.out.drewN _).below⟩
   have k5:decide ((1:Int) <= (b:Int))=true:=decide_eq_true (by omega);have n5:(1:Int) <= (b:Int):=by omega
   by_cases hb2:4095<b
   · obtain rfl:=HF (fun h=>by have:=Hmay.out.1 h;omega)
     have k6:decide ((b:Int) <= 4095)=false:=decide_eq_false (by omega);clear Hmay HF HTr
     go_quiet (first|(go_at_call 233;refine Calls.quiet_of_same (HM2.out _)))
     go_wp2
     go_ret;exact⟨rfl,(HT2.out.drewN _).below⟩
   · obtain rfl:=HTr (Hmay.out.2 ⟨by omega,by omega,by omega,.inl ⟨rfl,by omega,by omega⟩⟩)
     have k6:decide ((b:Int) <= 4095)=true:=decide_eq_true (by omega);clear Hmay HF HTr
     go_quiet (first|(go_at_call 233;refine Calls.quiet_of_same (HM2.out _)))
     go_wp2
     go_ret;exact⟨rfl,(HT2.out.drewN _).below⟩
 have q1:¬(a:Int)=1:=by omega
 have p1:((a:Int) == 1)=false:=by rw[beq_eq_false_iff_ne];exact q1
 by_cases a23:a=2∨a=3
 · by_cases hb0:b=0
   · subst hb0
     by_cases hc0:c=0
     · subst hc0
       obtain rfl:=HTr (Hmay.out.2 ⟨by omega,by omega,by omega,.inr ⟨a23,rfl,rfl⟩⟩);clear Hmay HF HTr;rcases a23 with rfl|rfl
       · replace c0:_=some (Value.int .u8 2):=c0
         go_quiet (first|(go_at_call 233;refine Calls.quiet_of_same (HM2.out _)))
         go_wp2
         go_ret;exact⟨rfl,(HT2.out.drewN _).below⟩
       · replace c0:_=some (Value.int .u8 3):=c0
         go_quiet (first|(go_at_call 233;refine Calls.quiet_of_same (HM2.out _)))
         go_wp2
         go_ret;exact⟨rfl,(HT2.out.drewN _).below⟩
     · obtain rfl:=HF (fun h=>by have:=Hmay.out.1 h;omega)
       have k8:((c:Int) == 0)=false:=(by rw[beq_eq_false_iff_ne];omega);have n8:¬(c:Int)=0:=(by omega);clear Hmay HF HTr;rcases a23 with rfl|rfl
       · replace c0:_=some (Value.int .u8 2):=c0
         go_quiet (first|(go_at_call 233;refine Calls.quiet_of_same (HM2.out _)))
         go_wp2
         go_ret;exact⟨rfl,(HT2.out.drewN _).below⟩
       · replace c0:_=some (Value.int .u8 3):=c0
         go_quiet (first|(go_at_call 233;refine Calls.quiet_of_same (HM2.out _)))
         go_wp2
         go_ret;exact⟨rfl,(HT2.out.drewN _).below⟩
   · obtain rfl:=HF (fun h=>by have:=Hmay.out.1 h;omega)
     have k7:((b:Int) == 0)=false:=(by rw[beq_eq_false_iff_ne];omega);have n7:¬(b:Int)=0:=(by omega);clear Hmay HF HTr;rcases a23 with rfl|rfl
     · replace c0:_=some (Value.int .u8 2):=c0
       go_quiet (first|(go_at_call 233;refine Calls.quiet_of_same (HM2.out _)))
       go_wp2
       go_ret;exact⟨rfl,(HT2.out.drewN _).below⟩
     · replace c0:_=some (Value.int .u8 3):=c0
       go_quiet (first|(go_at_call 233;refine Calls.quiet_of_same (HM2.out _)))
       go_wp2
       go_ret;exact⟨rfl,(HT2.out.drewN _).below⟩
 · obtain rfl:=HF (fun h=>by have:=Hmay.out.1 h;omega)
   have q2:¬(a:Int)=2:=(by omega);have q3:¬(a:Int)=3:=(by omega);have p2:((a:Int) == 2)=false:=(by rw[beq_eq_false_iff_ne];exact q2);have p3:((a:Int) == 3)=false:=(by rw[beq_eq_false_iff_ne];exact q3);clear Hmay HF HTr a1 a23
   go_quiet (first|(go_at_call 233;refine Calls.quiet_of_same (HM2.out _)))
   go_wp2
   go_ret;exact⟨rfl,(HT2.out.drewN _).below⟩
theorem and_mod {x n:Nat}(hx:x<18446744073709551616)(hn:n <= 32):bits .and .u64 (x:Int) (((2^n-1:Nat):Int))=((x%2^n:Nat):Int):=by
 have hp:2^n-1<18446744073709551616:=by
  have:2^n <= 2^32:=Nat.pow_le_pow_right (by omega) hn;omega
 rw[u64_and_nat x (2^n-1) hx hp,Nat.and_two_pow_sub_one_eq_mod]
theorem hdecf (w:World)(hF:Fields w)(b:Nat)(v:Nat)(hv:v<18446744073709551616)(hc:w.cell? ⟨b,0,none⟩=some (.int .u64 v))(f r:Int)
  (h:f=0 /\ r=((v%4:Nat):Int)∨f=1 /\ r=((v/4%4096:Nat):Int)∨f=2 /\ r=((v/16384%4:Nat):Int)∨f=3 /\ r=((v/65536%16777216:Nat):Int)∨f=4 /\ r=((v/1099511627776:Nat):Int)):
  Calls prog 232 #[.int .i64 f,pt b] w fun e w'=>e=.returned (.int .i64 r) /\ Below w.heap.size w w':=by
 have c0:=fields_at hF (i:=0) rfl;have c1:=fields_at hF (i:=1) rfl;have c2:=fields_at hF (i:=2) rfl;have c3:=fields_at hF (i:=3) rfl;have c4:=fields_at hF (i:=4) rfl;have c5:=fields_at hF (i:=5) rfl;have c6:=fields_at hF (i:=6) rfl;have c7:=fields_at hF (i:=7) rfl;have c8:=fields_at hF (i:=8) rfl;have c9:=fields_at hF (i:=9) rfl;have hB:=uh (Turn.refl (Has.nil w));clear hF;rcases h with⟨rfl,rfl⟩|⟨rfl,rfl⟩|⟨rfl,rfl⟩|⟨rfl,rfl⟩|⟨rfl,rfl⟩
 · have hb:bits .and .u64 ((v:Int)) 3=((v%4:Nat):Int):=by
     have h:=and_mod (x:=v) (n:=2) (by omega) (by omega);rw[show(((2^2-1:Nat):Int))=3 from rfl,show(2:Nat)^2=4 from rfl]at h;rw[show((v:Nat):Int)=(v:Int)by omega]at h;rw[h]
     first|done|omega
   have hlt:v%4<16777216:=(by omega);generalize v%4=x at*
   go_enter func232,ntmps232
   go_wp2_with fail
   go_quiet (fail)
   go_wp2
   go_ret;exact⟨rfl,(hB.out.drewN _).below⟩
 · have hb:bits .and .u64 ((v:Int)/4) 4095=((v/4%4096:Nat):Int):=by
     have h:=and_mod (x:=v/4) (n:=12) (by omega) (by omega);rw[show(((2^12-1:Nat):Int))=4095 from rfl,show(2:Nat)^12=4096 from rfl]at h;rw[show((v/4:Nat):Int)=(v:Int)/4 by omega]at h;rw[h]
     first|done|omega
   have hlt:v/4%4096<16777216:=(by omega);generalize v/4%4096=x at*
   go_enter func232,ntmps232
   go_wp2_with fail
   go_quiet (fail)
   go_wp2
   go_ret;exact⟨rfl,(hB.out.drewN _).below⟩
 · have hb:bits .and .u64 ((v:Int)/16384) 3=((v/16384%4:Nat):Int):=by
     have h:=and_mod (x:=v/16384) (n:=2) (by omega) (by omega);rw[show(((2^2-1:Nat):Int))=3 from rfl,show(2:Nat)^2=4 from rfl]at h;rw[show((v/16384:Nat):Int)=(v:Int)/16384 by omega]at h;rw[h]
     first|done|omega
   have hlt:v/16384%4<16777216:=(by omega);generalize v/16384%4=x at*
   go_enter func232,ntmps232
   go_wp2_with fail
   go_quiet (fail)
   go_wp2
   go_ret;exact⟨rfl,(hB.out.drewN _).below⟩
 · have hb:bits .and .u64 ((v:Int)/65536) 16777215=((v/65536%16777216:Nat):Int):=by
     have h:=and_mod (x:=v/65536) (n:=24) (by omega) (by omega);rw[show(((2^24-1:Nat):Int))=16777215 from rfl,show(2:Nat)^24=16777216 from rfl]at h;rw[show((v/65536:Nat):Int)=(v:Int)/65536 by omega]at h;rw[h]
     first|done|omega
   have hlt:v/65536%16777216<16777216:=(by omega);generalize v/65536%16777216=x at*
   go_enter func232,ntmps232
   go_wp2_with fail
   go_quiet (fail)
   go_wp2
   go_ret;exact⟨rfl,(hB.out.drewN _).below⟩
 · have hb:bits .and .u64 ((v:Int)/1099511627776) 16777215=((v/1099511627776:Nat):Int):=by
     have h:=and_mod (x:=v/1099511627776) (n:=24) (by omega) (by omega);rw[show(((2^24-1:Nat):Int))=16777215 from rfl,show(2:Nat)^24=16777216 from rfl]at h;rw[show((v/1099511627776:Nat):Int)=(v:Int)/1099511627776 by omega]at h;rw[h]
     first|done|omega
   have hlt:v/1099511627776<16777216:=(by omega);generalize v/1099511627776=x at*
   go_enter func232,ntmps232
   go_wp2_with fail
   go_quiet (fail)
   go_wp2
   go_ret;exact⟨rfl,(hB.out.drewN _).below⟩
theorem hdec (w:World)(hF:Fields w)(v:Nat)(hv:v<18446744073709551616):Calls prog 187 #[.int .u64 v] w fun e w'=>e=.returned (.tuple #[hdVal (decHd v),.int .i64 (if (decode v).isSome then 0 else 7)]) /\ Below w.heap.size w w':=by
 have hsz:=sz_head;have hdec:decode v=if (hdOf v).may /\ gapOf v=0 then some (hdOf v)else none:=rfl;have HFw:=uh hF;obtain⟨x1,q1,b1⟩:∃x1:Nat,v%4=x1 /\ x1<4:=⟨_,rfl,by omega⟩;obtain⟨x2,q2,b2⟩:∃x2:Nat,v/4%4096=x2 /\ x2<4096:=⟨_,rfl,by omega⟩;obtain⟨x3,q3,b3⟩:∃x3:Nat,v/65536%16777216=x3 /\ x3<16777216:=⟨_,rfl,by omega⟩;obtain⟨x4,q4,b4⟩:∃x4:Nat,v/1099511627776=x4 /\ x4<16777216:=⟨_,rfl,by omega⟩;obtain⟨x5,q5,b5⟩:∃x5:Nat,v/16384%4=x5 /\ x5<4:=⟨_,rfl,by omega⟩;unfold hdOf gapOf at hdec;rw[q1,q2,q3,q4,q5]at hdec;have Hck:=uh (fun W hF=>hcheck W hF ⟨x1,x2,x3,x4⟩ ⟨by simp only;omega,by simp only;omega,by simp only;omega,by simp only;omega⟩);obtain⟨ta,tb,tc,td,er,Hv⟩:∃ta tb tc td er,Hid (decHd v=⟨ta,tb,tc,td⟩ /\ (if (decode v).isSome=true then(0:Int)else 7)=er):=⟨_,_,_,_,_,uh ⟨rfl,rfl⟩⟩;rw[Hv.out.1,Hv.out.2]
 have Hsome:∀h,decode v=some h -> h.tag=ta /\ h.typ=tb /\ h.len=tc /\ h.size=td /\ er=0:=fun h hh=>by
  have h1:=Hv.out;unfold decHd at h1;rw[hh]at h1;obtain⟨rfl,rfl⟩:=h1;exact⟨rfl,rfl,rfl,rfl,rfl⟩
 have Hnone:decode v=none -> ta=0 /\ tb=0 /\ tc=0 /\ td=0 /\ er=7:=fun hh=>by
  have h1:=Hv.out;unfold decHd at h1;rw[hh]at h1;obtain⟨h1,rfl⟩:=h1
  cases h1
  exact⟨rfl,rfl,rfl,rfl,rfl⟩
 clear Hv hF;have HC:=uh (fun W (T:Turn [] w [(w.heap.size+1,zH),(w.heap.size,.cells #[.int .u64 v] 47)] W)=>(T.cell2 0:W.cell? ⟨w.heap.size,0,none⟩=some (.int .u64 v)));have T0:=((Turn.refl (Has.nil w)).alloc (.cells #[.int .u64 v] 47)).alloc zH;rw[World.size_alloc]at T0;have HT:=uh T0;clear T0;have hoX:=hd_one ⟨x1,x2,x3,x4⟩;have hoZ:=hd0_one
 go_enter func187,ntmps187
 go_upto_region 3 with(first
  | (go_at_call 232;refine(hdecf _ (range_below HFw.out HT.out.below) w.heap.size v hv (HC.out _ HT.out) _ _ (by first|exact .inl ⟨rfl,rfl⟩|exact .inr (.inl ⟨rfl,rfl⟩)|exact .inr (.inr (.inl ⟨rfl,rfl⟩))|exact .inr (.inr (.inr (.inl ⟨rfl,rfl⟩)))|exact .inr (.inr (.inr (.inr ⟨rfl,rfl⟩))))).mono ?_;rintro e wn ⟨rfl,hBn⟩;have HTn:=uh (HT.out.call hBn);clear HT hBn;have HT:=uh HTn.out;clear HTn;simp only[q1,q2,q3,q4])
  | (show sW 79;refine wpList_store_mid rfl 79 _ _ rfl _ 0 #[.int .u8 x1,.int .i64 x2,.int .i64 x3,.int .i64 x4] rfl rfl (HT.out.alloc zH).there1 hsz hoX ?_;have HT5:=uh ((HT.out.alloc zH).laid [.int .u8 x1,.int .i64 x2,.int .i64 x3,.int .i64 x4] rfl);have hr5:=HT5.out.range1;clear HT)
  | fail)
 go_wp2_with (first
  | (show lW 79;refine wpList_load_mid rfl 79 _ rfl wn.heap.size 0 rfl [.int .u8 x1,.int .i64 x2,.int .i64 x3,.int .i64 x4] _ hr5 underlying79 rfl hsz ?_)
  | fail)
 refine(Hck.out _ (range_below HFw.out HT5.out.below)).mono ?_;rintro e w6 ⟨rfl,hB6⟩;have HT6:=uh (HT5.out.call hB6);clear HT5 hr5 hB6 Hck HC
 by_cases hm:(Hd.mk x1 x2 x3 x4).may
 · simp only[if_pos hm]
   by_cases h5:x5=0
   · rw[if_pos ⟨hm,h5⟩]at hdec
     obtain⟨rfl,rfl,rfl,rfl,rfl⟩:=Hsome _ hdec;subst h5;clear hdec hm Hsome Hnone q1 q2 q3 q4
     go_wp2_with (first
      | (go_at_call 232;refine(hdecf _ (range_below HFw.out HT6.out.below) w.heap.size v hv (HT6.out.cell3 0) _ _ (by first|exact .inr (.inr (.inl ⟨rfl,rfl⟩)))).mono ?_;rintro e wn7 ⟨rfl,hBn7⟩;have HT7:=uh (HT6.out.call hBn7);clear HT6 hBn7;simp only[q5])
      | (show lW 79;refine wpList_load_mid rfl 79 _ rfl wn.heap.size 0 rfl [.int .u8 x1,.int .i64 x2,.int .i64 x3,.int .i64 x4] _ HT7.out.range1 underlying79 rfl hsz ?_)
      | (show sW 79;refine wpList_store_mid rfl 79 _ _ rfl _ 0 #[.int .u8 x1,.int .i64 x2,.int .i64 x3,.int .i64 x4] rfl rfl HT7.out.there2 hsz hoX ?_;have HT8:=uh (HT7.out.laid2 [.int .u8 x1,.int .i64 x2,.int .i64 x3,.int .i64 x4] rfl))
      | fail)
     refine bodyPost_ret (res_two results187 _ _ _ _ _ rfl HT8.out.range2 underlying79 rfl hsz) rfl ⟨rfl,HT8.out.below⟩
   · rw[if_neg (fun h=>h5 h.2)]at hdec
     obtain⟨rfl,rfl,rfl,rfl,rfl⟩:=Hnone hdec;have h5':¬(x5:Int)=0:=(by omega);have h5b:((x5:Int) != 0)=true:=(by rw[bne_iff_ne];exact h5');clear hdec hm Hsome Hnone q1 q2 q3 q4 h5
     go_wp2_with (first
      | (go_at_call 232;refine(hdecf _ (range_below HFw.out HT6.out.below) w.heap.size v hv (HT6.out.cell3 0) _ _ (by first|exact .inr (.inr (.inl ⟨rfl,rfl⟩)))).mono ?_;rintro e wn7 ⟨rfl,hBn7⟩;have HT7:=uh (HT6.out.call hBn7);clear HT6 hBn7;simp only[q5])
      | (show sW 79;refine wpList_store_mid rfl 79 _ _ rfl _ 0 #[.int .u8 0,.int .i64 0,.int .i64 0,.int .i64 0] rfl rfl HT7.out.there2 hsz hoZ ?_;have HT8:=uh (HT7.out.laid2 [.int .u8 0,.int .i64 0,.int .i64 0,.int .i64 0] rfl))
      | fail)
     refine bodyPost_ret (res_two results187 _ _ _ _ _ rfl HT8.out.range2 underlying79 rfl hsz) rfl ⟨rfl,HT8.out.below⟩
 · simp only[if_neg hm]
   rw[if_neg (fun h=>hm h.1)]at hdec;obtain⟨rfl,rfl,rfl,rfl,rfl⟩:=Hnone hdec;clear hdec hm Hsome Hnone q1 q2 q3 q4
   go_wp2_with (first
    | (show sW 79;refine wpList_store_mid rfl 79 _ _ rfl _ 0 #[.int .u8 0,.int .i64 0,.int .i64 0,.int .i64 0] rfl rfl HT6.out.there2 hsz hoZ ?_;have HT8:=uh (HT6.out.laid2 [.int .u8 0,.int .i64 0,.int .i64 0,.int .i64 0] rfl))
    | fail)
   refine bodyPost_ret (res_two results187 _ _ _ _ _ rfl HT8.out.range2 underlying79 rfl hsz) rfl ⟨rfl,HT8.out.below⟩
theorem or_add {a v k:Nat}(ha:a<2^k)(hv:v*2^k+a<18446744073709551616):bits .or .u64 (a:Int) ((v*2^k:Nat):Int)=((a+v*2^k:Nat):Int):=by
 have h:=u64_or_nat a (v*2^k) (by omega) (by omega);rw[h];have h2:=Nat.two_pow_add_eq_or_of_lt (i:=k) (b:=a) ha v;rw[Nat.or_comm,Nat.mul_comm v,←h2,Nat.add_comm]
theorem hlay {l L:List Blk}{w0:World}(w:World)(hF:Fields w)(b a v:Nat)(T:Turn l w0 ((b,.cells #[.int .u64 a] 47)::L) w)(f:Int)(z:Nat)
  (h:f=0 /\ a<1 /\ v<4 /\ z=a+v*1∨f=1 /\ a<4 /\ v<4096 /\ z=a+v*4∨f=3 /\ a<65536 /\ v<16777216 /\ z=a+v*65536∨f=4 /\ a<1099511627776 /\ v<16777216 /\ z=a+v*1099511627776):
  Calls prog 205 #[.int .i64 f,.int .i64 v,pt b] w fun e w'=>(∃u,e=.returned u) /\ Turn l w0 ((b,.cells #[.int .u64 z] 47)::L) w':=by
 have c0:=fields_at hF (i:=0) rfl;have c2:=fields_at hF (i:=2) rfl;have c6:=fields_at hF (i:=6) rfl;have c8:=fields_at hF (i:=8) rfl;have hc:w.cell? ⟨b,0,none⟩=some (.int .u64 a):=T.cell1 0;have hf:w.frozen? ⟨b,0,none⟩=false:=T.free1 0;have hT:=uh T;clear hF T;rcases h with⟨rfl,h1,h2,rfl⟩|⟨rfl,h1,h2,rfl⟩|⟨rfl,h1,h2,rfl⟩|⟨rfl,h1,h2,rfl⟩
 · have hb:bits .or .u64 (a:Int) ((v:Int))=((a+v*1:Nat):Int):=by
     have h:=or_add (a:=a) (v:=v) (k:=0) (by simp only[Nat.reducePow];omega) (by simp only[Nat.reducePow];omega);rw[show(2:Nat)^0=1 from rfl]at h;rw[show((v*1:Nat):Int)=(v:Int)by omega]at h;exact h
   have hz:a+v*1<18446744073709551616:=(by omega);rw[show a+v*1=a+v*1 from rfl];generalize hzz:a+v*1=z at*;clear hzz;have Hb:=uh hb;clear hb
   go_enter func205,ntmps205
   go_wp2_with fail
   go_still_tail 9,(by kernel_rfl)
   change wpList _ _ _ _ _ w.drew
   go_wp2
   go_end0;refine⟨⟨_,rfl⟩,?_⟩;rw[Hb.out];exact(hT.out.setCell 0 (.int .u64 z)).drew
 · have hb:bits .or .u64 (a:Int) ((v:Int)*4)=((a+v*4:Nat):Int):=by
     have h:=or_add (a:=a) (v:=v) (k:=2) (by simp only[Nat.reducePow];omega) (by simp only[Nat.reducePow];omega);rw[show(2:Nat)^2=4 from rfl]at h;rw[show((v*4:Nat):Int)=(v:Int)*4 by omega]at h;exact h
   have hz:a+v*4<18446744073709551616:=(by omega);rw[show a+v*4=a+v*4 from rfl];generalize hzz:a+v*4=z at*;clear hzz;have Hb:=uh hb;clear hb
   go_enter func205,ntmps205
   go_wp2_with fail
   go_still_tail 9,(by kernel_rfl)
   change wpList _ _ _ _ _ w.drew
   go_wp2
   go_end0;refine⟨⟨_,rfl⟩,?_⟩;rw[Hb.out];exact(hT.out.setCell 0 (.int .u64 z)).drew
 · have hb:bits .or .u64 (a:Int) ((v:Int)*65536)=((a+v*65536:Nat):Int):=by
     have h:=or_add (a:=a) (v:=v) (k:=16) (by simp only[Nat.reducePow];omega) (by simp only[Nat.reducePow];omega);rw[show(2:Nat)^16=65536 from rfl]at h;rw[show((v*65536:Nat):Int)=(v:Int)*65536 by omega]at h;exact h
   have hz:a+v*65536<18446744073709551616:=(by omega);rw[show a+v*65536=a+v*65536 from rfl];generalize hzz:a+v*65536=z at*;clear hzz;have Hb:=uh hb;clear hb
   go_enter func205,ntmps205
   go_wp2_with fail
   go_still_tail 9,(by kernel_rfl)
   change wpList _ _ _ _ _ w.drew
   go_wp2
   go_end0;refine⟨⟨_,rfl⟩,?_⟩;rw[Hb.out];exact(hT.out.setCell 0 (.int .u64 z)).drew
 · have hb:bits .or .u64 (a:Int) ((v:Int)*1099511627776)=((a+v*1099511627776:Nat):Int):=by
     have h:=or_add (a:=a) (v:=v) (k:=40) (by simp only[Nat.reducePow];omega) (by simp only[Nat.reducePow];omega);rw[show(2:Nat)^40=1099511627776 from rfl]at h;rw[show((v*1099511627776:Nat):Int)=(v:Int)*1099511627776 by omega]at h;exact h
   have hz:a+v*1099511627776<18446744073709551616:=(by omega);rw[show a+v*1099511627776=a+v*1099511627776 from rfl];generalize hzz:a+v*1099511627776=z at*;clear hzz;have Hb:=uh hb;clear hb
   go_enter func205,ntmps205
   go_wp2_with fail
   go_still_tail 9,(by kernel_rfl)
   change wpList _ _ _ _ _ w.drew
   go_wp2
   go_end0;refine⟨⟨_,rfl⟩,?_⟩;rw[Hb.out];exact(hT.out.setCell 0 (.int .u64 z)).drew
theorem henc (w:World)(hF:Fields w)(h:Hd)(hm:h.may):Calls prog 150 #[hdVal h] w fun e w'=>e=.returned (.tuple #[.int .u64 (h.word:Nat),.int .i64 0]) /\ Below w.heap.size w w':=by
 have hsz:=sz_head;have HFw:=uh hF
 have hin:HdIn h:=by
  obtain⟨m1,m2,m3,m4⟩:=hm;exact⟨by omega,by omega,by omega,by omega⟩
 have Hck:=uh (fun W hF=>hcheck W hF h hin);rw[if_pos hm]at Hck;obtain⟨a,b,c,d⟩:=h;obtain⟨m1,m2,m3,m4⟩:=hm;simp only at m1 m2 m3 m4;have ha:a<4 /\ b<4096:=by omega
 obtain⟨z1,q1⟩:∃z,z=0+a*1:=⟨_,rfl⟩;obtain⟨z2,q2⟩:∃z,z=z1+b*4:=⟨_,rfl⟩;obtain⟨z3,q3⟩:∃z,z=z2+c*65536:=⟨_,rfl⟩;obtain⟨z4,q4⟩:∃z,z=z3+d*1099511627776:=⟨_,rfl⟩;have hw:(Hd.mk a b c d).word=z4:=by unfold Hd.word;simp only;omega
 rw[hw];have P0:=uh (show 0<1 /\ a<4 /\ z1=0+a*1 from⟨by omega,by omega,q1⟩);have P1:=uh (show z1<4 /\ b<4096 /\ z2=z1+b*4 from⟨by omega,by omega,q2⟩);have P3:=uh (show z2<65536 /\ c<16777216 /\ z3=z2+c*65536 from⟨by omega,by omega,q3⟩);have P4:=uh (show z3<1099511627776 /\ d<16777216 /\ z4=z3+d*1099511627776 from⟨by omega,by omega,q4⟩);clear q1 q2 q3 q4 hw m4 hin hF;have tok0:True:=trivial;have tok1:True:=trivial;have tok3:True:=trivial;have tok4:True:=trivial;have T0:=(Turn.refl (Has.nil w)).alloc (.cells #[.int .u8 a,.int .i64 b,.int .i64 c,.int .i64 d] 79);have hr0:=T0.range1;have HT0:=uh T0;clear T0
 go_enter func150,ntmps150
 go_wp2_with fail
 refine(Hck.out _ (range_below HFw.out HT0.out.below)).mono ?_;rintro e w1 ⟨rfl,hB1⟩;have T1:=(HT0.out.call hB1).alloc (.cells #[.int .u64 0] 47);have c0:=T1.cell2 0;have HT:Hid (Turn [] w [(w1.heap.size,.cells #[.int .u64 ((0:Nat):Int)] 47),(w.heap.size,.cells #[.int .u8 a,.int .i64 b,.int .i64 c,.int .i64 d] 79)] (w1.alloc (.cells #[.int .u64 0] 47))):=uh T1;clear T1 hB1 HT0 hr0 Hck
 go_wp2_with (first
  | (go_at_call 205;have tk:=tok0;refine(hlay _ (range_below HFw.out HT.out.below) _ _ a HT.out 0 z1 (.inl ⟨rfl,P0.out⟩)).mono ?_;rintro e wn0 ⟨⟨u0,rfl⟩,hTn⟩;have HTn:=uh hTn;clear HT hTn tok0 tk;have HT:=uh HTn.out;clear HTn;have c0:=HT.out.cell2 0;have c1:=HT.out.cell2 1;have c2:=HT.out.cell2 2;have c3:=HT.out.cell2 3;have cw:=HT.out.cell1 0)
  | (go_at_call 205;have tk:=tok1;refine(hlay _ (range_below HFw.out HT.out.below) _ _ b HT.out 1 z2 (.inr (.inl ⟨rfl,P1.out⟩))).mono ?_;rintro e wn1 ⟨⟨u1,rfl⟩,hTn⟩;have HTn:=uh hTn;clear HT hTn tok1 tk;have HT:=uh HTn.out;clear HTn;have c0:=HT.out.cell2 0;have c1:=HT.out.cell2 1;have c2:=HT.out.cell2 2;have c3:=HT.out.cell2 3;have cw:=HT.out.cell1 0)
  | (go_at_call 205;have tk:=tok3;refine(hlay _ (range_below HFw.out HT.out.below) _ _ c HT.out 3 z3 (.inr (.inr (.inl ⟨rfl,P3.out⟩)))).mono ?_;rintro e wn3 ⟨⟨u3,rfl⟩,hTn⟩;have HTn:=uh hTn;clear HT hTn tok3 tk;have HT:=uh HTn.out;clear HTn;have c0:=HT.out.cell2 0;have c1:=HT.out.cell2 1;have c2:=HT.out.cell2 2;have c3:=HT.out.cell2 3;have cw:=HT.out.cell1 0)
  | (go_at_call 205;have tk:=tok4;refine(hlay _ (range_below HFw.out HT.out.below) _ _ d HT.out 4 z4 (.inr (.inr (.inr ⟨rfl,P4.out⟩)))).mono ?_;rintro e wn4 ⟨⟨u4,rfl⟩,hTn⟩;have HTn:=uh hTn;clear HT hTn tok4 tk;have HT:=uh HTn.out;clear HTn;have c0:=HT.out.cell2 0;have c1:=HT.out.cell2 1;have c2:=HT.out.cell2 2;have c3:=HT.out.cell2 3;have cw:=HT.out.cell1 0)
  | fail)
 refine bodyPost_ret (results_tmp2 rfl _ _ _) rfl ?_;exact⟨rfl,HT.out.below⟩
structure TabAt (w:World)(t:Nat)(ao:Option Addr)(cap:Nat)(L:List Ty):Prop where
 c0:w.cell? ⟨t,0,none⟩=some (.slice ao L.length cap)
 src:Src w ao L.length cap 3 (tys L)
theorem TabAt.below {w w':World}{t:Nat}{ao:Option Addr}{cap:Nat}{L:List Ty}(h:TabAt w t ao cap L)(hk:Below w.heap.size w w'):TabAt w' t ao cap L:=
 ⟨(hk.cell (p:=⟨t,0,none⟩) (World.block_lt_of_cell? w _ h.c0)).trans h.c0,h.src.below hk⟩
theorem tat (w:World)(L:List Ty)(tb:Nat)(ao:Option Addr)(cap:Nat)(hT:TabAt w tb ao cap L)(hL:L.length <= 1000)(id:Int):
  Calls prog 188 #[pt tb,.int .i64 id] w fun e w'=>e=.returned (.tuple #[tyVal (tyAt L id),.bool (getTy L id).isSome]) /\ Below w.heap.size w w':=by
 have hsz:=sz_type;have T1:=(Turn.refl (Has.nil w)).alloc zT;have hth:(w.alloc zT).there w.heap.size 0 3:=T1.there1;have hr0:=T1.range1;have hT1:=hT.below T1.below;have d0:=hT1.c0;have hS:=hT1.src;unfold tyAt;clear hT hT1
 cases hg:getTy L id with
 | none=>
  have hid:=getTy_none hg;have T2:=T1.laid [.int .u8 0,.int .i64 0,.int .u64 0] rfl;have HT2:=uh T2;have ho1:=ty_one ⟨0,0,0⟩;clear hg T1 T2 hS;rcases hid with hid|hid
  · have e1:decide (id<1)=true:=decide_eq_true hid
    go_enter func188,ntmps188
    go_wp2_with (first
     | (show lW 49;refine wpList_load_mid rfl 49 _ rfl w.heap.size 0 rfl [.int .u8 0,.int .i64 0,.int .u64 0] _ hr0 underlying49 rfl hsz ?_)
     | (show sW 49;refine wpList_store_mid rfl 49 _ _ rfl _ 0 #[.int .u8 0,.int .i64 0,.int .u64 0] rfl rfl hth hsz ho1 ?_)
     | fail)
    refine bodyPost_ret (res_two results188 _ _ _ _ _ rfl HT2.out.range1 underlying49 rfl hsz) rfl ⟨rfl,HT2.out.below⟩
  · have e1:decide (id<1)=false:=decide_eq_false (by omega)
    have e2:decide ((L.length:Int)<id)=true:=decide_eq_true hid;have e3:¬id<1:=by omega
    go_enter func188,ntmps188
    go_wp2_with (first
     | (show lW 49;refine wpList_load_mid rfl 49 _ rfl w.heap.size 0 rfl [.int .u8 0,.int .i64 0,.int .u64 0] _ hr0 underlying49 rfl hsz ?_)
     | (show sW 49;refine wpList_store_mid rfl 49 _ _ rfl _ 0 #[.int .u8 0,.int .i64 0,.int .u64 0] rfl rfl hth hsz ho1 ?_)
     | fail)
    refine bodyPost_ret (res_two results188 _ _ _ _ _ rfl HT2.out.range1 underlying49 rfl hsz) rfl ⟨rfl,HT2.out.below⟩
 | some t=>
  obtain⟨i,rfl,hi,hlt⟩:=getTy_some hg;have hi1:i <= 1000:=by omega
  obtain⟨b,off,rfl,-⟩:=hS.form (by rw[tys_length];omega);have hrg:=hS.ty hi;obtain⟨k,m,mk⟩:=t;have T2:=T1.laid (tyCells ⟨k,m,mk⟩) rfl;have HT2:=uh T2;have ho1:=ty_one ⟨k,m,mk⟩;have e1:decide (((i:Int)+1)<1)=false:=decide_eq_false (by omega);have e2:decide ((L.length:Int)<(i:Int)+1)=false:=decide_eq_false (by omega);have e3:(i:Int)<(L.length:Int):=by omega
  have e4:¬((L.length:Int)<(i:Int)+1):=by omega
  clear hg T1 T2 hS hi
  go_enter func188,ntmps188
  go_wp2_with (first
   | (show lW 49;refine wpList_load_mid rfl 49 _ rfl b (off+i*3) rfl [.int .u8 k,.int .i64 m,.int .u64 mk] _ hrg underlying49 rfl hsz ?_)
   | (show sW 49;refine wpList_store_mid rfl 49 _ _ rfl _ 0 #[.int .u8 k,.int .i64 m,.int .u64 mk] rfl rfl hth hsz ho1 ?_)
   | fail)
  refine bodyPost_ret (res_two results188 _ _ _ _ _ rfl HT2.out.range1 underlying49 rfl hsz) rfl ⟨rfl,HT2.out.below⟩
theorem tget (w:World)(L:List Ty)(tb:Nat)(ao:Option Addr)(cap:Nat)(hT:TabAt w tb ao cap L)(hL:L.length <= 1000)(id:Int):
  Calls prog 127 #[pt tb,.int .i64 id] w fun e w'=>e=.returned (.tuple #[tyVal (tyAt L id),.int .i64 (if (getTy L id).isSome then 0 else 3)]) /\ Below w.heap.size w w':=by
 have hsz:=sz_type;have T1:=(Turn.refl (Has.nil w)).alloc zT;have Hat:=uh (tat _ L tb ao cap (hT.below T1.below) hL id);have HT1:=uh T1
 have hz:(getTy L id).isSome=false -> tyAt L id=⟨0,0,0⟩:=fun h=>by
  unfold tyAt
  cases hg:getTy L id with
  | none=>rfl
  | some t=>rw[hg]at h;cases h
 generalize tyAt L id=t at*;generalize(getTy L id).isSome=bs at*;clear T1 hT;obtain⟨k,m,mk⟩:=t;have ho:=ty_one ⟨k,m,mk⟩
 cases bs
 · have hzz:=hz rfl
   cases hzz
   go_enter func127,ntmps127
   go_wp2_with fail
   refine Hat.out.mono ?_;rintro e w1 ⟨rfl,hB1⟩;have T2:=(HT1.out.call hB1).alloc zT;have HT2:=uh (T2.laid [.int .u8 0,.int .i64 0,.int .u64 0] rfl);have hthA:(w1.alloc zT).there w1.heap.size 0 3:=T2.there1;have HT3:=uh (HT2.out.laid2 [.int .u8 0,.int .i64 0,.int .u64 0] rfl);clear T2 hB1 HT1 Hat
   go_wp2_with (first
    | (show sW 49;refine wpList_store_mid rfl 49 _ _ rfl _ 0 #[.int .u8 0,.int .i64 0,.int .u64 0] rfl rfl hthA hsz ho ?_;clear hthA)
    | (show sW 49;refine wpList_store_mid rfl 49 _ _ rfl _ 0 #[.int .u8 0,.int .i64 0,.int .u64 0] rfl rfl HT2.out.there2 hsz ho ?_)
    | fail)
   refine bodyPost_ret (res_two results127 _ _ _ _ _ rfl HT3.out.range2 underlying49 rfl hsz) rfl ⟨rfl,HT3.out.below⟩
 · clear hz
   go_enter func127,ntmps127
   go_wp2_with fail
   refine Hat.out.mono ?_;rintro e w1 ⟨rfl,hB1⟩;have T2:=(HT1.out.call hB1).alloc zT;have HT2:=uh (T2.laid [.int .u8 k,.int .i64 m,.int .u64 mk] rfl);have hr2:=HT2.out.range1;have hthA:(w1.alloc zT).there w1.heap.size 0 3:=T2.there1;have HT3:=uh (HT2.out.laid2 [.int .u8 k,.int .i64 m,.int .u64 mk] rfl);clear T2 hB1 HT1 Hat
   go_wp2_with (first
    | (show sW 49;refine wpList_store_mid rfl 49 _ _ rfl _ 0 #[.int .u8 k,.int .i64 m,.int .u64 mk] rfl rfl hthA hsz ho ?_;clear hthA)
    | (show lW 49;refine wpList_load_mid rfl 49 _ rfl w1.heap.size 0 rfl [.int .u8 k,.int .i64 m,.int .u64 mk] _ hr2 underlying49 rfl hsz ?_)
    | (show sW 49;refine wpList_store_mid rfl 49 _ _ rfl _ 0 #[.int .u8 k,.int .i64 m,.int .u64 mk] rfl rfl HT2.out.there2 hsz ho ?_)
    | fail)
   refine bodyPost_ret (res_two results127 _ _ _ _ _ rfl HT3.out.range2 underlying49 rfl hsz) rfl ⟨rfl,HT3.out.below⟩
theorem tsize (w:World)(L:List Ty)(hT:∀t∈L,TyIn t)(hL:L.length <= 1000)(tb:Nat)(ao:Option Addr)(cap:Nat)(hS:TabAt w tb ao cap L)(id n:Int):
  Calls prog 148 #[pt tb,.int .i64 id,.int .i64 n] w fun e w'=>e=.returned (.tuple #[.int .i64 (tySize L id n:Nat),.int .i64 (tyErr L id n)]) /\ Below w.heap.size w w':=by
 have hsz:=sz_type;have Hg:=uh (tget w L tb ao cap hS hL id);unfold tySize tyErr;unfold tyAt at Hg;clear hS
 cases hg:getTy L id with
 | none=>
  rw[hg]at Hg
  go_enter func148,ntmps148
  go_wp2_with fail
  refine Hg.out.mono ?_;rintro e w1 ⟨rfl,hB1⟩;have T1:=(Turn.of_below (Has.nil w) hB1).alloc zT;have hth:(w1.alloc zT).there w1.heap.size 0 3:=T1.there1;have HT2:=uh (T1.laid [.int .u8 0,.int .i64 0,.int .u64 0] rfl);have ho:=ty_one ⟨0,0,0⟩;clear T1 hB1 Hg
  go_wp2_with (first
   | (show sW 49;refine wpList_store_mid rfl 49 _ _ rfl _ 0 #[.int .u8 0,.int .i64 0,.int .u64 0] rfl rfl hth hsz ho ?_)
   | fail)
  refine bodyPost_ret (results_tmp2 rfl _ _ _) rfl ?_;exact⟨rfl,HT2.out.below⟩
 | some t=>
  rw[hg]at Hg;obtain⟨i,rfl,hi,hlt⟩:=getTy_some hg;have Hsz:=uh (fun W=>ksize W t (hT t (List.mem_of_getElem? hi)) n);obtain⟨k,m,mk⟩:=t;obtain⟨s,Hs⟩:∃s:Nat,Hid ((if (Ty.mk k m mk).err n=0 then(((Ty.mk k m mk).size n.toNat:Nat):Int)else 0)=s /\ (if (Ty.mk k m mk).err n=0 then(Ty.mk k m mk).size n.toNat else 0)=s):=⟨_,uh ⟨by split<;>rfl,rfl⟩⟩;rw[Hs.out.1]at Hsz;simp only[Hs.out.2];clear Hs;generalize(Ty.mk k m mk).err n=er at*;clear hg hi hlt hT
  go_enter func148,ntmps148
  go_wp2_with fail
  refine Hg.out.mono ?_;rintro e w1 ⟨rfl,hB1⟩;simp only[Option.getD_some,Option.isSome_some,if_true];have T1:=(Turn.of_below (Has.nil w) hB1).alloc zT;have hth:(w1.alloc zT).there w1.heap.size 0 3:=T1.there1;have T2:=T1.laid (tyCells ⟨k,m,mk⟩) rfl;have hr2:=T2.range1;have HT2:=uh T2;have ho:=ty_one ⟨k,m,mk⟩;clear T1 T2 hB1 Hg
  go_wp2_with (first
   | (show sW 49;refine wpList_store_mid rfl 49 _ _ rfl _ 0 #[.int .u8 k,.int .i64 m,.int .u64 mk] rfl rfl hth hsz ho ?_)
   | (show lW 49;refine wpList_load_mid rfl 49 _ rfl w1.heap.size 0 rfl [.int .u8 k,.int .i64 m,.int .u64 mk] _ hr2 underlying49 rfl hsz ?_)
   | (go_at_call 204;refine(Hsz.out _).mono ?_;rintro e w3 ⟨rfl,hB3⟩;have HB3:=uh (HT2.out.call hB3).below;clear hB3)
   | fail)
  refine bodyPost_ret (results_tmp2 rfl _ _ _) rfl ?_;exact⟨rfl,HB3.out⟩
theorem hof (w:World)(L:List Ty)(hT:∀t∈L,TyIn t)(hL:L.length <= 1000)(tb:Nat)(ao:Option Addr)(cap:Nat)(hS:TabAt w tb ao cap L)(id n:Int):
  Calls prog 64 #[pt tb,.int .i64 id,.int .i64 n] w fun e w'=>e=.returned (.tuple #[.agg (ofCells L id n).toArray,.int .i64 (tyErr L id n)]) /\ Below w.heap.size w w':=by
 have hsz:=sz_head;have T1:=(Turn.refl (Has.nil w)).alloc zH;have Hs:=uh (tsize _ L hT hL tb ao cap (hS.below T1.below) id n);have HT1:=uh T1;unfold ofCells;generalize tySize L id n=s at*;generalize tyErr L id n=er at*;clear T1 hS hT
 by_cases he:er=0
 · subst he
   rw[if_pos rfl]
   go_enter func64,ntmps64
   go_wp2_with fail
   refine Hs.out.mono ?_;rintro e w1 ⟨rfl,hB1⟩;have T2:=HT1.out.call hB1;have hth:w1.there w.heap.size 0 4:=T2.there1;have HT3:=uh (T2.laid [.int .u8 1,.int .i64 id,.int .i64 n,.int .i64 s] rfl);have ho:(#[.int .u8 1,.int .i64 id,.int .i64 n,.int .i64 s]:Array Value).all (·.oneCell')=true:=all_one (cs:=[.int .u8 1,.int .i64 id,.int .i64 n,.int .i64 s]) (by simp[Value.oneCell']);clear T2 hB1 HT1 Hs
   go_wp2_with (first
    | (show sW 79;refine wpList_store_mid rfl 79 _ _ rfl _ 0 #[.int .u8 1,.int .i64 id,.int .i64 n,.int .i64 s] rfl rfl hth hsz ho ?_)
    | fail)
   refine bodyPost_ret (res_two results64 _ _ _ _ _ rfl HT3.out.range1 underlying79 rfl hsz) rfl ⟨rfl,HT3.out.below⟩
 · rw[if_neg he]
   go_enter func64,ntmps64
   go_wp2_with fail
   refine Hs.out.mono ?_;rintro e w1 ⟨rfl,hB1⟩;have T2:=HT1.out.call hB1;have hth:w1.there w.heap.size 0 4:=T2.there1;have HT3:=uh (T2.laid [.int .u8 0,.int .i64 0,.int .i64 0,.int .i64 0] rfl);have ho:=hd0_one;clear T2 hB1 HT1 Hs
   go_wp2_with (first
    | (show sW 79;refine wpList_store_mid rfl 79 _ _ rfl _ 0 #[.int .u8 0,.int .i64 0,.int .i64 0,.int .i64 0] rfl rfl hth hsz ho ?_)
    | fail)
   refine bodyPost_ret (res_two results64 _ _ _ _ _ rfl HT3.out.range1 underlying79 rfl hsz) rfl ⟨rfl,HT3.out.below⟩
theorem hfits (w:World)(hF:Fields w)(L:List Ty)(hT:∀t∈L,TyIn t)(hL:L.length <= 1000)(tb:Nat)(ao:Option Addr)(cap:Nat)(hS:TabAt w tb ao cap L)(h:Hd)(hi:HdIn h):
  Calls prog 128 #[pt tb,hdVal h] w fun e w'=>e=.returned (.int .i64 (fitErr L h)) /\ Below w.heap.size w w':=by
 have hsz:=sz_head;have T1:=(Turn.refl (Has.nil w)).alloc (.cells #[.int .u8 h.tag,.int .i64 h.typ,.int .i64 h.len,.int .i64 h.size] 79);have hr1:=T1.range1;have Hck:=uh (hcheck _ (range_below hF T1.below) h hi);have Hof:=uh (fun(w2:World) (hB:Below (w.alloc (.cells #[.int .u8 h.tag,.int .i64 h.typ,.int .i64 h.len,.int .i64 h.size] 79)).heap.size (w.alloc (.cells #[.int .u8 h.tag,.int .i64 h.typ,.int .i64 h.len,.int .i64 h.size] 79)) w2)=>hof w2 L hT hL tb ao cap ((hS.below ((Turn.refl (Has.nil w)).alloc (.cells #[.int .u8 h.tag,.int .i64 h.typ,.int .i64 h.len,.int .i64 h.size] 79)).below).below hB) h.typ h.len);have HT1:=uh T1;clear T1 hS hT hF;unfold fitErr
 by_cases hm:h.may
 · rw[if_pos hm]at Hck
   rw[if_neg (by simpa using hm)]
   by_cases ht:h.tag=1
   · rw[if_neg (by simpa using ht)]
     have hld:=hd_one ⟨0,0,0,0⟩;unfold ofCells at Hof;generalize tyErr L h.typ h.len=er at*;generalize tySize L h.typ h.len=s at*;obtain⟨tg,b,c,d⟩:=h;simp only at ht;subst ht;clear hm hi
     by_cases he:er=0
     · subst he
       simp only[if_true]at Hof;have ho:(#[.int .u8 1,.int .i64 b,.int .i64 c,.int .i64 s]:Array Value).all (·.oneCell')=true:=all_one (cs:=[.int .u8 1,.int .i64 b,.int .i64 c,.int .i64 s]) (by simp[Value.oneCell']);have heq:=fun w=>equalIn_hd w 1 b c s 1 b c d
       by_cases hs:s=d
       · rw[if_pos ⟨rfl,hs⟩]
         have hs2:((s:Int) == (d:Int))=true:=(by rw[beq_iff_eq];omega);subst hs
         go_enter func128,ntmps128
         go_wp2_with fail
         refine Hck.out.mono ?_;rintro e w2 ⟨rfl,hB2⟩;have T2:=HT1.out.call hB2;have c0:=T2.cell1 0;have c1:=T2.cell1 1;have c2:=T2.cell1 2;have Hof2:=uh (Hof.out w2 hB2);have HT2:=uh T2;clear T2 hB2 HT1 Hck Hof hr1
         go_wp2_with fail
         refine Hof2.out.mono ?_;rintro e w3 ⟨rfl,hB3⟩;have T3:=(HT2.out.call hB3).alloc zH;have hth:(w3.alloc zH).there w3.heap.size 0 4:=T3.there1;have T4:=T3.laid [.int .u8 1,.int .i64 b,.int .i64 c,.int .i64 s] rfl;have hr4:=T4.range1;have hr5:=T4.range2;have HT4:=uh T4.below;clear T3 T4 hB3 HT2 Hof2 c0 c1 c2
         go_wp2_with (first
          | (show sW 79;refine wpList_store_mid rfl 79 _ _ rfl _ 0 #[.int .u8 1,.int .i64 b,.int .i64 c,.int .i64 s] rfl rfl hth hsz ho ?_)
          | (show lW 79;refine wpList_load_g 79 _ rfl (by rfl) w3.heap.size 0 rfl [.int .u8 1,.int .i64 b,.int .i64 c,.int .i64 s] _ hr4 underlying79 rfl hsz ?_)
          | (show lW 79;refine wpList_load_g 79 _ rfl (by rfl) w.heap.size 0 rfl [.int .u8 1,.int .i64 b,.int .i64 c,.int .i64 s] _ hr5 underlying79 rfl hsz ?_)
          | fail)
         go_ret;exact⟨rfl,HT4.out⟩
       · rw[if_neg (fun h=>hs h.2)]
         have hs2:((s:Int) == (d:Int))=false:=(by rw[beq_eq_false_iff_ne];omega);have hs3:¬(s:Int)=(d:Int):=(by omega);have hs4:¬(s=d):=hs;simp only[hs2,Bool.and_false,beq_self_eq_true]at heq;clear hs
         go_enter func128,ntmps128
         go_wp2_with fail
         refine Hck.out.mono ?_;rintro e w2 ⟨rfl,hB2⟩;have T2:=HT1.out.call hB2;have c0:=T2.cell1 0;have c1:=T2.cell1 1;have c2:=T2.cell1 2;have Hof2:=uh (Hof.out w2 hB2);have HT2:=uh T2;clear T2 hB2 HT1 Hck Hof hr1
         go_wp2_with fail
         refine Hof2.out.mono ?_;rintro e w3 ⟨rfl,hB3⟩;have T3:=(HT2.out.call hB3).alloc zH;have hth:(w3.alloc zH).there w3.heap.size 0 4:=T3.there1;have T4:=T3.laid [.int .u8 1,.int .i64 b,.int .i64 c,.int .i64 s] rfl;have hr4:=T4.range1;have hr5:=T4.range2;have HT4:=uh T4.below;clear T3 T4 hB3 HT2 Hof2 c0 c1 c2
         go_wp2_with (first
          | (show sW 79;refine wpList_store_mid rfl 79 _ _ rfl _ 0 #[.int .u8 1,.int .i64 b,.int .i64 c,.int .i64 s] rfl rfl hth hsz ho ?_)
          | (show lW 79;refine wpList_load_g 79 _ rfl (by rfl) w3.heap.size 0 rfl [.int .u8 1,.int .i64 b,.int .i64 c,.int .i64 s] _ hr4 underlying79 rfl hsz ?_)
          | (show lW 79;refine wpList_load_g 79 _ rfl (by rfl) w.heap.size 0 rfl [.int .u8 1,.int .i64 b,.int .i64 c,.int .i64 d] _ hr5 underlying79 rfl hsz ?_)
          | fail)
         go_ret;exact⟨rfl,HT4.out⟩
     · rw[if_neg (fun h=>he h.1)]
       simp only[if_neg he]at Hof
       go_enter func128,ntmps128
       go_wp2_with fail
       refine Hck.out.mono ?_;rintro e w2 ⟨rfl,hB2⟩;have T2:=HT1.out.call hB2;have c0:=T2.cell1 0;have c1:=T2.cell1 1;have c2:=T2.cell1 2;have Hof2:=uh (Hof.out w2 hB2);have HT2:=uh T2;clear T2 hB2 HT1 Hck Hof hr1
       go_wp2_with fail
       refine Hof2.out.mono ?_;rintro e w3 ⟨rfl,hB3⟩;have T3:=(HT2.out.call hB3).alloc zH;have hth:(w3.alloc zH).there w3.heap.size 0 4:=T3.there1;have HT4:=uh (T3.laid [.int .u8 0,.int .i64 0,.int .i64 0,.int .i64 0] rfl).below;clear T3 hB3 HT2 Hof2 c0 c1 c2
       go_wp2_with (first
        | (show sW 79;refine wpList_store_mid rfl 79 _ _ rfl _ 0 #[.int .u8 0,.int .i64 0,.int .i64 0,.int .i64 0] rfl rfl hth hsz hld ?_)
        | fail)
       go_ret;exact⟨rfl,HT4.out⟩
   · rw[if_pos ht]
     obtain⟨tg,b,c,d⟩:=h;have ht2:¬(tg:Int)=1:=(by simp only at ht;omega);have ht3:((tg:Int) != 1)=true:=(by rw[bne_iff_ne];exact ht2);clear hm ht hi
     go_enter func128,ntmps128
     go_wp2_with fail
     refine Hck.out.mono ?_;rintro e w2 ⟨rfl,hB2⟩;have T2:=HT1.out.call hB2;have c0:=T2.cell1 0;have HT2:=uh T2.below;clear T2 hB2 HT1 Hck Hof hr1
     go_wp2
     go_ret;exact⟨rfl,HT2.out⟩
 · rw[if_neg hm]at Hck
   rw[if_pos hm];obtain⟨tg,b,c,d⟩:=h;clear hm hi
   go_enter func128,ntmps128
   go_wp2_with fail
   refine Hck.out.mono ?_;rintro e w2 ⟨rfl,hB2⟩;have HT2:=uh (HT1.out.call hB2).below;clear hB2 HT1 Hck Hof hr1
   go_wp2
   go_ret;exact⟨rfl,HT2.out⟩
theorem gap7 (w:World)(tg n:Nat)(ht:tg=2∨tg=3)(h1:1 <= n)(h2:n<16777216):
  Calls prog 265 #[.int .u8 tg,.int .i64 n] w fun e w'=>e=.returned (.tuple #[hdVal ⟨tg,0,0,n⟩,.int .i64 0]) /\ Below w.heap.size w w':=by
 have hsz:=sz_head;have hm:(Hd.mk tg 0 0 n).may:=⟨h1,h2,(by decide:(0:Nat)<16777216),.inr ⟨ht,rfl,rfl⟩⟩;have hin:HdIn ⟨tg,0,0,n⟩:=⟨by simp only;omega,Nat.zero_le _,Nat.zero_le _,by simp only;omega⟩;have T0:=((Turn.refl (Has.nil w)).alloc zH).alloc zH;rw[World.size_alloc]at T0;have hthA:((w.alloc zH).alloc zH).there (w.heap.size+1) 0 4:=T0.there1;have T1:=T0.laid [.int .u8 tg,.int .i64 ((0:Nat):Int),.int .i64 ((0:Nat):Int),.int .i64 n] rfl;have hr1:=T1.range1;have ho:(#[.int .u8 tg,.int .i64 0,.int .i64 0,.int .i64 n]:Array Value).all (·.oneCell')=true:=hd_one ⟨tg,0,0,n⟩;have Hck:=uh ((fun {W:World} {l:List Blk} (_:Turn [] w l W)=>may7 W ⟨tg,0,0,n⟩ hin) T1);rw[decide_eq_true hm]at Hck;have HT1:=uh T1;have e1:((tg:Int) == 1)=false:=by rw[beq_eq_false_iff_ne];omega
 have e2:¬(tg:Int)=1:=by omega
 clear T0 T1 hm hin ht
 go_enter func265,ntmps265
 go_wp2_with (first
  | (show sW 79;refine wpList_store_mid rfl 79 _ _ rfl _ 0 #[.int .u8 tg,.int .i64 0,.int .i64 0,.int .i64 n] rfl rfl hthA hsz ho ?_;clear hthA)
  | (show lW 79;refine wpList_load_g 79 _ rfl (by rfl) (w.heap.size+1) 0 rfl [.int .u8 tg,.int .i64 0,.int .i64 0,.int .i64 n] _ hr1 underlying79 rfl hsz ?_;clear hr1)
  | (go_at_call 228;refine Hck.out.mono ?_;rintro e w2 ⟨rfl,hB2⟩;have HT2:=uh (HT1.out.call hB2);clear HT1 hB2;have hthB:w2.there w.heap.size 0 4:=HT2.out.there2;have hr2:=HT2.out.range1;have HT3:=uh (HT2.out.laid2 [.int .u8 tg,.int .i64 ((0:Nat):Int),.int .i64 ((0:Nat):Int),.int .i64 n] rfl))
  | (show lW 79;refine wpList_load_mid rfl 79 _ rfl (w.heap.size+1) 0 rfl [.int .u8 tg,.int .i64 0,.int .i64 0,.int .i64 n] _ hr2 underlying79 rfl hsz ?_)
  | (show sW 79;refine wpList_store_mid rfl 79 _ _ rfl _ 0 #[.int .u8 tg,.int .i64 0,.int .i64 0,.int .i64 n] rfl rfl hthB hsz ho ?_)
  | fail)
 refine bodyPost_ret (res_two results265 _ _ _ _ _ rfl HT3.out.range2 underlying79 rfl hsz) rfl ⟨rfl,HT3.out.below⟩
theorem hgap (w:World)(hF:Fields w)(tg n:Nat)(ht:tg=2∨tg=3)(h1:1 <= n)(h2:n<16777216):
  Calls prog 153 #[.int .u8 tg,.int .i64 n] w fun e w'=>e=.returned (.tuple #[hdVal ⟨tg,0,0,n⟩,.int .i64 0]) /\ Below w.heap.size w w':=by
 have hsz:=sz_head;have hm:(Hd.mk tg 0 0 n).may:=⟨h1,h2,(by decide:(0:Nat)<16777216),.inr ⟨ht,rfl,rfl⟩⟩;have hin:HdIn ⟨tg,0,0,n⟩:=⟨by simp only;omega,Nat.zero_le _,Nat.zero_le _,by simp only;omega⟩;have T0:=((Turn.refl (Has.nil w)).alloc zH).alloc zH;rw[World.size_alloc]at T0;have hthA:((w.alloc zH).alloc zH).there (w.heap.size+1) 0 4:=T0.there1;have T1:=T0.laid [.int .u8 tg,.int .i64 ((0:Nat):Int),.int .i64 ((0:Nat):Int),.int .i64 n] rfl;have hr1:=T1.range1;have ho:(#[.int .u8 tg,.int .i64 0,.int .i64 0,.int .i64 n]:Array Value).all (·.oneCell')=true:=hd_one ⟨tg,0,0,n⟩;have Hck:=uh (hcheck _ (range_below hF T1.below) ⟨tg,0,0,n⟩ hin);rw[if_pos hm]at Hck;have HT1:=uh T1;have e1:((tg:Int) == 1)=false:=by rw[beq_eq_false_iff_ne];omega
 have e2:¬(tg:Int)=1:=by omega
 clear T0 T1 hm hin ht
 go_enter func153,ntmps153
 go_wp2_with (first
  | (show sW 79;refine wpList_store_mid rfl 79 _ _ rfl _ 0 #[.int .u8 tg,.int .i64 0,.int .i64 0,.int .i64 n] rfl rfl hthA hsz ho ?_;clear hthA)
  | (show lW 79;refine wpList_load_g 79 _ rfl (by rfl) (w.heap.size+1) 0 rfl [.int .u8 tg,.int .i64 0,.int .i64 0,.int .i64 n] _ hr1 underlying79 rfl hsz ?_;clear hr1)
  | (go_at_call 189;refine Hck.out.mono ?_;rintro e w2 ⟨rfl,hB2⟩;have HT2:=uh (HT1.out.call hB2);clear HT1 hB2;have hthB:w2.there w.heap.size 0 4:=HT2.out.there2;have hr2:=HT2.out.range1;have HT3:=uh (HT2.out.laid2 [.int .u8 tg,.int .i64 ((0:Nat):Int),.int .i64 ((0:Nat):Int),.int .i64 n] rfl))
  | (show lW 79;refine wpList_load_mid rfl 79 _ rfl (w.heap.size+1) 0 rfl [.int .u8 tg,.int .i64 0,.int .i64 0,.int .i64 n] _ hr2 underlying79 rfl hsz ?_)
  | (show sW 79;refine wpList_store_mid rfl 79 _ _ rfl _ 0 #[.int .u8 tg,.int .i64 0,.int .i64 0,.int .i64 n] rfl rfl hthB hsz ho ?_)
  | fail)
 refine bodyPost_ret (res_two results153 _ _ _ _ _ rfl HT3.out.range2 underlying79 rfl hsz) rfl ⟨rfl,HT3.out.below⟩
def I64 (n:Int):Prop:= -9223372036854775808 <= n /\ n <= 9223372036854775807
def u64s (W:List Nat):List Value:=W.map fun n=>.int .u64 (n:Nat)
theorem u64s_length (W:List Nat):(u64s W).length=W.length:=by simp[u64s]
theorem u64s_get {W:List Nat}{i v:Nat}(h:W[i]?= some v):(u64s W)[i]?= some (.int .u64 v):=by simp[u64s,h]
theorem u64s_set (W:List Nat)(i v:Nat):(u64s W).toArray.setIfInBounds i (.int .u64 v)=(u64s (W.set i v)).toArray:=by
 rw[List.setIfInBounds_toArray];unfold u64s;rw[List.map_set]
structure ArAt (w:World)(a aw:Nat)(W:List Nat):Prop where
 c0:w.cell? ⟨a,0,none⟩=some (.slice (some ⟨aw,0,none⟩) W.length W.length)
 ws:∀(i v:Nat),W[i]?= some v -> w.cell? ⟨aw,i,none⟩=some (.int .u64 v)
 few:W.length <= 65536
theorem ArAt.below {w w':World}{a aw:Nat}{W:List Nat}(h:ArAt w a aw W)(hk:Below w.heap.size w w'):ArAt w' a aw W:=
 ⟨(hk.cell (p:=⟨a,0,none⟩) (World.block_lt_of_cell? w _ h.c0)).trans h.c0,fun i v hv=>(hk.cell (p:=⟨aw,i,none⟩) (World.block_lt_of_cell? w _ (h.ws i v hv))).trans (h.ws i v hv),h.few⟩
def arBlks (a aw:Nat)(W:List Nat)(n:Int):List Blk:=[(aw,.cells (u64s W).toArray 47),(a,.cells #[.slice (some ⟨aw,0,none⟩) W.length W.length,.int .u64 n] 219)]
theorem arBlks_at {w:World}{a aw:Nat}{W:List Nat}{n:Int}{L:List Blk}(h:Has w (arBlks a aw W n++L))(hf:W.length <= 65536):ArAt w a aw W:=by
 refine⟨h.cell (b:=a) (c:=#[.slice (some ⟨aw,0,none⟩) W.length W.length,.int .u64 n]) (e:=219) (f:=(0,0)) (by simp[arBlks]) 0,fun i v hv=>?_,hf⟩;rw[h.cell (b:=aw) (c:=(u64s W).toArray) (e:=47) (f:=(0,0)) (by simp[arBlks]) i,List.getElem?_toArray];exact u64s_get hv
theorem alen (w:World){a aw:Nat}{W:List Nat}(h:ArAt w a aw W):Calls prog 63 #[pt a] w fun e w'=>e=.returned (.int .i64 W.length) /\ w'=w:=by
 have c0:=h.c0;clear h
 go_enter func63,ntmps63
 go_wp2
 go_ret;exact⟨rfl,rfl⟩
theorem grans (w:World){a aw:Nat}{W:List Nat}(h:ArAt w a aw W):Calls prog 129 #[pt a] w fun e w'=>e=.returned (.int .i64 (W.length/2:Nat)) /\ w'=w:=by
 have hl:=uh (alen w h);have h2:((W.length:Int)).tdiv 2=((W.length/2:Nat):Int):=tdiv_nat _ 2;have h3:=h.few;clear h;obtain⟨z,hz⟩:∃z:Nat,W.length/2=z:=⟨_,rfl⟩;rw[hz]at h2 ⊢
 go_enter func129,ntmps129
 go_wp2_with (first
  | (go_at_call 63;refine hl.out.mono ?_;rintro e w' ⟨rfl,rfl⟩)
  | fail)
 go_ret;refine⟨?_,rfl⟩
 first | rfl | (rw [← h2]; rfl) | (have : ((W.length : Int)) / 2 = (z : Int) := by omega
                                   rw[←this];rfl)
def within (W:List Nat)(i n:Int):Prop:=0 <= i /\ 0 <= n /\ i+n <= W.length
instance (W:List Nat) (i n:Int):Decidable (within W i n):=by unfold within;infer_instance
theorem ahas (w:World){a aw:Nat}{W:List Nat}(h:ArAt w a aw W)(i n:Int)(hi:I64 i)(hn:I64 n):Calls prog 115 #[pt a,.int .i64 i,.int .i64 n] w fun e w'=>e=.returned (.int .i64 (if within W i n then 0 else 2)) /\ w'=w:=by
 have c0:=h.c0;have hf:=h.few;obtain⟨hi1,hi2⟩:=hi;obtain⟨hn1,hn2⟩:=hn;clear h;obtain⟨r,Hr⟩:∃r:Int,Hid (r=if within W i n then 0 else 2):=⟨_,uh rfl⟩;rw[←Hr.out];have HF:¬within W i n -> r=2:=fun hn=>by rw[Hr.out,if_neg hn]
 have HTr:within W i n -> r=0:=fun hn=>by rw[Hr.out,if_pos hn]
 clear Hr
 by_cases e1:0 <= i
 · have k1:decide ((0:Int) <= i)=true:=decide_eq_true e1
   by_cases e2:0 <= n
   · have k2:decide ((0:Int) <= n)=true:=decide_eq_true e2
     by_cases e3:i <= W.length
     · have k3:decide (i <= (W.length:Int))=true:=decide_eq_true e3
       by_cases e4:n <= W.length-i
       · have k4:decide (n <= (W.length:Int)-i)=true:=decide_eq_true e4
         obtain rfl:=HTr ⟨e1,e2,by omega⟩;clear HF HTr
         go_enter func115,ntmps115
         go_wp2
         go_ret;exact⟨rfl,rfl⟩
       · have k4:decide (n <= (W.length:Int)-i)=false:=decide_eq_false e4
         obtain rfl:=HF (fun h=>by have:=h.2.2;omega);clear HF HTr
         go_enter func115,ntmps115
         go_wp2
         go_ret;exact⟨rfl,rfl⟩
     · have k3:decide (i <= (W.length:Int))=false:=decide_eq_false e3
       obtain rfl:=HF (fun h=>by have:=h.2.2;omega);clear HF HTr
       go_enter func115,ntmps115
       go_wp2
       go_ret;exact⟨rfl,rfl⟩
   · have k2:decide ((0:Int) <= n)=false:=decide_eq_false e2
     obtain rfl:=HF (fun h=>e2 h.2.1);clear HF HTr
     go_enter func115,ntmps115
     go_wp2
     go_ret;exact⟨rfl,rfl⟩
 · have k1:decide ((0:Int) <= i)=false:=decide_eq_false e1
   obtain rfl:=HF (fun h=>e1 h.1);clear HF HTr
   go_enter func115,ntmps115
   go_wp2
   go_ret;exact⟨rfl,rfl⟩
theorem aload (w:World){a aw:Nat}{W:List Nat}(h:ArAt w a aw W)(i v:Nat)(hv:W[i]?= some v):Calls prog 169 #[pt a,.int .i64 i] w fun e w'=>e=.returned (.tuple #[.int .u64 v,.int .i64 0]) /\ w'=w:=by
 have hlt:i<W.length:=(List.getElem?_eq_some_iff.1 hv).1;have hf:=h.few;have c0:=h.c0;have c1:=h.ws i v hv;have hh:=uh (ahas w h i 1 (by unfold I64;omega) (by unfold I64;omega));rw[if_pos ⟨by omega,by omega,by omega⟩]at hh;have hlt':(i:Int)<(W.length:Int):=by omega
 clear h hv
 go_enter func169,ntmps169
 go_wp2_with (first
  | (go_at_call 115;refine hh.out.mono ?_;rintro e w' ⟨rfl,rfl⟩)
  | fail)
 refine bodyPost_ret (results_tmp2 rfl _ _ _) rfl ?_;exact⟨rfl,rfl⟩
theorem astore {l L:List Blk}{w0:World}(w:World){a aw:Nat}{W:List Nat}{n:Int}(T:Turn l w0 (arBlks a aw W n++L) w)(hf:W.length <= 65536)(i v:Nat)(hi:i<W.length):
  Calls prog 45 #[pt a,.int .i64 i,.int .u64 v] w fun e w'=>e=.returned (.int .i64 0) /\ ∃n':Int,Turn l w0 (arBlks a aw (W.set i v) n'++L) w':=by
 have hA:=arBlks_at T.has hf;have c0:=hA.c0;have hh:=uh (ahas w hA i 1 (by unfold I64;omega) (by unfold I64;omega));rw[if_pos ⟨by omega,by omega,by omega⟩]at hh;have hlt':(i:Int)<(W.length:Int):=by omega
 have f1:w.frozen? ⟨aw,i,none⟩=false:=T.has.free (b:=aw) (c:=(u64s W).toArray) (e:=47) (by simp[arBlks]) i;obtain⟨v0,hv0⟩:∃v0,W[i]?= some v0:=⟨W[i]'hi,List.getElem?_eq_getElem _⟩;have c1:=hA.ws i v0 hv0
 have T1:Turn l w0 (arBlks a aw (W.set i v) n++L) (w.setCell ⟨aw,i,none⟩ (.int .u64 v)):=by
  have h:=Turn.setCell (b:=aw) (c:=(u64s W).toArray) (e:=47) (f:=(0,0)) T i (.int .u64 v);rw[u64s_set]at h;unfold arBlks;rw[List.length_set];exact h
 have d0:(w.setCell ⟨aw,i,none⟩ (.int .u64 v)).cell? ⟨a,0,none⟩=_:=(arBlks_at T1.has (by rw[List.length_set];exact hf)).c0;have d1:(w.setCell ⟨aw,i,none⟩ (.int .u64 v)).cell? ⟨a,1,none⟩=some (.int .u64 n):=T1.has.cell (b:=a) (c:=#[.slice (some ⟨aw,0,none⟩) (W.set i v).length (W.set i v).length,.int .u64 n]) (e:=219) (f:=(0,0)) (by simp[arBlks]) 1;have f2:(w.setCell ⟨aw,i,none⟩ (.int .u64 v)).frozen? ⟨a,1,none⟩=false:=T1.has.free (b:=a) (c:=#[.slice (some ⟨aw,0,none⟩) (W.set i v).length (W.set i v).length,.int .u64 n]) (e:=219) (by simp[arBlks]) 1;have HT1:=uh T1;clear T T1 hA hv0 d0
 go_enter func45,ntmps45
 go_wp2_with (first
  | (go_at_call 115;refine hh.out.mono ?_;rintro e w' ⟨rfl,rfl⟩)
  | fail)
 go_ret;refine⟨rfl,IntKind.u64.wrap (n+1),?_⟩;exact((HT1.out.perm (l2:=(a,.cells #[.slice (some ⟨aw,0,none⟩) (W.set i v).length (W.set i v).length,.int .u64 n] 219)::(aw,.cells (u64s (W.set i v)).toArray 47)::L) (.swap ..)).setCell 1 (.int .u64 (IntKind.u64.wrap (n+1)))).swap
theorem Turn.arSet {l L:List Blk}{w0 w:World}{a aw:Nat}{W:List Nat}{n:Int}(T:Turn l w0 (arBlks a aw W n++L) w)(i v:Nat):Turn l w0 (arBlks a aw (W.set i v) n++L) (w.setCell ⟨aw,i,none⟩ (.int .u64 v)):=by
 have h:=Turn.setCell (b:=aw) (c:=(u64s W).toArray) (e:=47) (f:=(0,0)) T i (.int .u64 v);rw[u64s_set]at h;unfold arBlks;rw[List.length_set];exact h
theorem Turn.arCnt {l L:List Blk}{w0 w:World}{a aw:Nat}{W:List Nat}{n:Int}(T:Turn l w0 (arBlks a aw W n++L) w)(m:Int):Turn l w0 (arBlks a aw W m++L) (w.setCell ⟨a,1,none⟩ (.int .u64 m)):=
 ((T.perm (l2:=(a,.cells #[.slice (some ⟨aw,0,none⟩) W.length W.length,.int .u64 n] 219)::(aw,.cells (u64s W).toArray 47)::L) (.swap ..)).setCell 1 (.int .u64 m)).swap
theorem arBlks_free {w:World}{a aw:Nat}{W:List Nat}{n:Int}{L:List Blk}(h:Has w (arBlks a aw W n++L))(i:Nat):w.frozen? ⟨aw,i,none⟩=false /\ w.frozen? ⟨a,i,none⟩=false /\ w.cell? ⟨a,1,none⟩=some (.int .u64 n):=
 ⟨h.free (b:=aw) (c:=(u64s W).toArray) (e:=47) (by simp[arBlks]) i,h.free (b:=a) (c:=#[.slice (some ⟨aw,0,none⟩) W.length W.length,.int .u64 n]) (e:=219) (by simp[arBlks]) i,
  h.cell (b:=a) (c:=#[.slice (some ⟨aw,0,none⟩) W.length W.length,.int .u64 n]) (e:=219) (f:=(0,0)) (by simp[arBlks]) 1⟩
theorem afill {l L:List Blk}{w0:World}(w:World){a aw:Nat}{W:List Nat}{n:Int}(T:Turn l w0 (arBlks a aw W n++L) w)(hf:W.length <= 65536)(i m:Nat)(hi:i+m <= W.length):
  Calls prog 151 #[pt a,.int .i64 i,.int .i64 m,.int .u64 0] w fun e w'=>e=.returned (.int .i64 0) /\ ∃n':Int,Turn l w0 (arBlks a aw (zeros W i m) n'++L) w':=by
 have hA:=arBlks_at T.has hf;have hh:=uh (ahas w hA i m (by unfold I64;omega) (by unfold I64;omega));rw[if_pos ⟨by omega,by omega,by omega⟩]at hh;have HT:=uh T;clear T hA
 go_enter func151,ntmps151
 go_wp2_with (first
  | (go_at_call 115;refine hh.out.mono ?_;rintro e w' ⟨rfl,rfl⟩)
  | fail)
 go_loopw [19] (fun v19 wr=>∃j:Nat,j <= m /\ v19=.int .i64 j /\ Turn l w0 (arBlks a aw (zeros W i j) n++L) wr) (fun v19 _=>m-(intOf v19).toNat)
 case atStart=>exact⟨0,Nat.zero_le _,rfl,HT.out⟩
 case round=>
  clear hh HT;obtain⟨j,hj,rfl,T⟩:=hrel;have hl:(zeros W i j).length=W.length:=zeros_len ..;have hA:=arBlks_at T.has (by rw[hl];exact hf);have c0:=hA.c0;rw[hl]at c0
  by_cases hlt:j<m
  · have hlt':(j:Int)<(m:Int):=by omega
    obtain⟨v0,hv0⟩:∃v0,(zeros W i j)[i+j]?= some v0:=⟨(zeros W i j)[i+j]'(by omega),List.getElem?_eq_getElem _⟩;have c1:=hA.ws (i+j) v0 hv0;have f1:=(arBlks_free T.has (i+j)).1;have T1:=T.arSet (i+j) 0;have HT1:=uh T1;have hb:(i:Int)+(j:Int)<(W.length:Int):=(by omega);have hb2:((i:Int)+(j:Int)).toNat=i+j:=(by omega);clear T T1 hA hv0 hl
    go_wp2
    go_roundw
    case rel=>exact⟨j+1,by omega,by go_num,HT1.out⟩
    case measure=>simp[intOf];omega
  · obtain rfl:j=m:=by omega
    have c1:=(arBlks_free T.has 1).2.2;have f1:=(arBlks_free T.has 1).2.1;have HT1:=uh T;clear T hA hl
    go_wp2
    go_ret;exact⟨rfl,IntKind.u64.wrap (n+(j:Int)),HT1.out.arCnt _⟩
end
end Go.Proofs.YtbecgkejdacidaaGreatDoor
