/-
  A part of a proof: texts packed by a program of mine.
  Conditions: those that each theorem states.
-/
import Derived.WalkKit
import Derived.WalkLawsBesides
import Derived.Lib.Hide
import Derived.Deep.MidRow
import Derived.Deep.RegionHeld
import Derived.Deep.RegionHeld3
import Derived.Deep.Cut
import Derived.Deep.CutRange
import Derived.Deep.CutBlock
import Derived.Deep.DeepCutAuto
import Derived.RangeFuncCalls
import Derived.OrdersIn
import Derived.TacticsIn
import Derived.Laws.AppendOwn
import Derived.StillTailTactics
import Derived.RangeFuncNested
import Derived.RangeFuncBox
import Derived.Laws.Bits64
import Derived.Laws.Bits64b
import Derived.Laws.BitsLemmas
import Derived.Test.YtoaofpohakaliaaGreatDoorProg
import Derived.BigFrame
import Derived.MapKept
import Derived.Maps.OwnOps
import Derived.Shelf.Abstract
import Derived.Laws.StructEq
import Derived.RangeFuncBound
import Derived.RangeFuncLeaves
import Derived.Shelf.RegionOpen
import Derived.OwnWalkIn
import Derived.TacticsInMore
import Derived.LoopNIn
import Derived.LoopIn
import Derived.BigRegionIn
import Derived.Deep.QuietTactic
import Derived.BigQuiet
set_option maxRecDepth 100000
set_option maxHeartbeats 12800000
open Go.Proofs.Tryz
namespace Go.Proofs.YtoaofpohakaliaaGreatDoor
section
open Go Go.RowKit
abbrev Blk:=Nat×Obj
def keys (l:List Blk):List Nat:=l.map (·.1)
@[simp] theorem gF : keys [] = [] := rfl
@[simp] theorem JP (x : Blk) (l : List Blk) : keys (x :: l) = x.1 :: keys l := rfl
@[simp] theorem GN (a b : List Blk) : keys (a ++ b) = keys a ++ keys b := by simp [keys]
theorem GE {l:List Blk}{b:Nat}:b∈keys l↔∃o,(b,o)∈l:=by
  simp[keys]
/-- The world holds these blocks, each once. -/
structure Has (w:World)(l:List Blk):Prop where
  nd:(keys l).Nodup
  own:∀b o,(b,o)∈l -> w.heap[b]?= some o
theorem Has.nil (w:World):Has w []:=⟨List.nodup_nil,fun _ _ h=>by cases h⟩
theorem Has.perm {w:World}{l l':List Blk}(h:Has w l)(p:l.Perm l'):Has w l':=
  ⟨(p.map _).nodup_iff.1 h.nd,fun b o r=>h.own b o (p.mem_iff.2 r)⟩
theorem Has.sub {w:World}{l l':List Blk}(h:Has w l)(s:l'.Sublist l):Has w l':=
  ⟨(s.map _).nodup h.nd,fun b o r=>h.own b o (s.subset r)⟩
theorem Has.left {w:World}{a b:List Blk}(h:Has w (a++b)):Has w a:=h.sub (List.sublist_append_left a b)
theorem Has.right {w:World}{a b:List Blk}(h:Has w (a++b)):Has w b:=h.sub (List.sublist_append_right a b)
theorem Has.lt {w:World}{l:List Blk}(h:Has w l){b:Nat}(r:b∈keys l):b<w.heap.size:=by
  obtain⟨o,y⟩:=GE.1 r;exact lt_of_block (h.own b o y)
theorem Has.drew {w:World}{l:List Blk}(h:Has w l):Has w.drew l:=⟨h.nd,h.own⟩
/-- A block that is held: a cell of it, and whether it may be written. -/
theorem Has.cell {w:World}{l:List Blk}(h:Has w l){b:Nat}{c:Array Value}{e:TypeId}{f:Nat×Nat}(hm:(b,Obj.cells c e f)∈l)(i:Nat):
    w.cell? ⟨b,i,none⟩=c[i]? :=by simp[World.cell?,h.own _ _ hm]
theorem Has.free {w:World}{l:List Blk}(h:Has w l){b:Nat}{c:Array Value}{e:TypeId}(r:(b,Obj.cells c e (0,0))∈l)(i:Nat):
    w.frozen? ⟨b,i,none⟩=false:=by simp[World.frozen?,h.own _ _ r]
/-- Of an owned list l in w a list l' in w' has come; nothing else has turned. -/
structure Turn (l:List Blk)(w:World)(l':List Blk)(w':World):Prop where
  os:w'.os=w.os
  tape:w'.tape=w.tape
  output:w'.output=w.output
  size:w.heap.size <= w'.heap.size
  has:Has w' l'
  new:∀b,b∈keys l' -> b∈keys l∨w.heap.size <= b
  same:∀b,b<w.heap.size -> b∉keys l -> w'.heap[b]?= w.heap[b]?
theorem Turn.refl {l:List Blk}{w:World}(h:Has w l):Turn l w l w:=⟨rfl,rfl,rfl,Nat.le_refl _,h,fun _ r=>.inl r,fun _ _ _=>rfl⟩
theorem Turn.trans {l E l2:List Blk}{w w1 G:World}(h:Turn l w E w1)(k:Turn E w1 l2 G):Turn l w l2 G:=by
  refine⟨k.os.trans h.os,k.tape.trans h.tape,k.output.trans h.output,Nat.le_trans h.size k.size,k.has,fun b r=>?_,fun b r y=>?_⟩
  · rcases k.new b r with h1|h1
    ·exact h.new b h1
    ·exact .inr (Nat.le_trans h.size h1)
  · refine(k.same b (Nat.lt_of_lt_of_le r h.size) (fun J=>?_)).trans (h.same b r y)
    rcases h.new b J with h1|h1
    ·exact y h1
    ·omega
theorem Turn.perm {l r l2:List Blk}{w w':World}(h:Turn l w r w')(p:r.Perm l2):Turn l w l2 w':=
  ⟨h.os,h.tape,h.output,h.size,h.has.perm p,fun b y=>h.new b ((p.map _).mem_iff.2 y),h.same⟩
theorem Turn.sub {l r l2:List Blk}{w w':World}(h:Turn l w r w')(s:l2.Sublist r):Turn l w l2 w':=
  ⟨h.os,h.tape,h.output,h.size,h.has.sub s,fun b y=>h.new b ((s.map _).subset y),h.same⟩
theorem Turn.drop {l a r:List Blk}{w w':World}(h:Turn l w (a++r) w'):Turn l w r w':=h.sub (List.sublist_append_right a r)
theorem Turn.tail {l r:List Blk}{x:Blk}{w w':World}(h:Turn l w (x::r) w'):Turn l w r w':=h.sub (List.sublist_cons_self x r)
/-- More may be owned at the start. -/
theorem Turn.more {l l1:List Blk}{w w':World}(h:Turn l w l1 w'){R:List Blk}(hR:Has w (l++R)):Turn (l++R) w (l1++R) w':=by
  have hd:=hR.nd;rw[GN,List.nodup_append]at hd;refine⟨h.os,h.tape,h.output,h.size,⟨?_,fun b o hm=>?_⟩,fun b hb=>?_,fun b hb hn=>h.same b hb (fun hm=>hn (by simp[hm]))⟩
  · rw[GN,List.nodup_append]
    refine⟨h.has.nd,hd.2.1,fun x hx y hy=>?_⟩;have hy':=hR.right.lt hy;rcases h.new x hx with h1|h1
    ·exact hd.2.2 x h1 y hy
    ·omega
  · rcases List.mem_append.1 hm with h1|h1
    ·exact h.has.own b o h1
    · have hk:b∈keys R:=GE.2 ⟨o,h1⟩
      rw[h.same b (hR.right.lt hk) (fun hm=>hd.2.2 b hm b hk rfl)];exact hR.right.own b o h1
  · rw[GN,List.mem_append]at hb
    rcases hb with h1|h1
    ·exact(h.new b h1).imp (fun h2=>by simp[h2]) id
    ·exact .inl (by simp[h1])
theorem Turn.drew {l r:List Blk}{w w':World}(h:Turn l w r w'):Turn l w r w'.drew:=⟨h.os,h.tape,h.output,h.size,h.has.drew,h.new,h.same⟩
theorem Turn.drewN {l r:List Blk}{w w':World}(h:Turn l w r w')(n:Nat):Turn l w r (w'.drewN n):=⟨h.os,h.tape,h.output,h.size,⟨h.has.nd,h.has.own⟩,h.new,h.same⟩
theorem Turn.alloc {l E:List Blk}{w w':World}(h:Turn l w E w')(o:Obj):Turn l w ((w'.heap.size,o)::E) (w'.alloc o):=by
  refine⟨h.os,h.tape,h.output,by rw[World.size_alloc];exact Nat.le_succ_of_le h.size,⟨?_,fun b o' y=>?_⟩,fun b r=>?_,fun b r G=>?_⟩
  · rw[JP,List.nodup_cons]
    exact⟨fun y=>Nat.lt_irrefl _ (h.has.lt y),h.has.nd⟩
  · rcases List.mem_cons.1 y with h1|h1
    · cases h1
      exact heap_alloc_new w' o
    · rw[Below.heap_alloc _ _ _ (h.has.lt (GE.2 ⟨o',h1⟩))]
      exact h.has.own b o' h1
  · rw[JP,List.mem_cons]at r
    rcases r with h1|h1
    ·exact .inr (by rw[h1];exact h.size)
    ·exact h.new b h1
  · rw[Below.heap_alloc _ _ _ (Nat.lt_of_lt_of_le r h.size)]
    exact h.same b r G
theorem Sr {w:World}{b:Nat}{c:Array Value}{e:TypeId}{f:Nat×Nat}(h:w.heap[b]?= some (.cells c e f))(i:Nat)(u:Value):
    (w.setCell ⟨b,i,none⟩ u).heap[b]?= some (.cells (c.setIfInBounds i u) e f):=by
  have r:=lt_of_block h;have y:w.heap[b]=.cells c e f:=by simpa [Array.getElem?_eq_getElem r]using h
  show(w.heap.modify b _)[b]?= _
  rw[Array.getElem?_eq_getElem (by simpa using r),Array.getElem_modify_self,y]
  rfl
theorem Turn.setCell {l G:List Blk}{w w':World}{b:Nat}{c:Array Value}{e:TypeId}{f:Nat×Nat}(h:Turn l w ((b,.cells c e f)::G) w')(i:Nat)(u:Value):
    Turn l w ((b,.cells (c.setIfInBounds i u) e f)::G) (w'.setCell ⟨b,i,none⟩ u):=by
  have hd:=h.has.nd;rw[JP,List.nodup_cons]at hd;refine⟨h.os,h.tape,h.output,by rw[World.size_setCell];exact h.size,⟨h.has.nd,fun r o M=>?_⟩,h.new,fun r J E=>?_⟩
  · rcases List.mem_cons.1 M with h1|h1
    · cases h1
      exact Sr (h.has.own b _ (List.mem_cons_self ..)) i u
    · rw[Below.heap_setCell _ _ _ _ (fun y=>hd.1 (GE.2 ⟨o,by rw[←show r=b from y];exact h1⟩))]
      exact h.has.own r o (List.mem_cons_of_mem _ h1)
  · rw[Below.heap_setCell _ _ _ _ (fun y=>?_)]
    ·exact h.same r J E
    · rcases h.new b (by simp)with h1|h1
      ·exact E (by rw[show r=b from y];exact h1)
      · have:r=b:=y
        omega
/-- The first of the owned blocks is written Q4. -/
theorem Turn.setRow {l l1:List Blk}{w w':World}{b:Nat}{c:Array Value}{e:TypeId}{f:Nat×Nat}(h:Turn l w ((b,.cells c e f)::l1) w')(c':Array Value):
    Turn l w ((b,.cells c' e f)::l1) (w'.setRow b c'):=by
  have hd:=h.has.nd;rw[JP,List.nodup_cons]at hd;refine⟨h.os,h.tape,h.output,by simpa [World.setRow]using h.size,⟨h.has.nd,fun b' o hm=>?_⟩,h.new,fun b' hb hn=>?_⟩
  · rcases List.mem_cons.1 hm with h1|h1
    · cases h1
      exact setRow_heap w' b c _ e f (h.has.own b _ (List.mem_cons_self ..))
    · rw[setRow_other _ _ _ _ (fun he=>hd.1 (GE.2 ⟨o,by rw[←he];exact h1⟩))]
      exact h.has.own b' o (List.mem_cons_of_mem _ h1)
  · rw[setRow_other _ _ _ _ (fun he=>?_)]
    ·exact h.same b' hb hn
    · rcases h.new b (by simp)with h1|h1
      ·exact hn (by rw[he];exact h1)
      ·omega
theorem Turn.below {y:List Blk}{w w':World}(h:Turn [] w y w'):Below w.heap.size w w':=
  ⟨h.os,h.tape,h.output,h.size,fun k r=>h.same k r (by simp)⟩
/-- Permutations by weights. -/
def wt (c:Blk -> Nat):List Blk -> Nat
  | []=>0
  | x::l=>c x+wt c l
@[simp] theorem jm (c : Blk -> Nat) : wt c [] = 0 := rfl
@[simp] theorem DP (c : Blk -> Nat) (x : Blk) (l : List Blk) : wt c (x :: l) = c x + wt c l := rfl
@[simp] theorem QC (c : Blk -> Nat) (a b : List Blk) : wt c (a ++ b) = wt c a + wt c b := by
  induction a with
  | nil=>simp
  | cons x a ih=>simp[ih];omega
theorem Ev {l l':List Blk}(h:∀c:Blk -> Nat,wt c l=wt c l'):l.Perm l':=by
  classical
  refine List.perm_iff_count.2 fun x=>?_
  have r:∀m:List Blk,wt (fun y=>if y=x then 1 else 0) m=m.count x:=by
    intro m
    induction m with
    | nil=>rfl
    | cons y m ih=>
      rw[DP,ih,List.count_cons]
      by_cases E:y=x<;>simp[E]<;>omega
  rw[←r,←r];exact h _
/-- A slice of n elements (of type e, 'size' cells each) lies in a block of its own, or is nil. -/
def Gh (e:TypeId)(size:Nat)(ao:Option Addr)(n cap:Nat)(xs:List Value)(l:List Blk):Prop:=
  xs.length=n*size /\ n <= cap /\ cap <= maxLen /\
  ((ao=none /\ cap=0 /\ l=[])∨
   ∃g cur,ao=some ⟨g,0,none⟩ /\ l=[(g,.cells cur e (0,0))] /\ cap*size <= cur.size /\ cur.toList.take (n*size)=xs)
theorem Gh.nil (e:TypeId)(size:Nat):Gh e size none 0 0 [] []:=⟨by simp,Nat.le_refl _,Nat.zero_le _,.inl ⟨rfl,rfl,rfl⟩⟩
theorem Gh.some_of {e:TypeId}{size:Nat}{ao:Option Addr}{n cap:Nat}{xs:List Value}{l:List Blk}(h:Gh e size ao n cap xs l)(y:0<n):
    ∃g r,ao=some ⟨g,0,none⟩ /\ l=[(g,.cells r e (0,0))] /\ cap*size <= r.size /\ r.toList.take (n*size)=xs:=by
  rcases h.2.2.2 with⟨_,h1,_⟩|h1
  · have:=h.2.1
    omega
  ·exact h1
theorem M5 {α:Type}{c:Array α}{m:Nat}{xs:List α}(h:c.toList.take m=xs)(j:Nat)(r:j<m):c[j]?= xs[j]? :=by
  subst h;rw[List.getElem?_take_of_lt r,Array.getElem?_toList]
theorem Gh.cell {e:TypeId}{size:Nat}{g n cap:Nat}{xs:List Value}{l:List Blk}(h:Gh e size (some ⟨g,0,none⟩) n cap xs l){w:World}{R:List Blk}(E:Has w (l++R))
    (j:Nat)(G:j<n*size):w.cell? ⟨g,j,none⟩=xs[j]? :=by
  rcases h.2.2.2 with⟨h1,_⟩|⟨J,r,h1,h2,M,y⟩
  ·cases h1
  · cases h1
    subst h2;rw[E.cell (b:=g) (c:=r) (e:=e) (f:=(0,0)) (by simp) j];exact M5 y j G
theorem Gh.set {e:TypeId}{size:Nat}{g n cap:Nat}{xs:List Value}{y:Array Value}(h:Gh e size (some ⟨g,0,none⟩) n cap xs [(g,.cells y e (0,0))])(j:Nat)(u:Value):
    Gh e size (some ⟨g,0,none⟩) n cap (xs.set j u) [(g,.cells (y.setIfInBounds j u) e (0,0))]:=by
  obtain⟨Z,hn,V,J⟩:=h;refine⟨by simpa using Z,hn,V,.inr ⟨g,_,rfl,rfl,?_,?_⟩⟩
  · rcases J with⟨r,_⟩|⟨U,E,r,G,M,N⟩
    ·cases r
    · cases r;cases G
      simpa using M
  · rcases J with⟨r,_⟩|⟨U,E,r,G,M,N⟩
    ·cases r
    · cases r;cases G
      rw[Array.toList_setIfInBounds,List.take_set,N]
section
variable {P:Program} (w:World)
/-- append to such a row: there is room, or a new block is laid. -/
theorem Nb (t ty e:TypeId)(i:TypeInfo)(z:Value)(size bytes:Nat)(ht:P.underlying t=some (.slice e))(hi:P.info? e=some i)(hz:i.zero=some z)
    (hsize:i.size=size)(hby:i.bytes=bytes)(hzs:z.cells.size=size)
    (ao:Option Addr)(n cap:Nat)(xs:List Value)(l R:List Blk)(hrow:Gh e size ao n cap xs l)(hH:Has w (l++R))
    (a:Addr)(m c:Nat)(news:List Value)(hl:news.length=m*size)(hnews:∀j u,news[j]?= some u -> w.cell? (a.add j)=some u)(h1:∀u∈news,u.oneCell'=true)
    (h63:n+m <= maxLen)(hbytes:(n+m)*bytes <= 140737488355328):
    ∃ao' cap' l' w',(Builtin.append_ #[t,t] ty #[.slice ao n cap,.slice (some a) m c]).run P w=.ok (.slice ao' (n+m) cap') w' /\
      Gh e size ao' (n+m) cap' (xs++news) l' /\ Turn (l++R) w (l'++R) w' /\ (ao'=none↔ao=none /\ m=0):=by
  subst hsize;subst hby;have hsmall:n+m <= 9223372036854775807:=by simp only[maxLen]at h63;omega
  have hlen:(xs++news).length=(n+m)*i.size:=by rw[List.length_append,hrow.1,hl,Nat.add_mul]
  have grown:∀(old:Nat),old<n+m ->
      Gh e i.size (some ⟨w.heap.size,0,none⟩) (n+m) (grownCap w (n+m) old e) (xs++news)
        [(w.heap.size,.cells (xs.toArray++news.toArray++Builtin.zeroCells z.cells (grownCap w (n+m) old e-(n+m))) e)] /\
      Turn (l++R) w ([(w.heap.size,.cells (xs.toArray++news.toArray++Builtin.zeroCells z.cells (grownCap w (n+m) old e-(n+m))) e)]++R)
        (w.drew.alloc (.cells (xs.toArray++news.toArray++Builtin.zeroCells z.cells (grownCap w (n+m) old e-(n+m))) e)):=by
    intro old ho;have hge:=grownCap_ge w (n+m) old e;have hcm:grownCap w (n+m) old e <= maxLen:=grownCap_le_maxLen w (n+m) old e h63;refine⟨⟨hlen,hge,hcm,.inr ⟨w.heap.size,_,rfl,rfl,?_,?_⟩⟩,?_⟩
    · simp only[Array.size_append,List.size_toArray,size_zeroCells,hzs,hrow.1,hl,←Nat.add_mul]
      refine Nat.mul_le_mul_right _ ?_;omega
    · simp only[Array.toList_append,List.append_assoc]
      rw[←List.append_assoc,←hlen];exact List.take_left
    ·exact((Turn.refl hH).drew.alloc _).sub (by simp)
  obtain⟨_,hnc,hcm,hcase⟩:=hrow;rcases hcase with⟨rfl,rfl,rfl⟩|⟨g,cur,rfl,rfl,hcs,htake⟩
  · obtain rfl:n=0:=by omega
    have hx:xs=[]:=List.eq_nil_of_length_eq_zero (by simpa [List.length_append,hl]using hlen);subst hx
    by_cases hm:m=0
    · subst hm
      have hn:news=[]:=List.eq_nil_of_length_eq_zero (by simpa using hl);subst hn;refine⟨none,0,[],w,?_,Gh.nil e i.size,Turn.refl hH,by simp⟩;simp[Builtin.append_,run_underlying ht,sizeOf,typeInfo,hi,Builtin.lenOf,Builtin.firstCells,loadCells,loadCellsFrom]
    · have hr:=run_append_nil (P:=P) w t ty e i z ht hi hz a m c news hl hnews (by omega) (by omega) (by have hb:=hbytes;simp only[Nat.zero_add]at hb;omega)
      have hgr:=grown 0 (by omega);simp only[Nat.zero_add,List.nil_append,Array.empty_append]at hgr ⊢;exact⟨_,_,_,_,hr,hgr.1,hgr.2,by simp[hm]⟩
  · by_cases hroom:n+m <= cap
    · have hfit:n*i.size+news.length <= cur.size:=by rw[hl,←Nat.add_mul];exact Nat.le_trans (Nat.mul_le_mul_right _ hroom) hcs
      have hr:=run_append_room (P:=P) w t ty e i ht hi g n cap cur (hH.own _ _ (by simp)) a m c news hl hnews h1 hroom hfit;refine⟨_,_,_,_,hr,⟨hlen,hroom,hcm,.inr ⟨g,_,rfl,rfl,?_,?_⟩⟩,(Turn.refl hH).setRow _,by simp⟩
      · simp only[List.size_toArray,List.length_append,List.length_take,List.length_drop,Array.length_toList]
        omega
      · rw[htake,←hlen]
        exact List.take_left
    · have holds:∀j u,xs[j]?= some u -> w.cell? ((⟨g,0,none⟩:Addr).add j)=some u:=by
        intro j u hj
        have hlt:j<n*i.size:=by
          have:=(List.getElem?_eq_some_iff.1 hj).1;rw[List.length_append,hl,Nat.add_mul]at hlen;omega
        have hc:=hH.cell (b:=g) (c:=cur) (e:=e) (f:=(0,0)) (by simp) j;rw[M5 htake j hlt,hj]at hc;rw[show(⟨g,0,none⟩:Addr).add j=⟨g,j,none⟩from by unfold Addr.add;split<;>simp_all];exact hc
      have hr:=run_append_grow (P:=P) w t ty e i z ht hi hz ⟨g,0,none⟩ n cap xs (by rw[List.length_append,hl,Nat.add_mul]at hlen;omega) holds a m c news hl hnews (by omega) (by omega) (growslice_fits (by omega) hbytes);have hgr:=grown cap (by omega);exact⟨_,_,_,_,hr,hgr.1,hgr.2,by simp⟩
end
/-- The element type of a slice type: its row of the program's table. -/
structure Elem (P:Program)(t e:TypeId)(size bytes:Nat)(z:Value):Prop where
  ht:P.underlying t=some (.slice e)
  info:∃i,P.info? e=some i /\ i.zero=some z /\ i.size=size /\ i.bytes=bytes
  zs:z.cells.size=size
theorem Elem.of {P:Program}{t e:TypeId}{size bytes:Nat}{z:Value}(r:P.underlying t=some (.slice e))
    (h:(P.info? e).map (fun i=>(i.zero,i.size,i.bytes))=some (some z,size,bytes))(y:z.cells.size=size):Elem P t e size bytes z:=⟨r,info_parts h,y⟩
section
variable {P:Program} {w:World} {o:Oper} {a:Act} {K:Act -> World -> Prop} {Q:Exit -> Act -> World -> Prop} {t e:TypeId} {size bytes:Nat} {z:Value}
  {ao:Option Addr} {n cap:Nat} {xs:List Value} {l R:List Blk} {ad:Addr} {m c:Nat} {news:List Value}
theorem JB (s x:Operand)(ho:o.op=.call { callee:=.builtin .append,args:=#[s,x],argTypes:=#[t,t] })(M:Elem P t e size bytes z)
    (hs:a.eval s=.slice ao n cap)(N:Gh e size ao n cap xs l)(hH:Has w (l++R))
    (hx:a.eval x=.slice (some ad) m c)(hl:news.length=m*size)(G:∀j u,news[j]?= some u -> w.cell? (ad.add j)=some u)(h1:∀u∈news,u.oneCell'=true)
    (U:n+m <= maxLen)(E:(n+m)*bytes <= 140737488355328)
    (h:∀y r l' w',Gh e size y (n+m) r (xs++news) l' -> Turn (l++R) w (l'++R) w' -> (y=none↔ao=none /\ m=0) -> K (a.put o.dst (.slice y (n+m) r)) w'):o.wp P a w K Q:=by
  obtain⟨i,hi,hz,J,V⟩:=M.info;obtain⟨y,r,l',w',hr,h2,Z,h4⟩:=Nb (P:=P) w t o.type e i z size bytes M.ht hi hz J V M.zs ao n cap xs l R N hH ad m c news hl G h1 U E;unfold Oper.wp execOp;simp only[ho,resolve,invoke,builtin,Sem.run_bind,Sem.run_pure,Result.andThen_ok,List.map_toArray,List.map_cons,List.map_nil,hs,hx,hr];exact h y r l' w' h2 Z h4
theorem Z8 {ops:Array Oper}{rest:List Oper}(N:o.guard=none)(s x:Operand)(ho:o.op=.call { callee:=.builtin .append,args:=#[s,x],argTypes:=#[t,t] })(he:Elem P t e size bytes z)
    (hs:a.eval s=.slice ao n cap)(J:Gh e size ao n cap xs l)(Z:Has w (l++R))
    (hx:a.eval x=.slice (some ad) m c)(hl:news.length=m*size)(G:∀j u,news[j]?= some u -> w.cell? (ad.add j)=some u)(h1:∀u∈news,u.oneCell'=true)
    (M:n+m <= maxLen)(E:(n+m)*bytes <= 140737488355328)
    (h:∀y r l' w',Gh e size y (n+m) r (xs++news) l' -> Turn (l++R) w (l'++R) w' -> (y=none↔ao=none /\ m=0) -> wpList P ops Q rest (a.put o.dst (.slice y (n+m) r)) w'):
    wpList P ops Q (o::rest) a w:=
  wpList_plain N fun _ hK=>JB s x ho he hs J Z hx hl G h1 M E fun y r l' w' h2 U V=>hK _ _ (h y r l' w' h2 U V)
theorem Bg {ops:Array Oper}{E:Prop}(U:o.guard=none)(s x:Operand)(ho:o.op=.call { callee:=.builtin .append,args:=#[s,x],argTypes:=#[t,t] })(Z:Elem P t e size bytes z)
    (hs:a.eval s=.slice ao n cap)(M:Gh e size ao n cap xs l)(V:Has w (l++R))
    (hx:a.eval x=.slice (some ad) m c)(hl:news.length=m*size)(J:∀j u,news[j]?= some u -> w.cell? (ad.add j)=some u)(h1:∀u∈news,u.oneCell'=true)
    (N:n+m <= maxLen)(G:(n+m)*bytes <= 140737488355328)
    (h:∀r y l' w',Gh e size r (n+m) y (xs++news) l' -> Turn (l++R) w (l'++R) w' -> (r=none↔ao=none /\ m=0) -> K (a.put o.dst (.slice r (n+m) y)) w'):
    if Region.wanted o (yielded ops a.tmps)=true then Oper.wp P o a w K Q else E:=by
  have hw:Region.wanted o (yielded ops a.tmps)=true:=by simp[Region.wanted,U]
  rw[if_pos hw];exact JB s x ho Z hs M V hx hl J h1 N G h
end
/-- The cells of a block that is known whole, as the append laws ask for them. -/
theorem jc {w:World}{B:Nat}{cs:Array Value}{t:TypeId}{fr:Nat×Nat}(hb:w.heap[B]?= some (.cells cs t fr)):
    ∀j u,cs.toList[j]?= some u -> w.cell? ((⟨B,0,none⟩:Addr).add j)=some u:=fun j u hu=>by
  have hadd:(⟨B,0,none⟩:Addr).add j=⟨B,j,none⟩:=by unfold Addr.add;split<;>simp_all
  rw[hadd];simp[World.cell?,hb,←Array.getElem?_toList,hu]
theorem Gh.news {e:TypeId}{size:Nat}{g n cap:Nat}{xs:List Value}{l:List Blk}(h:Gh e size (some ⟨g,0,none⟩) n cap xs l){w:World}{R:List Blk}(E:Has w (l++R)):
    ∀j u,xs[j]?= some u -> w.cell? ((⟨g,0,none⟩:Addr).add j)=some u:=fun j u y=>by
  have r:(⟨g,0,none⟩:Addr).add j=⟨g,j,none⟩:=by unfold Addr.add;split<;>simp_all
  rw[r,h.cell E j (by rw[←h.1];exact(List.getElem?_eq_some_iff.1 y).1),y]
/-- A slice's elements can be read at its address. -/
structure Src (w:World)(ao:Option Addr)(n cap size:Nat)(xs:List Value):Prop where
  len:xs.length=n*size
  nil:ao=none -> n=0 /\ cap=0
  at_:∀ad,ao=some ad -> ∀j u,xs[j]?= some u -> w.cell? (ad.add j)=some u
theorem Gh.src {e:TypeId}{size:Nat}{ao:Option Addr}{n cap:Nat}{xs:List Value}{l:List Blk}(h:Gh e size ao n cap xs l){w:World}{R:List Blk}(y:Has w (l++R)):Src w ao n cap size xs:=by
  refine⟨h.1,fun G=>?_,fun ad E=>?_⟩
  · have h1:=h.2.1
    rcases h.2.2.2 with⟨_,h2,_⟩|⟨g,r,h2,_⟩
    ·exact⟨by omega,h2⟩
    ·rw[G]at h2;cases h2
  · subst E
    rcases h.2.2.2 with⟨h2,_⟩|⟨g,r,h2,_⟩
    ·cases h2
    · cases h2
      exact h.news y
theorem Src.alloc {w:World}{ao:Option Addr}{n cap size:Nat}{xs:List Value}(h:Src w ao n cap size xs)(o:Obj):Src (w.alloc o) ao n cap size xs:=
  ⟨h.len,h.nil,fun ad r j u y=>by
    have h1:=h.at_ ad r j u y;rw[World.cell?_alloc_lt _ _ _ (World.block_lt_of_cell? w _ h1)];exact h1⟩
theorem KS (b off j:Nat):(⟨b,off,none⟩:Addr).add j=⟨b,off+j,none⟩:=by unfold Addr.add;split<;>simp_all
theorem Vc {w:World}{a:Addr}{v:Value}(h:w.cell? a=some v):a.spot=none:=by
  unfold World.cell? at h
  split at h
  · cases r:a.spot with
    | none=>rfl
    | some _=>simp[r]at h
  ·cases h
theorem Src.form {w:World}{ao:Option Addr}{n cap size:Nat}{xs:List Value}(h:Src w ao n cap size xs)(G:0<xs.length):
    ∃b off,ao=some ⟨b,off,none⟩ /\ ∀j u,xs[j]?= some u -> w.cell? ⟨b,off+j,none⟩=some u:=by
  cases ao with
  | none=>
    have h1:=h.len;rw[(h.nil rfl).1,Nat.zero_mul]at h1;omega
  | some ad=>
    have y:=h.at_ ad rfl 0 (xs[0]) (List.getElem?_eq_getElem G);have E:ad.add 0=ad:=(by unfold Addr.add;simp);rw[E]at y;have J:=Vc y;obtain⟨b,off,r⟩:=ad;obtain rfl:r=none:=J;exact⟨b,off,rfl,fun j u M=>by rw[←KS];exact h.at_ _ rfl j u M⟩
theorem Sp {P:Program}(w:World)(t ty e:TypeId)(i:TypeInfo)(E:P.underlying t=some (.slice e))(r:P.info? e=some i)(ao:Option Addr)(n cap:Nat)(y:n <= cap):
    (Builtin.append_ #[t,t] ty #[.slice ao n cap,.slice none 0 0]).run P w=.ok (.slice ao n cap) w:=by
  cases ao<;>simp[Builtin.append_,run_underlying E,sizeOf,typeInfo,r,Builtin.lenOf,Builtin.firstCells,y,storeCells]
section
variable {P:Program} {w:World} {o:Oper} {a:Act} {K:Act -> World -> Prop} {Q:Exit -> Act -> World -> Prop} {t e:TypeId} {size bytes:Nat} {z:Value}
  {ao ar:Option Addr} {n cap m c:Nat} {xs news:List Value} {l R:List Blk}
/-- append to a row, whatever the source: nil too. -/
theorem SZ (w:World)(he:Elem P t e size bytes z)(ty:TypeId)(hrow:Gh e size ao n cap xs l)(hH:Has w (l++R))(hsrc:Src w ar m c size news)(h1:∀u∈news,u.oneCell'=true)
    (h63:n+m <= maxLen)(hbytes:(n+m)*bytes <= 140737488355328):
    ∃ao' cap' l' w',(Builtin.append_ #[t,t] ty #[.slice ao n cap,.slice ar m c]).run P w=.ok (.slice ao' (n+m) cap') w' /\
      Gh e size ao' (n+m) cap' (xs++news) l' /\ Turn (l++R) w (l'++R) w':=by
  obtain⟨i,hi,hz,hsize,hby⟩:=he.info
  cases ar with
  | none=>
    obtain⟨rfl,rfl⟩:=hsrc.nil rfl;have hx:news=[]:=List.eq_nil_of_length_eq_zero (by simpa using hsrc.len);subst hx;exact⟨ao,cap,l,w,Sp w t ty e i he.ht hi ao n cap hrow.2.1,by simpa using hrow,Turn.refl hH⟩
  | some ad=>
    obtain⟨ao',cap',l',w',hr,h2,h3,_⟩:=Nb (P:=P) w t ty e i z size bytes he.ht hi hz hsize hby he.zs ao n cap xs l R hrow hH ad m c news hsrc.len (hsrc.at_ ad rfl) h1 h63 hbytes;exact⟨ao',cap',l',w',hr,h2,h3⟩
theorem NJ (s x:Operand)(Z:o.op=.call { callee:=.builtin .append,args:=#[s,x],argTypes:=#[t,t] })(V:Elem P t e size bytes z)
    (hs:a.eval s=.slice ao n cap)(hx:a.eval x=.slice ar m c)(G:Gh e size ao n cap xs l)(U:Has w (l++R))(J:Src w ar m c size news)(h1:∀u∈news,u.oneCell'=true)
    (M:n+m <= maxLen)(E:(n+m)*bytes <= 140737488355328)
    (h:∀y r l' w',Gh e size y (n+m) r (xs++news) l' -> Turn (l++R) w (l'++R) w' -> K (a.put o.dst (.slice y (n+m) r)) w'):o.wp P a w K Q:=by
  obtain⟨y,r,l',w',hr,h2,N⟩:=SZ (P:=P) w V o.type G U J h1 M E;unfold Oper.wp execOp;simp only[Z,resolve,invoke,builtin,Sem.run_bind,Sem.run_pure,Result.andThen_ok,List.map_toArray,List.map_cons,List.map_nil,hs,hx,hr];exact h y r l' w' h2 N
theorem Z7 {ops:Array Oper}{rest:List Oper}(N:o.guard=none)(s x:Operand)(ho:o.op=.call { callee:=.builtin .append,args:=#[s,x],argTypes:=#[t,t] })(he:Elem P t e size bytes z)
    (hs:a.eval s=.slice ao n cap)(hx:a.eval x=.slice ar m c)(G:Gh e size ao n cap xs l)(V:Has w (l++R))(J:Src w ar m c size news)(h1:∀u∈news,u.oneCell'=true)
    (M:n+m <= maxLen)(E:(n+m)*bytes <= 140737488355328)
    (h:∀y r l' w',Gh e size y (n+m) r (xs++news) l' -> Turn (l++R) w (l'++R) w' -> wpList P ops Q rest (a.put o.dst (.slice y (n+m) r)) w'):wpList P ops Q (o::rest) a w:=
  wpList_plain N fun _ Z=>NJ s x ho he hs hx G V J h1 M E fun y r l' w' h2 U=>Z _ _ (h y r l' w' h2 U)
end
/-- A slice over a block of its own that has just been laid. -/
theorem Gh.lit {e:TypeId}{size:Nat}(g:Nat)(cs:Array Value)(n:Nat)(hn:cs.size=n*size)(hm:n <= maxLen):Gh e size (some ⟨g,0,none⟩) n n cs.toList [(g,.cells cs e (0,0))]:=
  ⟨by simpa using hn,Nat.le_refl _,hm,.inr ⟨g,cs,rfl,rfl,by omega,List.take_of_length_le (by rw[Array.length_toList];omega)⟩⟩
/-- Where all that was owned is owned still, unturned, nothing that was there has turned. -/
theorem Turn.keeps {L A:List Blk}{w w':World}(h:Turn L w (A++L) w')(hH:Has w L)(b:Nat)(hb:b<w.heap.size):w'.heap[b]?= w.heap[b]? :=by
  by_cases hm:b∈keys L
  · obtain⟨o,ho⟩:=GE.1 hm
    rw[hH.own b o ho,h.has.own b o (List.mem_append.2 (.inr ho))]
  ·exact h.same b hb hm
theorem Src.later {w w':World}{ao:Option Addr}{n cap size:Nat}{xs:List Value}(h:Src w ao n cap size xs)(y:∀b,b<w.heap.size -> w'.heap[b]?= w.heap[b]?):Src w' ao n cap size xs:=
  ⟨h.len,h.nil,fun ad r j u E=>by
    have h1:=h.at_ ad r j u E;rw[World.cell?_of_block (y _ (World.block_lt_of_cell? w _ h1))];exact h1⟩
/-- Cells laid over others from a place on. -/
def J8 (c:Array Value)(o:Nat):List Value -> Array Value
  | []=>c
  | v::r=>J8 (c.setIfInBounds o v) (o+1) r
theorem NP:∀(vs:List Value) (c:Array Value) (o:Nat),(J8 c o vs).size=c.size
  | [],_,_=>rfl
  | v::r,c,o=>by rw[J8,NP r];simp
theorem Lb:∀(vs:List Value) (c:Array Value) (o j:Nat),(j<o∨o+vs.length <= j) -> (J8 c o vs)[j]?= c[j]?
  | [],_,_,_,_=>rfl
  | v::r,c,o,j,h=>by
    rw[List.length_cons]at h;rw[J8,Lb r _ _ j (by omega),Array.getElem?_setIfInBounds_ne (by omega)]
theorem Ng:∀(vs:List Value) (c:Array Value) (o j:Nat),o+vs.length <= c.size -> j<vs.length -> (J8 c o vs)[o+j]?= vs[j]?
  | v::r,c,o,j,h,hj=>by
    rw[List.length_cons]at h hj;rw[J8]
    cases j with
    | zero=>
      show(J8 (c.setIfInBounds o v) (o+1) r)[o]?= some v
      rw[Lb r (c.setIfInBounds o v) (o+1) o (by omega),Array.getElem?_setIfInBounds_self_of_lt (by omega)]
    | succ j=>
      have:=Ng r (c.setIfInBounds o v) (o+1) j (by simp;omega) (by omega);rw[show o+(j+1)=o+1+j by omega,this]
      rfl
theorem Vq (c:Array Value)(vs:List Value)(h:vs.length=c.size):J8 c 0 vs=vs.toArray:=by
  apply Array.ext_getElem?
  intro j
  by_cases r:j<vs.length
  · have:=Ng vs c 0 j (by omega) r
    rw[Nat.zero_add]at this;rw[this,List.getElem?_toArray]
  ·rw[Lb vs c 0 j (by omega),Array.getElem?_eq_none (by omega),List.getElem?_toArray,List.getElem?_eq_none (by omega)]
theorem Turn.setCells {l y:List Blk}{w:World}{b:Nat}{e:TypeId}{f:Nat×Nat}:∀(vs:List Value) (o:Nat) (c:Array Value) (w':World),Turn l w ((b,.cells c e f)::y) w' ->
    Turn l w ((b,.cells (J8 c o vs) e f)::y) (w'.setCells b o vs)
  | [],_,_,_,h=>h
  | v::r,o,c,w',h=>by
    rw[World.setCells];exact Turn.setCells r (o+1) _ _ (h.setCell o v)
theorem Has.there {w:World}{l:List Blk}{b:Nat}{c:Array Value}{e:TypeId}(h:Has w l)(r:(b,Obj.cells c e (0,0))∈l)(o n:Nat)(E:o+n <= c.size):w.there b o n:=fun j y=>
  ⟨by rw[h.cell r (o+j),Array.getElem?_eq_getElem (by omega)];rfl,h.free r (o+j)⟩
theorem Has.range {w:World}{l:List Blk}{b:Nat}{c:Array Value}{e:TypeId}{f:Nat×Nat}(h:Has w l)(r:(b,Obj.cells c e f)∈l):w.rangeAt b 0 c.toList:=fun j v y=>by
  rw[Nat.zero_add,h.cell r j,←Array.getElem?_toList];exact y
theorem Turn.of_below {L:List Blk}{w w':World}(y:Has w L)(r:Below w.heap.size w w'):Turn L w L w':=
  ⟨r.os,r.tape,r.output,r.size,⟨y.nd,fun b o G=>(r.block b (y.lt (GE.2 ⟨o,G⟩))).trans (y.own b o G)⟩,fun _ E=>.inl E,fun b E _=>r.block b E⟩
/-- A call that leaves all that lay. -/
theorem Turn.call {l L:List Blk}{w W w':World}(h:Turn l w L W)(hB:Below W.heap.size W w'):Turn l w L w':=h.trans (Turn.of_below h.has hB)
/-- The first of the owned blocks is laid Q4, whole. -/
theorem Turn.setAll {l l1:List Blk}{w w':World}{b:Nat}{c:Array Value}{e:TypeId}{f:Nat×Nat}(vs:List Value)(hl:vs.length=c.size)(h:Turn l w ((b,.cells c e f)::l1) w'):
    Turn l w ((b,.cells vs.toArray e f)::l1) (w'.setCells b 0 vs):=by
  have:=Turn.setCells vs 0 c w' h
  rwa [Vq c vs hl]at this
theorem Turn.laid {l r:List Blk}{w w':World}{b:Nat}{c:Array Value}{e:TypeId}{f:Nat×Nat}(h:Turn l w ((b,.cells c e f)::r) w')(vs:List Value)(y:vs.length=c.size):
    Turn l w ((b,.cells vs.toArray e f)::r) (w'.setCells b 0 vs):=Turn.setAll vs y h
/-- A cell of the first owned block; of the second one. -/
theorem Turn.cell1 {l L:List Blk}{w W:World}{b:Nat}{c:Array Value}{e:TypeId}{f:Nat×Nat}(h:Turn l w ((b,.cells c e f)::L) W)(i:Nat):W.cell? ⟨b,i,none⟩=c[i]? :=h.has.cell (List.mem_cons_self ..) i
theorem Turn.free1 {l L:List Blk}{w W:World}{b:Nat}{c:Array Value}{e:TypeId}(h:Turn l w ((b,.cells c e (0,0))::L) W)(i:Nat):W.frozen? ⟨b,i,none⟩=false:=h.has.free (List.mem_cons_self ..) i
theorem Turn.cell2 {l L:List Blk}{w W:World}{b:Nat}{x:Blk}{c:Array Value}{e:TypeId}{f:Nat×Nat}(h:Turn l w (x::(b,.cells c e f)::L) W)(i:Nat):W.cell? ⟨b,i,none⟩=c[i]? :=h.has.cell (List.mem_cons_of_mem _ (List.mem_cons_self ..)) i
theorem Turn.free2 {l L:List Blk}{w W:World}{b:Nat}{x:Blk}{c:Array Value}{e:TypeId}(h:Turn l w (x::(b,.cells c e (0,0))::L) W)(i:Nat):W.frozen? ⟨b,i,none⟩=false:=h.has.free (List.mem_cons_of_mem _ (List.mem_cons_self ..)) i
theorem Turn.there1 {l L:List Blk}{w W:World}{b:Nat}{c:Array Value}{e:TypeId}(h:Turn l w ((b,.cells c e (0,0))::L) W):W.there b 0 c.size:=h.has.there (List.mem_cons_self ..) 0 c.size (by omega)
theorem Turn.swap {l L:List Blk}{w W:World}{x y:Blk}(h:Turn l w (x::y::L) W):Turn l w (y::x::L) W:=h.perm (.swap ..)
theorem Turn.rot3 {l L:List Blk}{w W:World}{x y z:Blk}(h:Turn l w (x::y::z::L) W):Turn l w (z::x::y::L) W:=h.perm ((List.Perm.cons x (.swap ..)).trans (.swap ..))
theorem Turn.tor3 {l L:List Blk}{w W:World}{x y z:Blk}(h:Turn l w (z::x::y::L) W):Turn l w (x::y::z::L) W:=h.perm ((List.Perm.swap ..).trans (.cons x (.swap ..)))
theorem Turn.there2 {l L:List Blk}{w W:World}{b:Nat}{x:Blk}{c:Array Value}{e:TypeId}(h:Turn l w (x::(b,.cells c e (0,0))::L) W):W.there b 0 c.size:=h.swap.there1
theorem Turn.laid2 {l r:List Blk}{w w':World}{b:Nat}{x:Blk}{c:Array Value}{e:TypeId}{f:Nat×Nat}(h:Turn l w (x::(b,.cells c e f)::r) w')(vs:List Value)(y:vs.length=c.size):
    Turn l w (x::(b,.cells vs.toArray e f)::r) (w'.setCells b 0 vs):=(Turn.setAll vs y h.swap).swap
theorem Turn.there3 {l L:List Blk}{w W:World}{b:Nat}{x y:Blk}{c:Array Value}{e:TypeId}(h:Turn l w (x::y::(b,.cells c e (0,0))::L) W):W.there b 0 c.size:=h.rot3.there1
theorem Turn.laid3 {l r:List Blk}{w w':World}{b:Nat}{x y:Blk}{c:Array Value}{e:TypeId}{f:Nat×Nat}(h:Turn l w (x::y::(b,.cells c e f)::r) w')(vs:List Value)(E:vs.length=c.size):
    Turn l w (x::y::(b,.cells vs.toArray e f)::r) (w'.setCells b 0 vs):=(Turn.setAll vs E h.rot3).tor3
theorem Turn.range1 {l L:List Blk}{w W:World}{b:Nat}{c:Array Value}{e:TypeId}{f:Nat×Nat}(h:Turn l w ((b,.cells c e f)::L) W):W.rangeAt b 0 c.toList:=h.has.range (List.mem_cons_self ..)
theorem Turn.range2 {l L:List Blk}{w W:World}{b:Nat}{x:Blk}{c:Array Value}{e:TypeId}{f:Nat×Nat}(h:Turn l w (x::(b,.cells c e f)::L) W):W.rangeAt b 0 c.toList:=h.swap.range1
theorem Turn.range3 {l L:List Blk}{w W:World}{b:Nat}{x y:Blk}{c:Array Value}{e:TypeId}{f:Nat×Nat}(h:Turn l w (x::y::(b,.cells c e f)::L) W):W.rangeAt b 0 c.toList:=h.rot3.range1
theorem Turn.cell3 {l L:List Blk}{w W:World}{b:Nat}{x y:Blk}{c:Array Value}{e:TypeId}{f:Nat×Nat}(h:Turn l w (x::y::(b,.cells c e f)::L) W)(i:Nat):W.cell? ⟨b,i,none⟩=c[i]? :=h.rot3.cell1 i
/-- A result that lies in a block of its own; such a one and another one. -/
theorem Wp {P:Program}{fn:Func}{p:Tmp}{ty:TypeId}(h:fn.results=#[.cell p ty])(tmps:Array Value)(w:World)(b:Nat)(cs:List Value)(d:TypeDesc)
    (hp:tmps.getD p undef=.pointer (some ⟨b,0,none⟩))(hc:w.rangeAt b 0 cs)(hu:P.underlying ty=some d)(hd:d.isRow=true)(hi:(P.info? ty).map (·.size)=some cs.length):
    (results fn tmps).run P w=.ok (.agg cs.toArray) w:=by
  have hp':tmps[p]?.getD undef=.pointer (some ⟨b,0,none⟩):=by simpa using hp
  simp[results,h,hp',asAddr,run_loadVar_mid w b 0 ty cs d hc hu hd hi]
theorem Gs {P:Program}{r:Func}{p q:Tmp}{ty:TypeId}(h:r.results=#[.cell p ty,.tmp q])(tmps:Array Value)(w:World)(b:Nat)(cs:List Value)(d:TypeDesc)
    (J:tmps.getD p undef=.pointer (some ⟨b,0,none⟩))(E:w.rangeAt b 0 cs)(M:P.underlying ty=some d)(hd:d.isRow=true)(G:(P.info? ty).map (·.size)=some cs.length):
    (results r tmps).run P w=.ok (.tuple #[.agg cs.toArray,tmps.getD q undef]) w:=by
  have y:tmps[p]?.getD undef=.pointer (some ⟨b,0,none⟩):=by simpa using J
  simp[results,h,y,asAddr,run_loadVar_mid w b 0 ty cs d E M hd G]
/-- A world of which no more is known. -/
theorem J1 {P:Program}{c:Code}{Q:Exit -> Act -> World -> Prop}{a:Act}{w:World}(I:World -> Prop)(h0:I w)(h:∀W,I W -> c.wp P Q a W):c.wp P Q a w:=h w h0
theorem je {cs:List Value}(h:∀v∈cs,v.oneCell'=true):cs.toArray.all (·.oneCell')=true:=all_oneCell_toArray h
section
variable {P:Program} {ops:Array Oper} {md:Region.Mode} {Q:Exit -> Act -> World -> Prop}
/-- An operation that is wanted and yields its value in every world that meets S is taken first. -/
theorem N8 {S:World -> Prop}{fuel:Nat}{w:World}(i d:Nat){oi:Oper}{v:Value}{L:List Bool}{ts:List Value}{ds:List Deferred}(hi:ops[i]?= some oi)(hdst:oi.dst=some d)(hw:Region.wanted oi (yielded ops ts.toArray)=true)
    (hs:Region.noSelect ops=true)(hf:Region.free md ops L.toArray i=true)(hr:(Region.ready md ops L.toArray).contains i=true)
    (hQ:∀c (a:Act) v w,Q (.panic c) (a.put (some d) v) w -> Q (.panic c) a w)(hS:S w)
    (hy:∀w,S w -> (execOp (Act.eval { tmps:=ts.toArray,defers:=ds }) oi).run P w=.ok (.value v) w)
    (h:wpAnyH P md ops Q S fuel (L.set i true).toArray { tmps:=(ts.set d v).toArray,defers:=ds } w):wpAnyH P md ops Q S (fuel+1) L.toArray { tmps:=ts.toArray,defers:=ds } w:=by
  refine wpAnyH_take hi hs hf hr (fun c a w h=>hQ c a v w (by rw[←hdst];exact h)) (Or.inl ⟨hw,hy⟩) hS ?_
  simpa [Act.put,hdst]using h
theorem RF {S:World -> Prop}{G:Nat}{a:Act}{w:World}(k:Nat)(L:List Bool)(y:ops.size=k)(r:(Array.replicate k false).toList=L)(E:P.follows .mixedOrders=true)
    (h:wpAnyH P .any ops Q S k L.toArray a w.drew):(Code.region G ops true).wp P Q a w:=by
  subst y;subst r;exact wp_region_held E h
theorem EC {o:Oper}{a:Act}{w:World}(ty:TypeId)(x:Operand)(E:o.op=.load ty x)(b off:Nat)(J:a.eval x=.pointer (some ⟨b,off,none⟩))(cs:List Value)(d:TypeDesc)(r:w.rangeAt b off cs)
    (G:P.underlying ty=some d)(hd:d.isRow=true)(y:(P.info? ty).map (·.size)=some cs.length):(execOp a.eval o).run P w=.ok (.value (.agg cs.toArray)) w:=by
  unfold execOp;simp only[E,J,Instr.loadAt,Instr.sureAddr,Sem.run_bind,Sem.run_pure,Result.andThen_ok,run_loadVar_mid w b off ty cs d r G hd y]
end
section
variable {P:Program} {ops:Array Oper} {rest:List Oper} {op:Oper} {a:Act} {w:World} {Q:Exit -> Act -> World -> Prop}
theorem Mj (y:Region.wanted op (yielded ops a.tmps)=true)(h:∀K:Act -> World -> Prop,(∀a w,wpList P ops Q rest a w -> K a w) -> op.wp P a w K Q):wpList P ops Q (op::rest) a w:=
  wpList_step fun K r=>by rw[if_pos y];exact h K r
/-- A load of many cells, guarded: the guard holds. -/
theorem DG (ty:TypeId)(x:Operand)(ho:op.op=.load ty x)(hw:Region.wanted op (yielded ops a.tmps)=true)(b off:Nat)(hx:a.eval x=.pointer (some ⟨b,off,none⟩))(cs:List Value)(d:TypeDesc)(hc:w.rangeAt b off cs)
    (hu:P.underlying ty=some d)(hd:d.isRow=true)(hi:(P.info? ty).map (·.size)=some cs.length)(h:wpList P ops Q rest (a.put op.dst (.agg cs.toArray)) w):wpList P ops Q (op::rest) a w:=
  Mj hw fun _ hK=>wp_load_mid ty x ho b off hx cs d hc hu hd hi (hK _ _ h)
end
end
section
open Go Go.RowKit
section
variable {P:Program} {ops:Array Oper} {md:Region.Mode} {Q:Exit -> Act -> World -> Prop}
theorem QU {S:World -> Prop}{r:Nat}{w:World}(i d:Nat){E:Oper}{L:List Bool}{G:List Value}{J:List Deferred}(V:ops[i]?= some E)(y:E.dst=some d)(hw:Region.wanted E (yielded ops G.toArray)=false)
    (hs:Region.noSelect ops=true)(U:Region.free md ops L.toArray i=true)(Z:(Region.ready md ops L.toArray).contains i=true)
    (M:∀c (a:Act) v w,Q (.panic c) (a.put (some d) v) w -> Q (.panic c) a w)(N:S w)
    (h:wpAnyH P md ops Q S r (L.set i true).toArray { tmps:=(G.set d undef).toArray,defers:=J } w):wpAnyH P md ops Q S (r+1) L.toArray { tmps:=G.toArray,defers:=J } w:=by
  refine wpAnyH_take V hs U Z (fun c a w h=>M c a undef w (by rw[←y];exact h)) (Or.inr ⟨hw,rfl⟩) N ?_
  simpa [Act.put,y]using h
end
abbrev pt (b:Nat):Value:=.pointer (some ⟨b,0,none⟩)
abbrev zH:Obj:=.cells #[.int .u8 0,.int .i64 0,.int .i64 0,.int .i64 0] 125
abbrev zT:Obj:=.cells #[.int .u8 0,.int .i64 0,.int .u64 0] 79
abbrev rS (a:Option Addr)(W:List Nat)(c:Nat)(l:Option Addr){τ:Type}(L:List τ)(k:Nat):Obj:=.cells #[.slice a W.length c,.slice l L.length k] 62
abbrev bS (b:Nat):Obj:=.cells #[.pointer (some ⟨b,0,none⟩)] 53
abbrev iV (n:Int):Value:=.int .i64 n
abbrev uV (n:Int):Value:=.int .u64 n
abbrev yV (n:Int):Value:=.int .u8 n
abbrev aD (b o:Nat):Addr:=⟨b,o,none⟩
def fS:Nat -> List Bool
  | 0=>[]
  | n+1=>false::fS n
theorem Da:∀n,(Array.replicate n false).toList=fS n
  | 0=>rfl
  | n+1=>by rw[Array.toList_replicate,List.replicate_succ,fS,←Da n,Array.toList_replicate]
theorem kr {p:Prop}(h:p:=by kernel_rfl):p:=h
theorem O {p:Prop}(h:p:=by omega):p:=h
theorem uh {p:Prop}(h:p):Hid p:=Lib.hid h
theorem po {l l':List Blk}(h:∀c:Blk -> Nat,wt c l=wt c l':=by intro c;simp[iV,uV,yV,aD]<;>omega):l.Perm l':=Ev h
abbrev sW {P:Program}{ops:Array Oper}{Q:Exit -> Act -> World -> Prop}{d:Option Tmp}{ty:TypeId}{ps:String}{af:Array Edge}{gd:Option (Nat×Bool)}{p v:Operand}{r:List Oper}{a:Act}{w:World}(t:TypeId):Prop:=wpList P ops Q (⟨d,.store t p v,ty,ps,af,gd⟩::r) a w
abbrev lW {P:Program}{ops:Array Oper}{Q:Exit -> Act -> World -> Prop}{d:Option Tmp}{ty:TypeId}{ps:String}{af:Array Edge}{gd:Option (Nat×Bool)}{p:Operand}{r:List Oper}{a:Act}{w:World}(t:TypeId):Prop:=wpList P ops Q (⟨d,.load t p,ty,ps,af,gd⟩::r) a w
theorem G7 {α:Type}{a b:α}{l:List α}:(b::l).set 0 a=a::l:=rfl
theorem G6 {α:Type}{a b:α}{l:List α}{n:Nat}:(b::l).set (n+1) a=b::l.set n a:=rfl
theorem Gb {α:Type}{l:List α}{i:Nat}{a:α}:l.toArray.setIfInBounds i a=(l.set i a).toArray:=List.setIfInBounds_toArray ..
section
variable {P:Program} {ops:Array Oper} {md:Region.Mode} {Q:Exit -> Act -> World -> Prop}
theorem rG {S:World -> Prop}{id:Nat}{a:Act}{w:World}(k:Nat){L:List Bool}(h:wpAnyH P .any ops Q S k L.toArray a w.drew)(hk:ops.size=k:=by rfl)(hL:fS k=L:=by simp only[fS];exact rfl)(hm:P.follows .mixedOrders=true:=by kernel_rfl):(Code.region id ops true).wp P Q a w:=RF k L hk ((Da k).trans hL) hm h
theorem G2 {S:World -> Prop}{fuel:Nat}{w:World}(i d:Nat){oi:Oper}{v:Value}{L:List Bool}{ts:List Value}{ds:List Deferred}(hS:S w){L2:List Bool}{ts2:List Value}(h:wpAnyH P md ops Q S fuel L2.toArray { tmps:=ts2.toArray,defers:=ds } w)
    (hi:ops[i]?= some oi:=by rfl)(hdst:oi.dst=some d:=by rfl)(hw:Region.wanted oi (yielded ops ts.toArray)=true:=by rfl)
    (hs:Region.noSelect ops=true:=by kernel_rfl)(hf:Region.free md ops L.toArray i=true:=by kernel_rfl)(hr:(Region.ready md ops L.toArray).contains i=true:=by kernel_rfl)
    (hQ:∀c (a:Act) v w,Q (.panic c) (a.put (some d) v) w -> Q (.panic c) a w:=by exact fun _ _ _ _ h=>h)
    (hy:∀w,S w -> (execOp (Act.eval { tmps:=ts.toArray,defers:=ds }) oi).run P w=.ok (.value v) w:=by intro w hSw;clear hSw;go_simp;try rfl)
    (hL:L.set i true=L2:=by simp only[G7,G6];try exact rfl)(ht:ts.set d v=ts2:=by simp only[G7,G6];try exact rfl):
    wpAnyH P md ops Q S (fuel+1) L.toArray { tmps:=ts.toArray,defers:=ds } w:=N8 i d hi hdst hw hs hf hr hQ hS hy (by rw[hL,ht];exact h)
theorem Jt {S:World -> Prop}{fuel:Nat}{w:World}{C:World -> Prop}(i d:Nat){oi:Oper}{v:Value}{L:List Bool}{ts:List Value}{ds:List Deferred}(hS:S w)(hC:∀w,S w -> C w){L2:List Bool}{ts2:List Value}(h:wpAnyH P md ops Q S fuel L2.toArray { tmps:=ts2.toArray,defers:=ds } w)
    (hi:ops[i]?= some oi:=by rfl)(hdst:oi.dst=some d:=by rfl)(hw:Region.wanted oi (yielded ops ts.toArray)=true:=by rfl)
    (hs:Region.noSelect ops=true:=by kernel_rfl)(hf:Region.free md ops L.toArray i=true:=by kernel_rfl)(hr:(Region.ready md ops L.toArray).contains i=true:=by kernel_rfl)
    (hQ:∀c (a:Act) v w,Q (.panic c) (a.put (some d) v) w -> Q (.panic c) a w:=by exact fun _ _ _ _ h=>h)
    (hy:∀w,C w -> (execOp (Act.eval { tmps:=ts.toArray,defers:=ds }) oi).run P w=.ok (.value v) w:=by intro w hc;go_simp;try rfl)
    (hL:L.set i true=L2:=by simp only[G7,G6];try exact rfl)(ht:ts.set d v=ts2:=by simp only[G7,G6];try exact rfl):
    wpAnyH P md ops Q S (fuel+1) L.toArray { tmps:=ts.toArray,defers:=ds } w:=N8 i d hi hdst hw hs hf hr hQ hS (fun w hw=>hy w (hC w hw)) (by rw[hL,ht];exact h)
theorem XM {S:World -> Prop}{fuel:Nat}{w:World}(i d:Nat){oi:Oper}{v:Value}{L:List Bool}{ts:List Value}{ds:List Deferred}(hS:S w)
    (hy:∀w,S w -> (execOp (Act.eval { tmps:=ts.toArray,defers:=ds }) oi).run P w=.ok (.value v) w){L2:List Bool}{ts2:List Value}(h:wpAnyH P md ops Q S fuel L2.toArray { tmps:=ts2.toArray,defers:=ds } w)
    (hi:ops[i]?= some oi:=by rfl)(hdst:oi.dst=some d:=by rfl)(hw:Region.wanted oi (yielded ops ts.toArray)=true:=by rfl)
    (hs:Region.noSelect ops=true:=by kernel_rfl)(hf:Region.free md ops L.toArray i=true:=by kernel_rfl)(hr:(Region.ready md ops L.toArray).contains i=true:=by kernel_rfl)
    (hQ:∀c (a:Act) v w,Q (.panic c) (a.put (some d) v) w -> Q (.panic c) a w:=by exact fun _ _ _ _ h=>h)
    (hL:L.set i true=L2:=by simp only[G7,G6];try exact rfl)(ht:ts.set d v=ts2:=by simp only[G7,G6];try exact rfl):
    wpAnyH P md ops Q S (fuel+1) L.toArray { tmps:=ts.toArray,defers:=ds } w:=N8 i d hi hdst hw hs hf hr hQ hS hy (by rw[hL,ht];exact h)
theorem FY {S:World -> Prop}{fuel:Nat}{w:World}(i d:Nat){oi:Oper}{L:List Bool}{ts:List Value}{ds:List Deferred}(hS:S w){L2:List Bool}{ts2:List Value}(h:wpAnyH P md ops Q S fuel L2.toArray { tmps:=ts2.toArray,defers:=ds } w)
    (hi:ops[i]?= some oi:=by rfl)(hdst:oi.dst=some d:=by rfl)(hw:Region.wanted oi (yielded ops ts.toArray)=false:=by rfl)
    (hs:Region.noSelect ops=true:=by kernel_rfl)(hf:Region.free md ops L.toArray i=true:=by kernel_rfl)(hr:(Region.ready md ops L.toArray).contains i=true:=by kernel_rfl)
    (hQ:∀c (a:Act) v w,Q (.panic c) (a.put (some d) v) w -> Q (.panic c) a w:=by exact fun _ _ _ _ h=>h)
    (hL:L.set i true=L2:=by simp only[G7,G6];try exact rfl)(ht:ts.set d undef=ts2:=by simp only[G7,G6];try exact rfl):
    wpAnyH P md ops Q S (fuel+1) L.toArray { tmps:=ts.toArray,defers:=ds } w:=QU i d hi hdst hw hs hf hr hQ hS (by rw[hL,ht];exact h)
theorem G5 {S:World -> Prop}{fuel:Nat}{L:Array Bool}{a:Act}{w:World}{o:Oper}(i:Nat)
    (h:∀K':Act -> World -> Prop,Shut (∀a w,S w -> (S w -> wpAnyH P md ops Q S fuel (L.setIfInBounds i true) a w) -> K' a w) -> if Region.wanted o (yielded ops a.tmps)=true then Oper.wp P o a w K' Q else K' (a.put o.dst undef) w)
    (ho:ops[i]?= some o:=by rfl)(hr:Region.ready md ops L=[i]:=by kernel_rfl):wpAnyH P md ops Q S (fuel+1) L a w:=wpAnyH_ready hr (by simp) (AllReadyH.cons ho h AllReadyH.nil)
end
end
section
open Go Go.RowKit Go.IntWalk
abbrev a_:= @List.getElem?_eq_getElem
abbrev b_:= @decide_eq_false
abbrev c_:= @World.block_lt_of_cell?
abbrev d_:= @List.mem_cons_self
abbrev e_:= @List.length_append
abbrev f_:= @bodyPost_ret
abbrev g_:= @Nat.le_refl
abbrev h_:= @wpList_store_mid
abbrev j_:= @beq_eq_false_iff_ne
abbrev k_:= @decide_eq_true
abbrev m_:= @List.getElem?_eq_some_iff
abbrev n_:= @List.length_map
abbrev p_:= @List.append_nil
abbrev q_:= @List.mem_of_getElem?
abbrev r_:= @Turn.refl
abbrev s_:= @List.mem_append
abbrev t_:= @List.mem_cons
abbrev u_:= @Nat.zero_le
abbrev v_:= @if_pos
abbrev x_:= @List.sublist_append_left
abbrev y_:= @if_neg
abbrev z_:= @NoPanic.normal
abbrev A_:= @heap_alloc_new
abbrev B_:= @List.length_cons
abbrev C_:= @Has.nil
abbrev D_:= @List.take_length
abbrev E_:= @results_tmp2
abbrev F_:= @wp_region_noPanic
abbrev G_:= @List.getElem?_map
abbrev H_:= @AllReadyH.cons
abbrev J_:= @wpList_load_mid
abbrev K_:= @Z8
abbrev L_:= @List.nil_append
abbrev M_:= @List.getD_eq_getElem?_getD
abbrev N_:= @callsIn_wide
abbrev P_:= @wpAnyH_done
abbrev Q_:= @Nat.zero_add
abbrev R_:= @Array.replicate_zero
abbrev S_:= @Array.replicate_succ
abbrev T_:= @Below.refl
abbrev U_:= @List.mem_map
abbrev V_:= @List.mem_cons_of_mem
abbrev W_:= @List.length_replicate
abbrev X_:= @List.append_toArray
abbrev Y_:= @World.size_alloc
abbrev Z_:= @List.size_toArray
abbrev Qa:= @List.mem_singleton
abbrev Qb:= @List.getElem?_eq_none
abbrev Qc:= @List.push_toArray
abbrev Qd:= @List.cons_append
abbrev Qe:= @bne_iff_ne
abbrev Qf:= @Nat.le_trans
abbrev Qg:= @List.getElem?_append_right
abbrev Qh:= @List.length_take
abbrev Qj:= @List.length_nil
abbrev Qk:= @lt_of_block
abbrev Qm:= @List.sublist_cons_self
abbrev Qn:= @List.length_set
abbrev Qq:= @List.append_assoc
abbrev Qr:= @List.take_add_one
abbrev Qs:= @Int.toNat_natCast
abbrev Qt:= @List.mem_append_right
abbrev Qu:= @congrArg
abbrev Qv:= @Z7
abbrev Qx:= @beq_iff_eq
abbrev Qy:= @jc
abbrev Qz:= @List.getElem?_append_left
abbrev Za:= @List.map_append
abbrev Zb:= @Gh.nil
abbrev Zc:= @Option.getD_some
abbrev Zd:= @AllReadyH.nil
abbrev Ze:= @Turn.of_below
abbrev Zf:= @wpAnyH_ready
abbrev Zg:= @results_none
abbrev Zh:= @Nat.le_succ
abbrev Zj:= @Array.getElem?_toList
abbrev Zk:= @decide_eq_false_iff_not
abbrev Zm:= @List.length_filter_le
abbrev Zn:= @List.map_cons
abbrev Zp:= @List.eq_of_mem_replicate
abbrev Zq:= @List.setIfInBounds_toArray
abbrev Zr:= @List.mem_append_left
abbrev Zs:= @Nat.add_zero
abbrev Zt:= @Nat.lt_of_lt_of_le
abbrev Zu:= @List.not_mem_nil
abbrev Zv:= @List.map_map
abbrev Zx:= @decide_eq_true_eq
abbrev Zy:= @List.sublist_append_right
abbrev Zz:= @List.mem_or_eq_of_mem_set
abbrev Xa:= @EC
abbrev Xb:= @DG
abbrev Xc:= @Bg
abbrev Xd:= @Result.andThen_ok
abbrev Xe:= @List.length_range
abbrev Xf:= @List.set_cons_zero
abbrev Xg:= @Int.tmod_eq_emod_of_nonneg
abbrev Xh:= @List.filter_cons_of_pos
abbrev Xj:= @List.filter_cons_of_neg
abbrev Xk:= @callsIn_of_wp
abbrev Xm:= @bne_eq_false_iff_eq
abbrev Xn:= @Bool.and_eq_true
abbrev Xp:= @List.take_of_length_le
abbrev Xq:= @List.ext_getElem?
abbrev Xr:= @List.getElem?_take_of_lt
abbrev Xs:= @Nat.mul_one
abbrev Xt:= @List.eq_nil_of_length_eq_zero
abbrev Xu:= @List.getElem?_set_self
abbrev Xv:= @List.filter_append
abbrev Xx:= @List.length_singleton
abbrev Xy:= @List.Sublist.refl
abbrev Xz:= @List.getElem?_replicate
abbrev Ya:= @Int.eq_ofNat_of_zero_le
abbrev Yb:= @Int.natCast_nonneg
abbrev Yc:= @Array.getElem?_eq_none
abbrev Yd:= @List.pairwise_iff_getElem
abbrev Ye:= @Array.getElem?_eq_getElem
abbrev Yf:= @Nat.pow_le_pow_right
abbrev Yg:= @Nat.add_sub_cancel_left
abbrev Yh:= @Ev
abbrev Yj:= @List.flatMap_cons
abbrev Yk:= @List.range_succ
abbrev Ym:= @List.mem_filter
abbrev Yn:= @je
abbrev Yp:= @List.getElem?_toArray
abbrev Yq:= @Bool.and_eq_false_iff
abbrev Yr:= @List.length_drop
abbrev Ys:= @List.getElem?_of_mem
abbrev Yt:= @List.nodup_append
abbrev Yu:= @List.nodup_cons
abbrev Yv:= @List.getElem?_range
abbrev Yx:= @Int.toNat_of_nonneg
abbrev Yy:= @Array.length_toList
abbrev Yz:= @Lib.cell_of_heap
abbrev Ja:= @List.singleton_inj
abbrev Jb:= @Nat.testBit_eq_decide_div_mod_eq
abbrev Jc:= @Nat.sub_self
abbrev Jd:= @Nat.add_mul
abbrev Je:= @List.getElem?_set_ne
abbrev Jf:= @Bool.eq_false_iff
abbrev Jg:= @Array.getElem?_setIfInBounds_ne
abbrev Jh:= @List.map_congr_left
abbrev Jj:= @Option.getD_none
abbrev Jk:= @Turn.setCell
abbrev Jm:= @Elem.of
abbrev Jn:= @Nat.not_lt_zero
end
section
open Go
theorem Mv {n l:Nat}{P:Program}{o:Oper}{a:Act}{w:World}{K:Act -> World -> Prop}{Q:Exit -> Act -> World -> Prop}(hd:∀c,o.op≠ .defer c)(h:o.wp P a w K Q):
  o.wpIn (Fence.wide.inRound l) n P a w K Q:=by
 refine⟨fun _ _=>trivial,?_⟩;rw[show(Fence.wide.inRound l).round=some l from rfl,Oper.semAt_some l _ _ hd];unfold Oper.wp at h;generalize(execOp a.eval o).run P w=r at*
 cases r with
 | ok x w'=>
  cases x<;>simp only[Oper.upon,Oper.uponIn]at h ⊢ <;>first
   | exact h
   | exact⟨(fun y=>by cases y),CallsIn.inRound l (N_.2 h)⟩
   | (refine⟨(fun y=>by cases y),fun c cs _=>?_⟩
      obtain⟨v,E,G,J⟩:=h c cs;exact⟨v,E,G,(stepsIn_wide (P:=P)).2 J⟩)
 | halt x w'=>cases x<;>simp only[Oper.upon,Oper.uponIn]at h ⊢ <;>exact h
def M7 (ops:Array Oper):Bool:=ops.toList.all fun o=>match o.op with| .defer _=>false|_=>true
theorem Sa {ops:Array Oper}(h:M7 ops=true){i:Nat}{o:Oper}(r:ops[i]?= some o):∀c,o.op≠ .defer c:=by
 intro c y
 have E:o∈ops.toList:=by
  rw[←Zj]at r;exact q_ r
 have:=List.all_eq_true.1 h o E;rw[y]at this
 cases this
section
variable {n l:Nat} {P:Program} {ops:Array Oper} {Q:Exit -> Act -> World -> Prop} {md:Region.Mode}
theorem UU (hd:M7 ops=true)(hq:¬LetsOut Q){i:Nat}{K E:Act -> World -> Prop}(r:∀a w,K a w -> E a w){a:Act}{w:World}(h:wpOp P ops Q i K a w):
  wpOpIn (Fence.wide.inRound l) n P ops Q i E a w:=by
 unfold wpOp at h;unfold wpOpIn
 cases y:ops[i]? with
 | none=>rw[y]at h;exact r _ _ h
 | some o=>
  rw[y]at h;simp only at h ⊢
  split
  · rename_i hw
    rw[v_ hw]at h;rcases h with h|⟨-,h⟩
    ·exact Mv (Sa hd y) (Oper.wp_mono r h)
    ·exact absurd h hq
  · rename_i hw
    rw[y_ hw]at h;exact⟨fun _ _=>trivial,r _ _ h⟩
theorem NK (hd:M7 ops=true)(hq:¬LetsOut Q):∀(r:Nat) (y:Array Bool) (a:Act) (w:World),wpAny P md ops Q r y a w -> wpAnyIn (Fence.wide.inRound l) n P md ops Q r y a w
 | 0,_,_,_,h=>h
 | r+1,_,_,_,h=>⟨h.1,fun i E=>UU hd hq (fun a w=>NK hd hq r _ a w) (h.2 i E)⟩
theorem Jq {G:Nat}{a:Act}{w:World}{S:World -> Prop}(k:Nat)(L:List Bool)(y:ops.size=k)(r:(Array.replicate k false).toList=L)(E:P.follows .mixedOrders=true)(hd:M7 ops=true)(hq:¬LetsOut Q)
  (h:wpAnyH P .any ops Q S k L.toArray a w.drew):(Code.region G ops true).wpIn (Fence.wide.inRound l) n P Q a w:=by
 subst y;subst r;exact wpIn_region_any E (NK hd hq _ _ _ _ (wpAny_of_held _ _ _ _ h))
theorem NN {S:World -> Prop}{r:Nat}{w:World}(i d:Nat){E:Oper}{v:Value}{L:List Bool}{J:List Value}{G:List Deferred}(Z:ops[i]?= some E)(y:E.dst=some d)(V:E.guard=none)
  (hs:Region.noSelect ops=true)(U:Region.free md ops L.toArray i=true)(hr:(Region.ready md ops L.toArray).contains i=true)
  (M:∀c (a:Act) v w,Q (.panic c) (a.put (some d) v) w -> Q (.panic c) a w)(N:S w)
  (hy:∀w,S w -> (execOp (Act.eval { tmps:=J.toArray,defers:=G }) E).run P w=.ok (.value v) w)
  (h:wpAnyH P md ops Q S r (L.set i true).toArray { tmps:=(J.set d v).toArray,defers:=G } w):wpAnyH P md ops Q S (r+1) L.toArray { tmps:=J.toArray,defers:=G } w:=by
 refine wpAnyH_take Z hs U hr (fun c a w h=>M c a v w (by rw[←y];exact h)) (Or.inl ⟨by simp[Region.wanted,V],hy⟩) N ?_
 simpa [Act.put,y]using h
theorem Km {o:Oper}{y:List Value}{r:List Deferred}{K:Act -> World -> Prop}{E:Prop}(w:World)(d:Nat)(J:o.dst=some d)(hg:o.guard=none)(s x:Operand)(t:TypeId)(V:o.op=Op.call { callee:=Callee.builtin Builtin.append,args:=#[s,x],argTypes:=#[t,t] })
  (base:Nat)(e:TypeId)(i:TypeInfo)(z:Value)(size bytes:Nat)(h1:P.underlying t=some (.slice e))(h2:P.info? e=some i)(h3:i.zero=some z)(h4:i.size=size)(h5:i.bytes=bytes)(h6:z.cells.size=size)(h7:0<size)
  (v:Value)(k:Nat)(xs:List Value)(hs:Act.eval { tmps:=y.toArray,defers:=r } s=v)(M:w.ownsRow base e size v k xs)(ad:Addr)(m c:Nat)(news:List Value)(hx:Act.eval { tmps:=y.toArray,defers:=r } x=.slice (some ad) m c)(hn:news.length=m*size)
  (hc:∀j u,news[j]?= some u -> w.cell? (ad.add j)=some u)(U:∀u∈news,u.oneCell'=true)(Z:k+m <= maxLen)(b2:(k+m)*bytes <= 140737488355328)(b3:base <= w.heap.size)
  (hK:∀G w',w'.ownsRow base e size G (k+m) (xs++news) -> w.grownBy w' v.ownBlock -> (G=.slice none 0 0↔v=.slice none 0 0 /\ m=0) -> K { tmps:=(y.set d G).toArray,defers:=r } w'):
  if Region.wanted o (yielded ops (Act.tmps { tmps:=y.toArray,defers:=r }))=true then Oper.wp P o { tmps:=y.toArray,defers:=r } w K Q else E:=by
 have hw:Region.wanted o (yielded ops (Act.tmps { tmps:=y.toArray,defers:=r }))=true:=by simp[Region.wanted,hg]
 rw[v_ hw];obtain⟨G,w',N,r1,r2,r3⟩:=run_append_own (P:=P) w base t o.type e i z size bytes h1 h2 h3 h4 h5 h6 h7 v k xs M ad m c news hn hc U Z b2 b3;unfold Oper.wp;simp[execOp,V,resolve,invoke,builtin,hs,hx,N,Result.andThen];have:=hK G w' r1 r2 r3
 simpa [Oper.upon,Act.put,J]using this
end
structure Follows (F:Fence)(n:Nat)(P:Program):Prop where
 fn:∀f,F.fn f
 op:∀(o:Oper) (a:Act) (w:World) (K:Act -> World -> Prop) (Q:Exit -> Act -> World -> Prop),(∀c,o.op≠ .defer c) -> o.wp P a w K Q -> o.wpIn F n P a w K Q
theorem Gu (l n:Nat)(P:Program):Follows (Fence.wide.inRound l) n P:=⟨fun _=>trivial,fun _ _ _ _ _ hd h=>Mv hd h⟩
theorem Gc (n:Nat)(P:Program):Follows Fence.wide n P:=by
 refine⟨fun _=>trivial,fun o a w K Q hd h=>⟨fun _ _=>trivial,?_⟩⟩;rw[show Fence.wide.round=none from rfl,Oper.semAt_none];unfold Oper.wp at h;generalize(execOp a.eval o).run P w=r at*
 cases r with
 | ok x w'=>
  cases x<;>simp only[Oper.upon,Oper.uponIn]at h ⊢ <;>first
   | exact h
   | exact⟨(fun y=>by cases y),N_.2 h⟩
   | (refine⟨(fun y=>by cases y),fun c cs _=>?_⟩
      obtain⟨v,E,G,J⟩:=h c cs;exact⟨v,E,G,(stepsIn_wide (P:=P)).2 J⟩)
 | halt x w'=>cases x<;>simp only[Oper.upon,Oper.uponIn]at h ⊢ <;>exact h
section
variable {F:Fence} {n:Nat} {P:Program} {ops:Array Oper} {md:Region.Mode} {w:World} {Q:Exit -> Act -> World -> Prop}
theorem SL (E:Follows F n P)(hd:M7 ops=true){i:Nat}{a:Act}{K:Act -> Prop}{y:Act -> World -> Prop}(h:∀a,K a -> y a w)(r:stOp P ops w i K a):wpOpIn F n P ops Q i y a w:=by
 unfold stOp at r;unfold wpOpIn
 split
 ·rename_i ho;simp only[ho]at r;exact h _ r
 · rename_i o ho
   simp only[ho]at r
   split
   ·rename_i hw;simp only[hw,if_true]at r;exact E.op o a w y Q (Sa hd ho) (Oper.wp_of_still h r)
   ·rename_i hw;simp only[hw]at r;exact⟨fun f _=>E.fn f,h _ r⟩
theorem MY (y:Follows F n P)(hd:M7 ops=true){m g:Nat}{L:Array Bool -> Act -> Prop}(E:∀r a,L r a -> wpAnyIn F n P md ops Q g r a w):
  ∀(f:Nat) (r:Array Bool) (a:Act),wpAnyL P md ops w m L f r a -> wpAnyIn F n P md ops Q (f+g) r a w
 | 0,r,a,h=>by rw[Q_];exact E _ _ h
 | f+1,r,a,h=>by
  rw[show f+1+g=(f+g)+1 by omega];exact⟨fun M=>absurd M h.1,fun i N=>SL y hd (fun G J=>MY y hd E f _ G J) (h.2 i N).2⟩
theorem N3:∀(l:List Oper) (k:Nat) (r:Array Bool) (a:Act) (w:World),(∀j,l[j]?= ops[k+j]?) ->
  Region.seqB md ops l.length k r=true -> wpListIn F n P ops Q l a w -> wpAnyIn F n P md ops Q l.length r a w
 | [],_,_,_,_,_,hB,h=>⟨by simpa [Region.seqB]using hB,h⟩
 | o::l,k,r,a,w,hl,hB,h=>by
  have M:ops[k]?= some o:=by simpa using(hl 0).symm
  simp only[B_,Region.seqB,Xn,Zx]at hB;refine⟨fun h1=>(by rw[hB.1]at h1;cases h1),fun i y=>?_⟩;rw[hB.1]at y;have E:i=k:=by simpa using y
  subst E;have N:wpOpIn F n P ops Q i (wpListIn F n P ops Q l) a w:=by unfold wpOpIn;simp only[M];exact h
  exact wpOpIn_mono (fun G w' J=>N3 l (i+1) _ G w' (fun j=>by have:=hl (j+1);simpa [Nat.add_assoc,Nat.add_comm 1 j]using this) hB.2 J) N
end
theorem L9 {F:Fence}{n:Nat}{P:Program}{id:Nat}{Q:Exit -> Act -> World -> Prop}{a:Act}{w:World}{l:List Oper}(hF:Follows F n P)(m:Nat)(hm:P.follows .mixedOrders=true)(N:Region.lexTailB .any l.toArray m=true)(hd:M7 l.toArray=true)
  (h:wpStill P l.toArray w.drew (fun E=>wpListIn F n P l.toArray Q (l.drop m) E w.drew) (l.take m) a):(Code.region id l.toArray true).wpIn F n P Q a w:=by
 simp only[Region.lexTailB,Xn,Zx]at N;obtain⟨⟨⟨⟨J,hn⟩,hs⟩,hc⟩,G⟩:=N;have a0:m<l.length:=by simpa using hn
 have r:(l.take m).length=m:=by simp;omega
 have Rx:(l.drop m).length=l.toArray.size-m:=by simp
 have M:HeadInv .any l.toArray m (Array.replicate l.toArray.size false):=
  ⟨by simp,fun j oj _ hl=>(by rw[getD_replicate_false]at hl;cases hl),fun t _ ht=>getD_in (by simpa using ht) (getD_replicate_false _ _)⟩
 have H:=wpAnyL_lex (md:=.any) (g:=l.toArray.size-m) J hs hc hn (l.take m) 0 _ a (fun j V=>by
  have Z:j<m:=by rw[r]at V;exact V
  simp[Z]) (by simpa using r) M (by rw[r];exact G) h
 refine wpIn_region_any hm ?_
 have:=MY (Q:=Q) hF hd (g:=l.toArray.size-m) (fun y E U=>by
  have:=N3 (F:=F) (n:=n) (P:=P) (md:=.any) (Q:=Q) (l.drop m) m y E w.drew (fun j=>by simp[List.getElem?_drop]) (by rw[Rx];exact U.1) U.2
  rwa [Rx]at this) _ _ _ H
 rw[r,show m+(l.toArray.size-m)=l.toArray.size by omega]at this;exact this
end
section
open Go Go.RowKit
structure Marks (B:Nat)(r:Loop)(W:World):Prop where
 dfr:W.heap[B]?= some (.deferred (some []))
 loop:W.heap[B+1]?= some (.loop r)
theorem Marks.keeps {B:Nat}{r:Loop}{W W':World}(h:Marks B r W)(k:KeepsFrom B W W'):Marks B r W':=
 ⟨k.same _ _ (g_ _) h.dfr rfl,k.same _ _ (Zh _) h.loop rfl⟩
theorem Marks.put {B:Nat}{r:Loop}{W:World}(h:Marks B r W)(y:Loop):Marks B y (W.putObj (B+1) (.loop y)):=
 ⟨(World.putObj_heap_other O).trans h.dfr,World.putObj_heap_same (Array.getElem?_eq_some_iff.1 h.loop).1⟩
theorem Marks.grown {B:Nat}{r:Loop}{W W':World}{row:Option Nat}(h:Marks B r W)(J:W.grownBy W' row)(N:∀j,row=some j -> ∃o:Obj,W.heap[j]?= some o /\ o.isWalk=true):Marks B r W':=by
 have go:∀(k:Nat) (o:Obj),W.heap[k]?= some o -> o.isWalk=false -> W'.heap[k]?= some o:=fun k o E M=>(J.block k (Array.getElem?_eq_some_iff.1 E).1 (fun e=>by
  obtain⟨o',y,G⟩:=N k e.symm;rw[E]at y
  cases y
  rw[M]at G
  cases G)).trans E
 exact⟨go _ _ h.dfr rfl,go _ _ h.loop rfl⟩
section
variable {F:Fence} {n:Nat} {P:Program}
end
section
variable {F:Fence} {n:Nat} {P:Program}
def FN {α:Type}(F:Fence)(n:Nat)(P:Program)(g:Nat)(lb:Array Value)(encs:α -> Array Value)(Kp:World -> World -> Prop)(Nx:List α -> α -> Prop)(S:List α -> Prop)(Up:World -> World -> Prop)(w:World):Prop:=
 ∀(l:Nat) (J Jx:List α -> World -> Prop) (W:World),Below w.heap.size w W -> AbidesFrom W.heap.size J -> AbidesFrom W.heap.size Jx -> (∀pre A B,J pre A -> Up A B -> J pre B) ->
  (∀pre x W1,Nx pre x -> J pre W1 -> YieldAt F (n-1) P l (encs x) W1 fun e W'=>
    (e=.returned (.bool true) /\ J (pre++[x]) W' /\ Kp W1 W')∨(e=.returned (.bool false) /\ Jx (pre++[x]) W')) ->
  J [] W ->
  CallsIn F n P g (#[.func (.yield l) #[] #[]]++lb) W fun e W'=>(∃v,e=.returned v) /\ ((∃xs,S xs /\ J xs W')∨(∃pre,Jx pre W'))
theorem Md {α:Type}{g:Operand}{ps:Array Tmp}{assign body:Code}{Q:Exit -> Act -> World -> Prop}{a:Act}{w:World}
  (aC:F.round=none)(h1:1 <= n){gf:Nat}{lb:Array Value}(hg:a.eval g=.func (.func gf) #[] lb)(aq:F.fn gf)(eg:∀args w,(callFunc gf args).run P w=.ok (.enter gf args) w)
  {a5:α -> Array Value}{Kp:World -> World -> Prop}{Nx:List α -> α -> Prop}{S:List α -> Prop}{Up:World -> World -> Prop}{w0:World}(an:FN F (n-1) P gf lb a5 Kp Nx S Up w0)(av:∀(A B:World) (r:Loop),Up A B -> Marks w.heap.size r A -> Marks w.heap.size r B)
  (a8:∀{A B C:World},Kp A B -> Kp B C -> Kp A C)(ab:∀(W:World) (l:Nat) (o o':Obj),w.heap.size <= l -> W.heap[l]?= some o -> o.isCells=false -> o.isWalk=false -> Kp W (W.putObj l o'))(ac:Below w0.heap.size w0 w)(aB:∀x,(a5 x).size=ps.size)
  (I:List α -> World -> Prop)(Ix:Code -> List α -> World -> Prop)(M:α -> Act -> List α -> World -> Prop)(hI:OwnFrom w.heap.size I)(a2:∀c,OwnFrom w.heap.size (Ix c))(hM:∀x a',OwnFrom w.heap.size (M x a'))(h0:I [] w)(ax:∀pre A B,I pre A -> Up A B -> I pre B)
  (hassign:∀(l:Nat) (pre:List α) (x:α) (W:World),Nx pre x -> I pre W ->
    assign.wpIn (F.inRound l) (n-1-1) P (Exit.then (fun a' W'=>KeepsFrom w.heap.size W W' /\ Kp W W' /\ M x a' pre W') (fun _ _ _=>False)) { tmps:=(ps.zip (a5 x)).foldl (fun t (p,v)=>t.setIfInBounds p v) a.tmps,defers:=[] } W)
  (hbody:∀(l:Nat) (pre:List α) (x:α) (a':Act) (W:World),Nx pre x -> M x a' pre W -> body.wpIn (F.inRound l) (n-1-1) P (ownPostG w.heap.size Kp I Ix (pre++[x]) W) a' W)
  (hdone:∀(D:Nat) (xs:List α) (W:World),w.heap.size <= D -> S xs -> I xs W -> W.heap[D]?= some (.deferred (some [])) -> Q .normal { a with defers:={ target:=.collected D,args:=#[] }::a.defers } W)
  (hstop:∀(D:Nat) (c:Code) (pre:List α) (W:World),w.heap.size <= D -> Ix c pre W -> W.heap[D]?= some (.deferred (some [])) -> c.wpIn F n P Q { a with defers:={ target:=.collected D,args:=#[] }::a.defers } W):
  (Code.rangeFunc g ps assign body).wpIn F n P Q a w:=by
 refine wpIn_rangeFunc fun fn ay=>?_;rw[aC]
 let rc:LoopState -> Option Code -> Loop:=fun st pe=>{ state:=st,pending:=pe,fn,tmps:=a.tmps,params:=ps,assign,body,defers:=w.heap.size }
 have ap:((w.alloc (.deferred (some []))).alloc (.loop (rc .ready none))).heap.size=w.heap.size+2:=by simp
 have ah:Marks w.heap.size (rc .ready none) ((w.alloc (.deferred (some []))).alloc (.loop (rc .ready none))):=by
  refine⟨(Below.heap_alloc _ _ _ (by simp)).trans (World.alloc_heap_new w _),?_⟩;have:=World.alloc_heap_new (w.alloc (.deferred (some []))) (.loop (rc .ready none))
  rwa [Y_]at this
 have ag:I [] ((w.alloc (.deferred (some []))).alloc (.loop (rc .ready none))):=hI.alloc _ (hI.alloc _ h0);have ae:Below w0.heap.size w0 ((w.alloc (.deferred (some []))).alloc (.loop (rc .ready none))):=ac.trans ((((T_ _ w).alloc (g_ _) _).alloc (by simp) _).mono ac.size);have a6:=run_enterLoop_outer (P:=P) (w:=w) fn a.tmps ps assign body
 change _=Result.ok _ ((w.alloc (.deferred (some []))).alloc (.loop (rc .ready none)))at a6
 generalize((w.alloc (.deferred (some []))).alloc (.loop (rc .ready none)))=W1 at ap ah ag ae a6
 refine⟨w.heap.size+1,[{ target:=.collected w.heap.size,args:=#[] }],W1,{ target:=.fn (.func gf) lb,args:=#[.func (.yield (w.heap.size+1)) #[] #[]] },W1,gf,
  #[.func (.yield (w.heap.size + 1)) #[] #[]] ++ lb, W1, a6, ?_, ?_, ?_, fun _ => h1, ?_⟩
 · simp only[resolve,hg]
   simp[go_sem]
 ·intro f' af;simp[Target.leads]at af;subst af;exact aq
 ·simp[invoke,go_sem,eg]
 have aa:∀{A:World} {row:Option Nat},(∀r,row=some r -> W1.heap.size <= r /\ ∃o:Obj,A.heap[r]?= some o /\ o.isWalk=true) -> (∀r,row=some r -> w.heap.size <= r /\ ∃o:Obj,A.heap[r]?= some o /\ o.isCells=false):=
  fun G r e=>by obtain⟨hB,o,ho,hw⟩:=G r e;exact⟨by omega,o,ho,Obj.not_cells_of_walk hw⟩
 refine(an (w.heap.size+1) (fun pre W=>I pre W /\ Marks w.heap.size (rc .ready none) W) (fun pre W=>∃c,Ix c pre W /\ Marks w.heap.size (rc .done (some c)) W) W1 ae
  (fun s A B row hs a4 G=>⟨hI s A B row hs.1 a4 (aa G),hs.2.grown a4 fun j e=>(G j e).2⟩)
  (fun s A B row ⟨c,hc,U⟩ a4 G=>⟨c,a2 c s A B row hc a4 (aa G),U.grown a4 fun j e=>(G j e).2⟩) (fun pre A B hs hu=>⟨ax pre A B hs.1 hu,av A B _ hu hs.2⟩) ?_ ⟨ag,ah⟩).mono ?_
 · rintro pre x W aj ⟨hi,U⟩
   refine⟨fn,_,assign,body,run_yield U.loop (aB x),roundIn_of_wpIn ay (wpIn_mono (hassign _ pre x W aj hi) ?_)⟩;rintro e a' Wa J
   cases e with
   | normal=>
    obtain⟨az,am,au⟩:=J;have a7:=U.keeps az;refine⟨_,run_beginRound a7.loop rfl,?_⟩;have a9:=a7.put (rc .busy none);have aA:Kp W (Wa.putObj (w.heap.size+1) (.loop (rc .busy none))):=a8 am (ab _ _ _ _ (Zh _) a7.loop rfl rfl);refine wpIn_mono (hbody _ pre x a' _ aj ((hM x a').putObj _ au (Zh _) a7.loop rfl)) ?_
    have V:∀(y:Option Code) (Z:World),KeepsFrom w.heap.size (Wa.putObj (w.heap.size+1) (.loop (rc .busy none))) Z ->
      (Instr.endRound (w.heap.size+1) y).run P Z=.ok (.bool y.isNone) (Z.putObj (w.heap.size+1) (.loop (rc (if y.isNone then .ready else .done) y))) /\
      Z.heap[w.heap.size+1]?= some (.loop (rc .busy none)) /\ Marks w.heap.size (rc (if y.isNone then .ready else .done) y) (Z.putObj (w.heap.size+1) (.loop (rc (if y.isNone then .ready else .done) y))):=fun y Z E=>
     ⟨run_endRound (P:=P) y (a9.keeps E).loop,(a9.keeps E).loop,(a9.keeps E).put _⟩
    rintro e a3 Z J
    cases e with
    | normal=>
     obtain⟨E,ak,a0⟩:=J;obtain⟨G,N,a1⟩:=V none Z E;exact⟨_,_,G,.inl ⟨rfl,⟨hI.putObj _ a0 (Zh _) N rfl,a1⟩,a8 (a8 aA ak) (ab _ _ _ _ (Zh _) N rfl rfl)⟩⟩
    | ret=>
     obtain⟨E,a0⟩:=J;obtain⟨G,N,a1⟩:=V (some .ret) Z E;exact⟨_,_,G,.inr ⟨rfl,.ret,(a2 _).putObj _ a0 (Zh _) N rfl,a1⟩⟩
    | exit id=>
     obtain⟨E,a0⟩:=J;obtain⟨G,N,a1⟩:=V (some (.exit id)) Z E;exact⟨_,_,G,.inr ⟨rfl,.exit id,(a2 _).putObj _ a0 (Zh _) N rfl,a1⟩⟩
    | goto t=>
     obtain⟨E,a0⟩:=J;obtain⟨G,N,a1⟩:=V (some (.goto t)) Z E;exact⟨_,_,G,.inr ⟨rfl,.goto t,(a2 _).putObj _ a0 (Zh _) N rfl,a1⟩⟩
    | panic ch=>exact J.elim
    | outgrown=>exact J.elim
   | ret=>exact J.elim
   | exit id=>exact J.elim
   | goto t=>exact J.elim
   | panic ch=>exact J.elim
   | outgrown=>exact J.elim
 · rintro e W2 ⟨⟨v,rfl⟩,(⟨xs,hS,hi,U⟩|⟨pre,c,hi,U⟩)⟩
   ·exact⟨none,_,run_endLoop (P:=P) U.loop (by simp[rc]),hdone _ xs _ (g_ _) hS (hI.putObj _ hi (Zh _) U.loop rfl) ((World.putObj_heap_other O).trans U.dfr)⟩
   ·exact⟨some c,_,run_endLoop (P:=P) U.loop (by simp[rc]),hstop _ c pre _ (g_ _) ((a2 c).putObj _ hi (Zh _) U.loop rfl) ((World.putObj_heap_other O).trans U.dfr)⟩
end
end
section
structure Ty where
 kind:Nat
 words:Int
 mask:Nat
def low (k:Nat):Int:=if k=3 then 1 else 0
def high (k:Nat):Int:=if k=1 then 64 else if k=3 then 16 else 0
def Ty.may (t:Ty):Prop:=1 <= t.kind /\ t.kind <= 4 /\ low t.kind <= t.words /\ t.words <= high t.kind /\ t.mask<2^t.words.toNat
instance (t:Ty):Decidable t.may:=by unfold Ty.may;infer_instance
theorem AF {m n:Nat}(G:m<2^64):m<2^n↔∀i,n <= i -> i<64 -> m/2^i%2=0:=by
 constructor
 · intro h i h1 _
   rw[Nat.div_eq_of_lt (Zt h (Yf O h1))]
 · intro h
   apply Classical.byContradiction
   intro J;have h1:2^n <= m:=O;obtain⟨i,E,r⟩:=Nat.exists_ge_and_testBit_of_ge_two_pow h1
   have y:i<64:=by
    apply Classical.byContradiction
    intro M;have:=Nat.testBit_lt_two_pow (Zt G (Yf O (show 64 <= i by omega)));rw[this]at r
    cases r
   have:=h i E y;rw[Jb,this]at r;simp at r
theorem KL {m n:Nat}:m/2^n=0↔m<2^n:=by
 rw[Nat.div_eq_zero_iff];have:=Nat.two_pow_pos n;omega
def Ty.slots (t:Ty)(n:Nat):Nat:=if t.kind=1 then t.words.toNat else if t.kind=3 then n*t.words.toNat else n
def Ty.err (t:Ty)(n:Int):Int:=if ¬t.may∨n<0∨t.kind=1 /\ n≠0 then 2 else if 4096<n then 5 else 0
def Ty.size (t:Ty)(n:Nat):Nat:=(t.slots n+2)/2
theorem XS (k g:Nat)(h1:¬g*2<k+1)(h2:∀j,j<g -> j*2<k+1):g=(k+2)/2:=by
 by_cases h:g=0
 ·omega
 · have:=h2 (g-1) O
   omega
theorem GJ {t:Ty}(G:t.may){n:Nat}(E:n <= 4096):t.slots n <= 65536:=by
 obtain⟨-,-,h1,h2,-⟩:=G;unfold Ty.slots;unfold high at h2
 by_cases y:t.kind=1
 · rw[v_ y]at h2 ⊢
   omega
 · rw[y_ y]at h2 ⊢
   by_cases r:t.kind=3
   · rw[v_ r]at h2 ⊢
     have:n*t.words.toNat <= 4096*16:=Nat.mul_le_mul E O;omega
   · rw[y_ r]
     omega
def Ty.ref (t:Ty)(s:Nat):Bool:=if t.kind=2 then true else if t.kind=3 then t.mask.testBit (s%t.words.toNat)else if t.kind=1 then t.mask.testBit s else false
def Ty.refs (t:Ty)(n:Nat):List Nat:=(List.range (t.slots n)).filter t.ref
structure Hd where
 tag:Nat
 typ:Nat
 len:Nat
 size:Nat
def Hd.may (h:Hd):Prop:=1 <= h.size /\ h.size<16777216 /\ h.len<16777216 /\ (h.tag=1 /\ 1 <= h.typ /\ h.typ <= 4095∨(h.tag=2∨h.tag=3) /\ h.typ=0 /\ h.len=0)
instance (h:Hd):Decidable h.may:=by unfold Hd.may;infer_instance
def Hd.word (h:Hd):Nat:=h.tag+4*h.typ+65536*h.len+1099511627776*h.size
def MR (w:Nat):Hd:=⟨w%4,w/4%4096,w/65536%16777216,w/1099511627776⟩
def Sd (w:Nat):Nat:=w/16384%4
theorem RJ (w:Nat):(MR w).word=w↔Sd w=0:=by
 unfold MR Hd.word Sd;simp only;omega
theorem AL (h:Hd)(h1:h.tag<4)(h2:h.typ<4096)(r:h.len<16777216):MR h.word=h /\ Sd h.word=0:=by
 obtain⟨a,b,c,d⟩:=h;unfold MR Hd.word Sd;simp only at h1 h2 r ⊢;refine⟨?_,by omega⟩
 congr 1<;>omega
def Jv (w:Nat):Option Hd:=if (MR w).may /\ Sd w=0 then some (MR w)else none
theorem Sh {h:Hd}(r:h.may):Jv h.word=some h:=by
 have y:h.tag<4 /\ h.typ<4096:=by
  obtain⟨-,-,-,h|h⟩:=r<;>omega
 obtain⟨h1,h2⟩:=AL h y.1 y.2 r.2.2.1;unfold Jv;rw[h1,v_ ⟨r,h2⟩]
theorem WY {w:Nat}{h:Hd}(hd:Jv w=some h):h.may /\ h.word=w:=by
 unfold Jv at hd
 split at hd
 · rename_i hc
   cases hd
   exact⟨hc.1,(RJ w).2 hc.2⟩
 ·cases hd
theorem VN {h:Hd}(r:h.may):h.word<18446744073709551616:=by
 have y:h.tag<4 /\ h.typ<4096:=by
  obtain⟨-,-,-,h|h⟩:=r<;>omega
 have:=r.2.1;have:=r.2.2.1;unfold Hd.word;omega
def Kc (l:List Ty)(id:Int):Option Ty:=if 1 <= id then l[(id-1).toNat]? else none
def Ud (l:List Ty)(h:Hd):Prop:=h.may /\ (h.tag=1 -> ∃t,l[h.typ-1]?= some t /\ t.err h.len=0 /\ t.size h.len=h.size)
abbrev Ce:=Nat×Hd
end
section
def JH (L:List Ty)(W:List Nat)(g:Nat)(h:Hd):Prop:=(∃v,W[2*g]?= some v /\ Jv v=some h) /\ Ud L h /\ g+h.size <= W.length/2
def Chain (L:List Ty)(W:List Nat):Nat -> List Ce -> Nat -> Prop
 | g,[],e=>g=e
 | g,c::cs,e=>c.1=g /\ JH L W g c.2 /\ Chain L W (g+c.2.size) cs e
theorem JH.pos {L:List Ty}{W:List Nat}{g:Nat}{h:Hd}(r:JH L W g h):1 <= h.size:=r.2.1.1.1
theorem Chain.le {L:List Ty}{W:List Nat}:∀{cs:List Ce} {g e:Nat},Chain L W g cs e -> g <= e
 | [],_,_,h=>Nat.le_of_eq h
 | _::_,_,_,h=>by have:=Chain.le h.2.2;omega
theorem Chain.append {L:List Ty}{W:List Nat}:∀{a b:List Ce} {g e:Nat},Chain L W g (a++b) e↔∃m,Chain L W g a m /\ Chain L W m b e
 | [],b,g,e=>⟨fun h=>⟨g,rfl,h⟩,fun⟨m,h1,h2⟩=>by cases h1;exact h2⟩
 | c::a,b,g,e=>by
  constructor
  · rintro⟨h1,h2,E⟩
    obtain⟨m,r,y⟩:=Chain.append.1 E;exact⟨m,⟨h1,h2,r⟩,y⟩
  · rintro⟨m,⟨h1,h2,r⟩,y⟩
    exact⟨h1,h2,Chain.append.2 ⟨m,r,y⟩⟩
theorem Chain.mem {L:List Ty}{W:List Nat}:∀{cs:List Ce} {g e:Nat},Chain L W g cs e -> ∀c∈cs,g <= c.1 /\ c.1+c.2.size <= e /\ JH L W c.1 c.2
 | d::cs,g,e,h,c,r=>by
  rcases t_.1 r with rfl|r
  · have:=h.2.2.le
    rw[h.1];exact⟨g_ _,this,h.2.1⟩
  · have:=Chain.mem h.2.2 c r
    exact⟨by omega,this.2⟩
theorem Chain.len {L:List Ty}{W:List Nat}:∀{cs:List Ce} {g e:Nat},Chain L W g cs e -> cs.length+g <= e
 | [],_,_,h=>by cases h;simp
 | c::cs,g,e,h=>by
  have:=Chain.len h.2.2;have:=h.2.1.pos;simp only[B_];omega
theorem Chain.congr {L:List Ty}{W W':List Nat}(r:W'.length=W.length):∀{cs:List Ce} {g e:Nat},Chain L W g cs e -> (∀c∈cs,W'[2*c.1]?= W[2*c.1]?) -> Chain L W' g cs e
 | [],_,_,h,_=>h
 | c::cs,g,e,h,hw=>by
  refine⟨h.1,?_,Chain.congr r h.2.2 fun c J=>hw c (V_ _ J)⟩;obtain⟨h1,⟨⟨v,h2,y⟩,E,G⟩,-⟩:=h;have:=hw c (d_ ..);rw[h1]at this;exact⟨⟨v,this.trans h2,y⟩,E,by rw[r];exact G⟩
theorem Chain.find {L:List Ty}{W:List Nat}:∀{cs:List Ce} {g e:Nat},Chain L W g cs e -> ∀x,g <= x -> x<e -> ∃a c b,cs=a++c::b /\ c.1 <= x /\ x<c.1+c.2.size /\ Chain L W g a c.1 /\ Chain L W (c.1+c.2.size) b e
 | [],_,_,h,x,h1,h2=>by cases h;omega
 | c::cs,g,e,h,x,h1,h2=>by
  by_cases J:x<g+c.2.size
  ·refine⟨[],c,cs,rfl,by rw[h.1];exact h1,by rw[h.1];exact J,h.1.symm,by rw[h.1];exact h.2.2⟩
  · obtain⟨a,d,b,rfl,r,y,E,G⟩:=Chain.find h.2.2 x O h2
    exact⟨c::a,d,b,rfl,r,y,⟨h.1,h.2.1,E⟩,G⟩
theorem Chain.split {L:List Ty}{W:List Nat}{a b:List Ce}{c:Ce}{g e:Nat}(h:Chain L W g (a++c::b) e):Chain L W g a c.1 /\ JH L W c.1 c.2 /\ Chain L W (c.1+c.2.size) b e:=by
 obtain⟨m,h1,h2,r,y⟩:=Chain.append.1 h;subst h2;exact⟨h1,r,y⟩
theorem Chain.join {L:List Ty}{W:List Nat}{a b:List Ce}{c:Ce}{g e:Nat}(h1:Chain L W g a c.1)(h2:JH L W c.1 c.2)(r:Chain L W (c.1+c.2.size) b e):Chain L W g (a++c::b) e:=
 Chain.append.2 ⟨c.1,h1,rfl,h2,r⟩
def Kd (n:Nat):Hd:=⟨if n=1 then 2 else 3,0,0,n⟩
theorem ML {n:Nat}(h1:1 <= n)(h2:n<16777216):(Kd n).may:=by
 refine⟨h1,h2,(by decide:(0:Nat)<16777216),.inr ⟨?_,rfl,rfl⟩⟩
 show(if n=1 then 2 else 3)=2∨(if n=1 then 2 else 3)=3
 split<;>simp
theorem ND (n:Nat):(Kd n).tag≠1:=by
 unfold Kd;simp only
 split<;>omega
theorem YH (L:List Ty){n:Nat}(h1:1 <= n)(h2:n<16777216):Ud L (Kd n):=⟨ML h1 h2,fun h=>absurd h (ND n)⟩
def lay (W:List Nat)(g n:Nat):List Nat:=if n=0 then W else W.set (2*g) (Kd n).word
def N1 (g n:Nat):List Ce:=if n=0 then []else [(g,Kd n)]
theorem Gz (W:List Nat)(g n:Nat):(lay W g n).length=W.length:=by unfold lay;split<;>simp
theorem LK {W:List Nat}{g n j:Nat}(h:n=0∨j≠2*g):(lay W g n)[j]?= W[j]? :=by
 unfold lay
 split
 ·rfl
 ·rw[Je O]
theorem Tr (L:List Ty){W:List Nat}{g n:Nat}(h1:1 <= n)(h2:g+n <= W.length/2)(y:W.length<16777216):JH L (lay W g n) g (Kd n):=by
 have r:n<16777216:=O;refine⟨⟨(Kd n).word,?_,Sh (ML h1 r)⟩,YH L h1 r,by rw[Gz];exact h2⟩;unfold lay;rw[y_ O,Xu O]
theorem MG (L:List Ty){W:List Nat}{g n:Nat}(h2:g+n <= W.length/2)(r:W.length<16777216):Chain L (lay W g n) g (N1 g n) (g+n):=by
 unfold N1
 by_cases h:n=0
 · rw[v_ h]
   show g=g+n
   omega
 · rw[y_ h]
   exact⟨rfl,Tr L O h2 r,rfl⟩
theorem NC {W:List Nat}(r:∀v∈W,v<18446744073709551616){g n:Nat}(y:n<16777216):∀v∈lay W g n,v<18446744073709551616:=by
 unfold lay
 split
 ·exact r
 · intro v E
   rcases Zz E with h|h
   ·exact r v h
   · rw[h]
     exact VN (ML O y)
def L5 (W:List Nat)(i:Nat):Nat -> List Nat
 | 0=>W
 | k+1=>(L5 W i k).set (i+k) 0
theorem Lq (W:List Nat)(i:Nat):∀k,(L5 W i k).length=W.length
 | 0=>rfl
 | k+1=>by rw[L5,Qn,Lq W i k]
theorem VL (W:List Nat)(i:Nat):∀k j,(j<i∨i+k <= j) -> (L5 W i k)[j]?= W[j]?
 | 0,_,_=>rfl
 | k+1,j,h=>by rw[L5,Je O,VL W i k j O]
theorem Um {W:List Nat}(r:∀v∈W,v<18446744073709551616)(i:Nat):∀k,∀v∈L5 W i k,v<18446744073709551616
 | 0=>r
 | k+1=>by
  intro v y;rcases Zz y with h|h
  ·exact Um r i k v h
  ·omega
def mk (W:List Nat)(g:Nat)(h:Hd):List Nat:=(L5 W (2*g) (2*h.size)).set (2*g) h.word
theorem Kh (W:List Nat)(g:Nat)(h:Hd):(mk W g h).length=W.length:=by unfold mk;rw[Qn,Lq]
theorem gz {W:List Nat}{g j:Nat}{h:Hd}(h1:1 <= h.size)(r:j<2*g∨2*(g+h.size) <= j):(mk W g h)[j]?= W[j]? :=by
 unfold mk;rw[Je O,VL _ _ _ _ O]
theorem AD {L:List Ty}{W:List Nat}{g:Nat}{h:Hd}(r:Ud L h)(h2:g+h.size <= W.length/2):JH L (mk W g h) g h:=by
 have h1:=r.1.1;refine⟨⟨h.word,?_,Sh r.1⟩,r,by rw[Kh];exact h2⟩;unfold mk;rw[Xu (by rw[Lq];omega)]
theorem Px {W:List Nat}(r:∀v∈W,v<18446744073709551616){g:Nat}{h:Hd}(y:h.may):∀v∈mk W g h,v<18446744073709551616:=by
 intro v E;rcases Zz E with h|h
 ·exact Um r _ _ v h
 · rw[h]
   exact VN y
def Mm (W:List Nat)(c:Ce)(g:Nat)(h:Hd):List Nat:=lay (lay (mk W g h) c.1 (g-c.1)) (g+h.size) (c.1+c.2.size-g-h.size)
def Wt (c:Ce)(g:Nat)(h:Hd):List Ce:=N1 c.1 (g-c.1)++(g,h)::N1 (g+h.size) (c.1+c.2.size-g-h.size)
theorem KK (W:List Nat)(c:Ce)(g:Nat)(h:Hd):(Mm W c g h).length=W.length:=by unfold Mm;rw[Gz,Gz,Kh]
theorem ZL {W:List Nat}{c:Ce}{g j:Nat}{h:Hd}(h1:1 <= h.size)(r:c.1 <= g)(E:g+h.size <= c.1+c.2.size)(y:j<2*c.1∨2*(c.1+c.2.size) <= j):(Mm W c g h)[j]?= W[j]? :=by
 unfold Mm;rw[LK O,LK O,gz h1 O]
theorem As {L:List Ty}{W:List Nat}{a b:List Ce}{c:Ce}{g e:Nat}{h:Hd}(hC:Chain L W 0 (a++c::b) e)(he:e <= W.length/2)(J:W.length<16777216)(N:Ud L h)(M:c.1 <= g)(hr:g+h.size <= c.1+c.2.size):
  Chain L (Mm W c g h) 0 (a++Wt c g h++b) e:=by
 obtain⟨h1,h2,y⟩:=hC.split;have Z:=N.1.1;have a0:=y.le
 have ha:Chain L (Mm W c g h) 0 a c.1:=h1.congr (KK ..) fun d hd=>by
  have r:=h1.mem d hd;have:=r.2.2.pos;exact ZL Z M hr O
 have hb:Chain L (Mm W c g h) (c.1+c.2.size) b e:=y.congr (KK ..) fun d hd=>by
  have r:=y.mem d hd;exact ZL Z M hr O
 have U:Chain L (Mm W c g h) c.1 (N1 c.1 (g-c.1)) g:=by
  have r:=MG L (W:=mk W g h) (g:=c.1) (n:=g-c.1) (by rw[Kh];omega) (by rw[Kh];exact J);rw[show c.1+(g-c.1)=g by omega]at r;refine r.congr (by rw[KK,Gz,Kh]) fun d hd=>?_;have E:=r.mem d hd;have:=E.2.2.pos;unfold Mm;rw[LK O]
 have V:Chain L (Mm W c g h) (g+h.size) (N1 (g+h.size) (c.1+c.2.size-g-h.size)) (c.1+c.2.size):=by
  have r:=MG L (W:=lay (mk W g h) c.1 (g-c.1)) (g:=g+h.size) (n:=c.1+c.2.size-g-h.size) (by rw[Gz,Kh];omega) (by rw[Gz,Kh];exact J);rw[show g+h.size+(c.1+c.2.size-g-h.size)=c.1+c.2.size by omega]at r;exact r
 have ho:JH L (Mm W c g h) g h:=by
  obtain⟨⟨v,r,E⟩,h6,G⟩:=AD (L:=L) (W:=W) (g:=g) N O;refine⟨⟨v,?_,E⟩,h6,by rw[KK];rw[Kh]at G;exact G⟩;unfold Mm;rw[LK O,LK O,r]
 exact Chain.append.2 ⟨_,Chain.append.2 ⟨_,ha,Chain.join U ho V⟩,hb⟩
theorem YQ {L:List Ty}{W:List Nat}{a b:List Ce}{r y e:Nat}{E:List Ce}(M:Chain L W 0 a r)(N:Chain L W r E y)(U:E≠[])(G:Chain L W y b e)(he:e <= W.length/2)(V:W.length<16777216):
  Chain L (lay W r (y-r)) 0 (a++(r,Kd (y-r))::b) e:=by
 have Z:r<y:=by
  cases E with
  | nil=>exact absurd rfl U
  | cons c E=>
   have:=N.2.1.pos;have:=N.2.2.le;omega
 have h2:=G.le;refine Chain.join (c:=(r,Kd (y-r))) ?_ (Tr L O O V) ?_
 · refine M.congr (Gz ..) fun d hd=>?_
   have J:=M.mem d hd;have:=J.2.2.pos;exact LK O
 · show Chain L _ (r+(y-r)) b e
   rw[show r+(y-r)=y by omega];refine G.congr (Gz ..) fun d hd=>?_;have J:=G.mem d hd;exact LK O
theorem XR {L:List Ty}{W:List Nat}{cs:List Ce}{c:Ce}{e:Nat}(y:Chain L W 0 cs e)(J:c∈cs){j v:Nat}(h1:2*c.1<j)(h2:j<2*(c.1+c.2.size)):Chain L (W.set j v) 0 cs e:=by
 refine y.congr (by simp) fun d hd=>?_;rw[Je];intro N;obtain⟨a,b,rfl⟩:=List.append_of_mem J;obtain⟨E,M,G⟩:=y.split;rcases s_.1 hd with h|h
 · have r:=E.mem d h
   have:=r.2.2.pos;omega
 · rcases t_.1 h with rfl|h
   ·omega
   · have r:=G.mem d h
     omega
end
section
def JR (L:List Ty)(W:List Nat):Nat -> List Ce -> Prop
 | _,[]=>True
 | e,c::cs=>e <= c.1 /\ JH L W c.1 c.2 /\ c.2.tag=1 /\ JR L W (c.1+c.2.size) cs
def GL (n:Nat):List Nat -> List Ce -> Nat -> List Nat
 | W,[],e=>lay W e (n-e)
 | W,c::cs,e=>GL n (lay W e (c.1-e)) cs (c.1+c.2.size)
def Ly (n:Nat):List Ce -> Nat -> List Ce
 | [],e=>N1 e (n-e)
 | c::cs,e=>N1 e (c.1-e)++c::Ly n cs (c.1+c.2.size)
theorem JC (n:Nat):∀(cs:List Ce) (W:List Nat) (e:Nat),(GL n W cs e).length=W.length
 | [],W,e=>Gz ..
 | c::cs,W,e=>by rw[GL,JC n cs,Gz]
theorem SX {L:List Ty}(n:Nat):∀(cs:List Ce) (W:List Nat) (e j:Nat),JR L W e cs -> j<2*e -> (GL n W cs e)[j]?= W[j]?
 | [],W,e,j,_,hj=>LK O
 | c::cs,W,e,j,h,hj=>by
  have N:∀(cs:List Ce) (E:Nat),e<E∨c.1-e=0 -> JR L W E cs -> JR L (lay W e (c.1-e)) E cs:=by
   intro cs
   induction cs with
   | nil=>intro _ _ _;trivial
   | cons d cs ih=>
    intro E U hd;obtain⟨h1,⟨⟨v,h2,y⟩,r,G⟩,J,M⟩:=hd;refine⟨h1,⟨⟨v,?_,y⟩,r,by rw[Gz];exact G⟩,J,ih _ (by have:=r.1.1;omega) M⟩;rw[LK O,h2]
  have V:=h.2.1.pos;rw[GL,SX n cs _ _ j (N _ _ (by have:=h.1;omega) h.2.2.2) (by have:=h.1;omega),LK O]
theorem JR.lay {L:List Ty}{W:List Nat}{x k:Nat}:∀{cs:List Ce} {e:Nat},(x<e∨k=0) -> JR L W e cs -> JR L (lay W x k) e cs
 | [],_,_,_=>trivial
 | d::cs,E,hE,hd=>by
  obtain⟨h1,⟨⟨v,h2,y⟩,r,G⟩,J,M⟩:=hd;refine⟨h1,⟨⟨v,?_,y⟩,r,by rw[Gz];exact G⟩,J,JR.lay (by have:=r.1.1;omega) M⟩;rw[LK O,h2]
theorem Rm {L:List Ty}{n:Nat}:∀(cs:List Ce) (W:List Nat) (e:Nat),n=W.length/2 -> W.length<16777216 -> e <= n -> JR L W e cs -> Chain L (GL n W cs e) e (Ly n cs e) n
 | [],W,e,hn,hW,he,_=>by
  have:=MG L (W:=W) (g:=e) (n:=n-e) O hW;rw[show e+(n-e)=n by omega]at this;exact this
 | c::cs,W,e,hn,hW,he,h=>by
  obtain⟨h1,G,h3,U⟩:=h;have hp:=G.pos;have N:=G.2.2;have M:JR L (lay W e (c.1-e)) (c.1+c.2.size) cs:=U.lay O;have J:=Rm (n:=n) cs (lay W e (c.1-e)) (c.1+c.2.size) (by rw[Gz];exact hn) (by rw[Gz];exact hW) O M;have y:∀j,j<2*(c.1+c.2.size) -> (GL n (lay W e (c.1-e)) cs (c.1+c.2.size))[j]?= (lay W e (c.1-e))[j]? :=fun j hj=>SX n cs _ _ j M hj;rw[GL,Ly];refine Chain.join ?_ ?_ J
  · have r:=MG L (W:=W) (g:=e) (n:=c.1-e) O hW
    rw[show e+(c.1-e)=c.1 by omega]at r;refine r.congr (JC ..) fun d hd=>?_;have E:=r.mem d hd;have:=E.2.2.pos;exact y _ O
  · obtain⟨⟨v,r,E⟩,V,Z⟩:=G
    refine⟨⟨v,?_,E⟩,V,by rw[JC,Gz];exact Z⟩;rw[y _ O,LK O,r]
theorem SV {L:List Ty}{n:Nat}(r:n<16777216):∀(cs:List Ce) (W:List Nat) (e:Nat),(∀c∈cs,c.1 <= n) -> (∀v∈W,v<18446744073709551616) -> ∀v∈GL n W cs e,v<18446744073709551616
 | [],W,e,_,hW=>NC hW O
 | c::cs,W,e,hc,hW=>SV (L:=L) r cs _ _ (fun d hd=>hc d (V_ _ hd)) (NC hW (by have:=hc c (d_ ..);omega))
def Rv (c:Ce):Bool:=c.2.tag == 1
def objs (cs:List Ce):List Ce:=cs.filter Rv
@[simp] theorem J2 {c : Ce} : Rv c = true ↔ c.2.tag = 1 := by simp [Rv]
theorem GM (a b:List Ce):objs (a++b)=objs a++objs b:=Xv ..
theorem Nu (g n:Nat):objs (N1 g n)=[]:=by
 unfold N1
 split
 ·rfl
 · have:=ND n
   unfold objs Rv;rw[Xj (by simpa using this)]
   rfl
theorem Rr (n:Nat):∀(cs:List Ce) (e:Nat),(∀c∈cs,c.2.tag=1) -> objs (Ly n cs e)=cs
 | [],e,_=>Nu ..
 | c::cs,e,h=>by
  rw[Ly,GM,Nu,L_];unfold objs;rw[Xh (by rw[J2];exact h c (d_ ..))];exact Qu _ (Rr n cs _ fun d hd=>h d (V_ _ hd))
theorem CB {a b:List Ce}{c:Ce}{g:Nat}{h:Hd}(r:h.tag=1):objs (a++Wt c g h++b)=objs a++(g,h)::objs b:=by
 unfold Wt;rw[GM,GM,GM,Nu,L_]
 have:objs ((g,h)::N1 (g+h.size) (c.1+c.2.size-g-h.size))=[(g,h)]:=by
  unfold objs;rw[Xh (by rw[J2];exact r)];exact Qu _ (Nu ..)
 rw[this,Qq]
 rfl
structure Good (L:List Ty)(W:List Nat)(cs:List Ce):Prop where
 types:∀t∈L,t.may
 few:L.length <= 64
 small:W.length <= 600
 least:16 <= W.length
 even:W.length%2=0
 u64:∀v∈W,v<18446744073709551616
 chain:Chain L W 0 cs (W.length/2)
theorem Good.new {L:List Ty}{n:Nat}(h1:∀t∈L,t.may)(h2:L.length <= 64)(y:n <= 600)(E:16 <= n)(G:n%2=0):Good L (lay (List.replicate n 0) 0 (n/2)) [(0,Kd (n/2))]:=by
 have r:(lay (List.replicate n 0) 0 (n/2)).length=n:=by rw[Gz,W_]
 refine⟨h1,h2,by rw[r];exact y,by rw[r];exact E,by rw[r];exact G,NC (fun v J=>by rw[Zp J];omega) O,?_⟩;have:=MG L (W:=List.replicate n 0) (g:=0) (n:=n/2) (by rw[W_];omega) (by rw[W_];omega);unfold N1 at this;rw[y_ O,Q_]at this;rw[r];exact this
theorem Good.put {L:List Ty}{W:List Nat}{a b:List Ce}{c:Ce}(h:Good L W (a++c::b)){g:Nat}{hd:Hd}(r:Ud L hd)(y:c.1 <= g)(E:g+hd.size <= c.1+c.2.size):Good L (Mm W c g hd) (a++Wt c g hd++b):=by
 have G:=h.small;have J:=(h.chain.split).2.2.le;refine⟨h.types,h.few,by rw[KK];exact G,by rw[KK];exact h.least,by rw[KK];exact h.even,?_,?_⟩
 ·exact NC (NC (Px h.u64 r.1) O) O
 · rw[KK]
   exact As h.chain (g_ _) O r y E
theorem Good.drop {L:List Ty}{W:List Nat}{a M b:List Ce}(h:Good L W (a++(M++b)))(V:M≠[]){r y:Nat}(G:Chain L W 0 a r /\ Chain L W r M y):Good L (lay W r (y-r)) (a++(r,Kd (y-r))::b):=by
 have hs:=h.small;obtain⟨m,h1,h2⟩:=Chain.append.1 h.chain;obtain⟨m',h3,N⟩:=Chain.append.1 h2
 have U:r=m /\ y=m':=by
  have Z:∀{cs:List Ce} {g e E:Nat},Chain L W g cs e -> Chain L W g cs E -> e=E:=by
   intro cs
   induction cs with
   | nil=>intro g e E h J;exact h.symm.trans J
   | cons c cs ih=>intro g e E h J;exact ih h.2.2 J.2.2
  have e1:=Z G.1 h1;subst e1;exact⟨rfl,Z G.2 h3⟩
 obtain⟨rfl,rfl⟩:=U;have:=N.le;refine⟨h.types,h.few,by rw[Gz];exact hs,by rw[Gz];exact h.least,by rw[Gz];exact h.even,NC h.u64 O,?_⟩;rw[Gz];exact YQ G.1 G.2 V N (g_ _) O
theorem Good.slot {L:List Ty}{W:List Nat}{cs:List Ce}(h:Good L W cs){c:Ce}(E:c∈cs){j v:Nat}(h1:2*c.1<j)(h2:j<2*(c.1+c.2.size))(G:v<18446744073709551616):Good L (W.set j v) cs:=by
 have r:(W.set j v).length=W.length:=by simp
 refine⟨h.types,h.few,by rw[r];exact h.small,by rw[r];exact h.least,by rw[r];exact h.even,fun x J=>?_,?_⟩
 · rcases Zz J with y|y
   ·exact h.u64 x y
   ·rw[y];exact G
 · rw[r]
   exact XR h.chain E h1 h2
theorem Good.settle {L:List Ty}{W:List Nat}{cs:List Ce}(h:Good L W cs){os:List Ce}(y:JR L W 0 os):Good L (GL (W.length/2) W os 0) (Ly (W.length/2) os 0):=by
 have G:=h.small
 have E:∀(os:List Ce) (e:Nat),JR L W e os -> ∀c∈os,c.1 <= W.length/2:=by
  intro os
  induction os with
  | nil=>intro e _ c r;cases r
  | cons d os ih=>
   intro e y c r;rcases t_.1 r with rfl|r
   · have:=y.2.1.2.2
     omega
   ·exact ih _ y.2.2.2 c r
 refine⟨h.types,h.few,by rw[JC];exact G,by rw[JC];exact h.least,by rw[JC];exact h.even,SV (L:=L) O os W 0 (E os 0 y) h.u64,?_⟩;rw[JC];exact Rm os W 0 rfl O (u_ _) y
end
section
def ST (f:Ce -> Nat)(l:List Ce):Nat:=(l.map f).sum
@[simp] theorem QD (f : Ce -> Nat) : ST f [] = 0 := rfl
@[simp] theorem P9 (f : Ce -> Nat) (c : Ce) (l : List Ce) : ST f (c :: l) = f c + ST f l := rfl
@[simp] theorem Ee (f : Ce -> Nat) (a b : List Ce) : ST f (a ++ b) = ST f a + ST f b := by simp [ST]
structure Kp where
 objects:Nat
 granules:Nat
 slots:Nat
 refs:Nat
 nils:Nat
def kf (cs:List Ce):List Ce:=cs.filter fun c=> !Rv c
end
section
theorem Kn {cs:List Ce}{c:Ce}(h:c∈objs cs):c∈cs /\ c.2.tag=1:=by
 unfold objs at h;exact⟨(Ym.1 h).1,J2.1 (Ym.1 h).2⟩
theorem ZS:∀(a:List Ce),∃y r,a=y++r /\ (∀c∈r,c.2.tag≠1) /\ (y=[]∨∃G d,y=G++[d] /\ d.2.tag=1)
 | []=>⟨[],[],rfl,(fun _ h=>by cases h),.inl rfl⟩
 | c::a=>by
  obtain⟨y,r,h1,h2,E⟩:=ZS a;rcases E with E|⟨G,d,E,M⟩
  · subst E
    by_cases J:c.2.tag=1
    ·exact⟨[c],r,by rw[h1];rfl,h2,.inr ⟨[],c,rfl,J⟩⟩
    · refine⟨[],c::r,by rw[h1];rfl,fun d hd=>?_,.inl rfl⟩
      rcases t_.1 hd with rfl|hd
      ·exact J
      ·exact h2 d hd
  ·exact⟨c::y,r,by rw[h1];rfl,h2,.inr ⟨c::G,d,by rw[E];rfl,M⟩⟩
theorem WM:∀(b:List Ce),∃y r,b=y++r /\ (∀c∈y,c.2.tag≠1) /\ (r=[]∨∃d G,r=d::G /\ d.2.tag=1)
 | []=>⟨[],[],rfl,(fun _ h=>by cases h),.inl rfl⟩
 | c::b=>by
  by_cases E:c.2.tag=1
  ·exact⟨[],c::b,rfl,(fun _ h=>by cases h),.inr ⟨c,b,rfl,E⟩⟩
  · obtain⟨y,r,h1,h2,J⟩:=WM b
    refine⟨c::y,r,by rw[h1];rfl,fun d hd=>?_,J⟩;rcases t_.1 hd with rfl|hd
    ·exact E
    ·exact h2 d hd
theorem UB {l:List Ce}(h:∀c∈l,c.2.tag≠1):objs l=[]:=by
 unfold objs;rw[List.filter_eq_nil_iff];intro c r;rw[J2];exact h c r
end
section
open Go
def Gv (B:List Nat)(i:Nat):Bool:=(B.getD (i/64) 0).testBit (i%64)
def u64ok (B:List Nat):Prop:=∀v∈B,v<18446744073709551616
def J4 (k b:Nat):Nat:=(2^k-1)*2^b
theorem Ux (k b j:Nat):(J4 k b).testBit j=(decide (b <= j) && decide (j<b+k)):=by
 unfold J4;rw[Nat.testBit_mul_two_pow,Nat.testBit_two_pow_sub_one]
 by_cases h:b <= j
 ·simp[h];omega
 ·simp[h]
theorem Rq {k b:Nat}(h:k+b <= 64):J4 k b<18446744073709551616:=by
 unfold J4;have h1:(2:Nat)^k*2^b <= 2^64:=by rw[←Nat.pow_add];exact Yf O h
 have h2:0<(2:Nat)^k:=Nat.two_pow_pos k;have r:0<(2:Nat)^b:=Nat.two_pow_pos b
 have y:(2^k-1)*2^b+2^b=2^k*2^b:=by
  rw[←Nat.succ_mul]
  congr 1
  omega
 have E:(2:Nat)^64=18446744073709551616:=by decide
 omega
def clr (a m:Nat):Nat:=(BitVec.ofNat 64 a &&& ~~~ BitVec.ofNat 64 m).toNat
theorem YS (a m:Nat):clr a m<18446744073709551616:=(BitVec.ofNat 64 a &&& ~~~ BitVec.ofNat 64 m).isLt
theorem EP {a m:Nat}(r:a<18446744073709551616)(j:Nat):(clr a m).testBit j=(a.testBit j && !(m.testBit j)):=by
 unfold clr
 by_cases y:j<64
 · show(BitVec.ofNat 64 a &&& ~~~ BitVec.ofNat 64 m).getLsbD j=_
   rw[BitVec.getLsbD_and,BitVec.getLsbD_not,BitVec.getLsbD_ofNat,BitVec.getLsbD_ofNat];simp[y]
 · have h1:(BitVec.ofNat 64 a &&& ~~~ BitVec.ofNat 64 m).toNat.testBit j=false:=Nat.testBit_lt_two_pow (Zt (BitVec.isLt _) (Yf O O))
   have h2:a.testBit j=false:=Nat.testBit_lt_two_pow (Zt r (by rw[show(18446744073709551616:Nat)=2^64 by decide];exact Yf O O));rw[h1,h2];rfl
theorem FB {a m:Nat}(r:a<18446744073709551616)(y:m<18446744073709551616):a ||| m<18446744073709551616:=Nat.or_lt_two_pow (n:=64) r y
def Y2 (B:List Nat)(i k:Nat):List Nat:=B.set (i/64) (B.getD (i/64) 0 ||| J4 k (i%64))
def TU (B:List Nat)(i k:Nat):List Nat:=B.set (i/64) (clr (B.getD (i/64) 0) (J4 k (i%64)))
@[simp] theorem Cx (B : List Nat) (i k : Nat) : (Y2 B i k).length = B.length := by simp [Y2]
@[simp] theorem B3 (B : List Nat) (i k : Nat) : (TU B i k).length = B.length := by simp [TU]
theorem MK {B:List Nat}(h:u64ok B)(i:Nat):B.getD i 0<18446744073709551616:=by
 rw[M_]
 cases r:B[i]? with
 | none=>decide
 | some v=>exact h v (q_ r)
theorem Cv {B:List Nat}(h:u64ok B){i k:Nat}(r:k+i%64 <= 64):u64ok (Y2 B i k):=fun v y=>by
 rcases Zz y with h1|h1
 ·exact h v h1
 ·rw[h1];exact FB (MK h _) (Rq r)
theorem B2 {B:List Nat}(h:u64ok B){i k:Nat}:u64ok (TU B i k):=fun v r=>by
 rcases Zz r with h1|h1
 ·exact h v h1
 ·rw[h1];exact YS _ _
theorem WG {i k j:Nat}(r:k+i%64 <= 64):(j/64=i/64 /\ i%64 <= j%64 /\ j%64<i%64+k)↔i <= j /\ j<i+k:=O
theorem Cy {B:List Nat}{i k:Nat}(E:k+i%64 <= 64)(y:i/64<B.length)(j:Nat):Gv (Y2 B i k) j=(Gv B j || (decide (i <= j) && decide (j<i+k))):=by
 have G:=WG (j:=j) E;unfold Gv Y2;rw[M_,List.getElem?_set]
 by_cases r:i/64=j/64
 · rw[v_ r,v_ y,Zc,Nat.testBit_or,Ux,r]
   congr 1
   rw[Bool.eq_iff_iff];simp only[Xn,Zx];omega
 · rw[y_ r,←M_]
   have:(decide (i <= j) && decide (j<i+k))=false:=by
    rw[Yq,Zk,Zk];omega
   rw[this,Bool.or_false]
theorem B4 {B:List Nat}(y:u64ok B){i k:Nat}(G:k+i%64 <= 64)(E:i/64<B.length)(j:Nat):Gv (TU B i k) j=(Gv B j && !(decide (i <= j) && decide (j<i+k))):=by
 have J:=WG (j:=j) G;unfold Gv TU;rw[M_,List.getElem?_set]
 by_cases r:i/64=j/64
 · rw[v_ r,v_ E,Zc,EP (MK y _),Ux,r]
   congr 2
   rw[Bool.eq_iff_iff];simp only[Xn,Zx];omega
 · rw[y_ r,←M_]
   have:(decide (i <= j) && decide (j<i+k))=false:=by
    rw[Yq,Zk,Zk];omega
   rw[this,Bool.not_false,Bool.and_true]
def pk (i n:Nat):Nat:=min n (64-i%64)
theorem Ck (i n:Nat):pk i n+i%64 <= 64:=by unfold pk;omega
theorem Ps (i n:Nat):pk i n <= n:=Nat.min_le_left ..
theorem Pr {i n:Nat}(h:0<n):0<pk i n:=by unfold pk;omega
def Lg (B B':List Nat)(i n:Nat):Prop:=B'.length=B.length /\ u64ok B' /\ ∀j,Gv B' j=(Gv B j || (decide (i <= j) && decide (j<i+n)))
def Lh (B B':List Nat)(i n:Nat):Prop:=B'.length=B.length /\ u64ok B' /\ ∀j,Gv B' j=(Gv B j && !(decide (i <= j) && decide (j<i+n)))
theorem Lg.refl {B:List Nat}(h:u64ok B)(i:Nat):Lg B B i 0:=⟨rfl,h,fun j=>by
 have:(decide (i <= j) && decide (j<i+0))=false:=by rw[Yq,Zk,Zk];omega
 rw[this,Bool.or_false]⟩
theorem Lh.refl {B:List Nat}(h:u64ok B)(i:Nat):Lh B B i 0:=⟨rfl,h,fun j=>by
 have:(decide (i <= j) && decide (j<i+0))=false:=by rw[Yq,Zk,Zk];omega
 rw[this,Bool.not_false,Bool.and_true]⟩
theorem Lg.step {B B':List Nat}{i n k:Nat}(h:Lg B B' i n)(r:k+(i+n)%64 <= 64)(E:(i+n)/64<B.length):Lg B (Y2 B' (i+n) k) i (n+k):=by
 obtain⟨h1,h2,y⟩:=h;refine⟨by rw[Cx,h1],Cv h2 r,fun j=>?_⟩;rw[Cy r (by rw[h1];exact E),y,Bool.or_assoc]
 congr 1
 rw[Bool.eq_iff_iff];simp only[Bool.or_eq_true,Xn,Zx];omega
theorem Lh.step {B B':List Nat}{i n k:Nat}(h:Lh B B' i n)(E:k+(i+n)%64 <= 64)(y:(i+n)/64<B.length):Lh B (TU B' (i+n) k) i (n+k):=by
 obtain⟨h1,h2,r⟩:=h;refine⟨by rw[B3,h1],B2 h2,fun j=>?_⟩;rw[B4 h2 E (by rw[h1];exact y),r,Bool.and_assoc]
 congr 1
 rw[Bool.eq_iff_iff];simp only[Xn,Bool.not_eq_true',Yq,Zk];omega
theorem X7 {a m:Nat}:bits .andNot .u64 (a:Int) (m:Int)=((clr a m:Nat):Int):=by
 have h1:(BitVec.ofInt 64 (a:Int))=BitVec.ofNat 64 a:=by rw[BitVec.ofInt_natCast]
 have h2:(BitVec.ofInt 64 (m:Int))=BitVec.ofNat 64 m:=by rw[BitVec.ofInt_natCast]
 show IntKind.u64.wrap (((BitVec.ofInt 64 (a:Int)) &&& ~~~ (BitVec.ofInt 64 (m:Int))).toNat:Int)=_
 rw[h1,h2,IntKind.wrap_u64];have:=YS a m;unfold clr at*;omega
theorem WJ {x b:Nat}(y:x<18446744073709551616):bits .and .u64 ((x:Int).fdiv (2^b)) 1=if x.testBit b then 1 else 0:=by
 have h1:(x:Int).fdiv (2^b)=((x/2^b:Nat):Int):=by
  rw[Int.fdiv_eq_ediv_of_nonneg _ (by exact Int.le_of_lt (Int.pow_pos (by decide)))]
  push_cast
  rfl
 rw[h1,show(1:Int)=((1:Nat):Int)from rfl,bits_and_u64_nat _ _ (Nat.lt_of_le_of_lt (Nat.div_le_self ..) y) (by decide),Nat.and_one_is_mod];have:x.testBit b=decide (x/2^b%2=1):=by rw[Jb]
 rw[this]
 by_cases h:x/2^b%2=1
 ·rw[h];simp
 · have r:x/2^b%2=0:=O
   rw[r];simp
end
section
open Go Go.RowKit Tryz Go.IntWalk
abbrev K7 (t:Ty):Value:=.agg #[yV t.kind,iV t.words,uV t.mask]
structure TyIn (t:Ty):Prop where
 kind:t.kind <= 255
 low: -9223372036854775808 <= t.words
 high:t.words <= 9223372036854775807
 mask:t.mask<18446744073709551616
theorem Ku (m j:Nat):(m:Int)/2^j=((m/2^j:Nat):Int):=by rw[Int.natCast_ediv,Int.natCast_pow];rfl
theorem YB (w:World)(t:Ty)(ht:TyIn t):Calls prog 128 #[K7 t] w fun e w'=>e=.returned (iV (if t.may then 0 else 2)) /\ Below w.heap.size w w':=by
 obtain⟨k,n,m⟩:=t;obtain⟨h1,h2,h3,U⟩:=ht;simp only at h1 h2 h3 U;have N:=uh ((T_ w.heap.size w).alloc (g_ _) (.cells #[yV k,iV n,uV m] 79));obtain⟨er,E⟩:∃er:Int,Hid (er=if (Ty.mk k n m).may then 0 else 2):=⟨_,uh rfl⟩;rw[←E.out]
 by_cases k1:k=1
 · subst k1
   have y:(Ty.mk 1 n m).may↔0 <= n /\ n <= 64 /\ m<2^n.toNat:=by simp[Ty.may,low,high]
   by_cases r:m<2^n.toNat
   · have J:((m:Int)/2^n.toNat != 0)=false:=by rw[←KL]at r;rw[Ku,r];rfl
     go_enter func128,ntmps128
     go_wp2
     all_goals
      go_ret;refine⟨?_,N.out⟩;rw[E.out]
      first
       | (rw[v_ (y.2 ⟨by omega,by omega,r⟩)];done)
       | (rw[y_ (fun h=>by have G:=y.1 h;omega)];done)
       | (rw[v_ (y.2 ⟨by omega,by omega,r⟩)];rfl)
       | (rw[y_ (fun h=>by have G:=y.1 h;omega)];rfl)
   · have J:((m:Int)/2^n.toNat != 0)=true:=by rw[Ku,Qe];exact fun h=>r (KL.1 (by exact_mod_cast h))
     have V:¬(64 <= n /\ n <= 64):=fun G=>by
      have M:n=64:=O;rw[M]at r;exact r U
     go_enter func128,ntmps128
     go_wp2
     all_goals first
      | (exfalso;omega)
      | (go_ret
         refine⟨?_,N.out⟩;rw[E.out,y_ (fun h=>r (y.1 h).2.2)]
         first|done|rfl)
 by_cases k2:k=2
 · subst k2
   have y:(Ty.mk 2 n m).may↔0 <= n /\ n <= 0 /\ m<2^n.toNat:=by simp[Ty.may,low,high]
   by_cases r:m<2^n.toNat
   · have J:((m:Int)/2^n.toNat != 0)=false:=by rw[←KL]at r;rw[Ku,r];rfl
     go_enter func128,ntmps128
     go_wp2
     all_goals
      go_ret;refine⟨?_,N.out⟩;rw[E.out]
      first
       | (rw[v_ (y.2 ⟨by omega,by omega,r⟩)];done)
       | (rw[y_ (fun h=>by have G:=y.1 h;omega)];done)
       | (rw[v_ (y.2 ⟨by omega,by omega,r⟩)];rfl)
       | (rw[y_ (fun h=>by have G:=y.1 h;omega)];rfl)
   · have J:((m:Int)/2^n.toNat != 0)=true:=by rw[Ku,Qe];exact fun h=>r (KL.1 (by exact_mod_cast h))
     have V:¬(64 <= n /\ n <= 64):=fun G=>by
      have M:n=64:=O;rw[M]at r;exact r U
     go_enter func128,ntmps128
     go_wp2
     all_goals first
      | (exfalso;omega)
      | (go_ret
         refine⟨?_,N.out⟩;rw[E.out,y_ (fun h=>r (y.1 h).2.2)]
         first|done|rfl)
 by_cases k3:k=3
 · subst k3
   have y:(Ty.mk 3 n m).may↔1 <= n /\ n <= 16 /\ m<2^n.toNat:=by simp[Ty.may,low,high]
   by_cases r:m<2^n.toNat
   · have J:((m:Int)/2^n.toNat != 0)=false:=by rw[←KL]at r;rw[Ku,r];rfl
     go_enter func128,ntmps128
     go_wp2
     all_goals
      go_ret;refine⟨?_,N.out⟩;rw[E.out]
      first
       | (rw[v_ (y.2 ⟨by omega,by omega,r⟩)];done)
       | (rw[y_ (fun h=>by have G:=y.1 h;omega)];done)
       | (rw[v_ (y.2 ⟨by omega,by omega,r⟩)];rfl)
       | (rw[y_ (fun h=>by have G:=y.1 h;omega)];rfl)
   · have J:((m:Int)/2^n.toNat != 0)=true:=by rw[Ku,Qe];exact fun h=>r (KL.1 (by exact_mod_cast h))
     have V:¬(64 <= n /\ n <= 64):=fun G=>by
      have M:n=64:=O;rw[M]at r;exact r U
     go_enter func128,ntmps128
     go_wp2
     all_goals first
      | (exfalso;omega)
      | (go_ret
         refine⟨?_,N.out⟩;rw[E.out,y_ (fun h=>r (y.1 h).2.2)]
         first|done|rfl)
 by_cases k4:k=4
 · subst k4
   have y:(Ty.mk 4 n m).may↔0 <= n /\ n <= 0 /\ m<2^n.toNat:=by simp[Ty.may,low,high]
   by_cases r:m<2^n.toNat
   · have J:((m:Int)/2^n.toNat != 0)=false:=by rw[←KL]at r;rw[Ku,r];rfl
     go_enter func128,ntmps128
     go_wp2
     all_goals
      go_ret;refine⟨?_,N.out⟩;rw[E.out]
      first
       | (rw[v_ (y.2 ⟨by omega,by omega,r⟩)];done)
       | (rw[y_ (fun h=>by have G:=y.1 h;omega)];done)
       | (rw[v_ (y.2 ⟨by omega,by omega,r⟩)];rfl)
       | (rw[y_ (fun h=>by have G:=y.1 h;omega)];rfl)
   · have J:((m:Int)/2^n.toNat != 0)=true:=by rw[Ku,Qe];exact fun h=>r (KL.1 (by exact_mod_cast h))
     have V:¬(64 <= n /\ n <= 64):=fun G=>by
      have M:n=64:=O;rw[M]at r;exact r U
     go_enter func128,ntmps128
     go_wp2
     all_goals first
      | (exfalso;omega)
      | (go_ret
         refine⟨?_,N.out⟩;rw[E.out,y_ (fun h=>r (y.1 h).2.2)]
         first|done|rfl)
 have Z:∀j:Nat,1 <= j -> j <= 4 -> ¬(k:Int)=(j:Int):=fun j a b=>by omega
 have q1:¬(k:Int)=1:=Z 1 O O;have q2:¬(k:Int)=2:=Z 2 O O;have q3:¬(k:Int)=3:=Z 3 O O;have q4:¬(k:Int)=4:=Z 4 O O;clear Z
 go_enter func128,ntmps128
 go_wp2
 all_goals
  go_ret;refine⟨?_,N.out⟩;rw[E.out,y_ (fun h=>by have G:=h.1;have M:=h.2.1;simp only at G M;omega)]
  first|done|rfl
theorem L3 {t:Ty}{n:Int}:t.err n=0↔t.may /\ 0 <= n /\ n <= 4096 /\ (t.kind=1 -> n=0):=by
 unfold Ty.err
 by_cases r:t.may
 · by_cases y:n<0
   · rw[v_ (.inr (.inl y))]
     exact⟨fun h=>(by cases h),fun h=>O⟩
   · by_cases h1:t.kind=1 /\ n≠0
     · rw[v_ (.inr (.inr h1))]
       exact⟨fun h=>(by cases h),fun h=>absurd (h.2.2.2 h1.1) h1.2⟩
     · rw[y_ (fun h=>by rcases h with h|h|h;exact h r;exact y h;exact h1 h)]
       by_cases h2:4096<n
       · rw[v_ h2]
         exact⟨fun h=>(by cases h),fun h=>O⟩
       · rw[y_ h2]
         exact⟨fun _=>⟨r,by omega,by omega,fun E=>Classical.byContradiction fun G=>h1 ⟨E,G⟩⟩,fun _=>rfl⟩
 · rw[v_ (.inl r)]
   exact⟨fun h=>(by cases h),fun h=>absurd h.1 r⟩
def MH (t:Ty)(n:Int):List Value:=if t.err n=0 then [yV t.kind,iV t.words,uV t.mask,iV n]else [yV 0,iV 0,uV 0,iV 0]
abbrev MQ (t:Ty)(n:Int):Value:=.agg (MH t n).toArray
theorem gE (w:World)(t:Ty)(ht:TyIn t)(n:Int):
  Calls prog 223 #[K7 t,iV n] w fun e w'=>e=.returned (.tuple #[MQ t n,iV (t.err n)]) /\ Below w.heap.size w w':=by
 have a4:=uh (fun W=>YB W t ht);have T1:=((r_ (C_ w)).alloc (.cells #[yV t.kind,iV t.words,uV t.mask] 79)).alloc (.cells #[yV 0,iV 0,uV 0,iV 0] 345);have a3:=uh T1;clear T1
 obtain⟨v0,v1,v2,v3,er,Z⟩:∃v0 v1 v2 v3 er,Hid (MH t n=[v0,v1,v2,v3] /\ er=t.err n /\ (t.err n≠0 -> v0=yV 0 /\ v1=iV 0 /\ v2=uV 0 /\ v3=iV 0) /\ (t.err n=0 -> v0=yV t.kind /\ v1=iV t.words /\ v2=uV t.mask /\ v3=iV n)):=by
  unfold MH
  by_cases h:t.err n=0
  ·exact⟨_,_,_,_,_,uh ⟨by rw[v_ h],rfl,fun h'=>absurd h h',fun _=>⟨rfl,rfl,rfl,rfl⟩⟩⟩
  ·exact⟨_,_,_,_,_,uh ⟨by rw[y_ h],rfl,fun _=>⟨rfl,rfl,rfl,rfl⟩,fun h'=>absurd h' h⟩⟩
 rw[show MQ t n=.agg #[v0,v1,v2,v3]by unfold MQ;rw[Z.out.1],←Z.out.2.1];have y:(prog.info? 345).map (·.size)=some 4:=by kernel_rfl
 have a2:∀W,Turn [] w [(w.heap.size+1,.cells #[v0,v1,v2,v3] 345),(w.heap.size,.cells #[yV t.kind,iV t.words,uV t.mask] 79)] W -> Below w.heap.size w W:=fun W T=>T.below
 have r:(¬t.may∨n<0∨t.kind=1 /\ n≠0) -> er=2 /\ v0=yV 0 /\ v1=iV 0 /\ v2=uV 0 /\ v3=iV 0:=fun h=>by
  have h2:t.err n=2:=by unfold Ty.err;rw[v_ h]
  exact⟨Z.out.2.1.trans h2,Z.out.2.2.1 (by rw[h2];decide)⟩
 have E:t.may -> 4096<n -> ¬(t.kind=1 /\ n≠0) -> er=5 /\ v0=yV 0 /\ v1=iV 0 /\ v2=uV 0 /\ v3=iV 0:=fun J hn hk=>by
  have h2:t.err n=5:=by unfold Ty.err;rw[y_ (fun h=>by rcases h with h|h|h;exact h J;omega;exact hk h),v_ hn]
  exact⟨Z.out.2.1.trans h2,Z.out.2.2.1 (by rw[h2];decide)⟩
 have U:t.may -> 0 <= n -> n <= 4096 -> ¬(t.kind=1 /\ n≠0) -> er=0 /\ v0=yV t.kind /\ v1=iV t.words /\ v2=uV t.mask /\ v3=iV n:=fun J h0 hn hk=>by
  have h2:t.err n=0:=by unfold Ty.err;rw[y_ (fun h=>by rcases h with h|h|h;exact h J;omega;exact hk h),y_ O]
  exact⟨Z.out.2.1.trans h2,Z.out.2.2.2 h2⟩
 clear Z;obtain⟨k,m,mk⟩:=t
 have HS:∀(W:World) (vs:List Value),vs.length=4 -> Turn [] w [(w.heap.size+1,.cells #[yV 0,iV 0,uV 0,iV 0] 345),(w.heap.size,.cells #[yV k,iV m,uV mk] 79)] W ->
   Turn [] w [(w.heap.size+1,.cells vs.toArray 345),(w.heap.size,.cells #[yV k,iV m,uV mk] 79)] (W.setCells (w.heap.size+1) 0 vs):=fun W vs hl T=>Turn.setAll vs (by rw[hl];rfl) T
 go_enter func223,ntmps223
 go_wp2_with fail
 refine(a4.out _).mono ?_;rintro e w2 ⟨rfl,a5⟩;have T2:=a3.out.call a5;rw[Y_]at T2;have V:w2.there (w.heap.size+1) 0 4:=T2.there1;have TZ:=HS w2 [yV 0,iV 0,uV 0,iV 0] rfl T2;have TV:=HS w2 [yV k,iV m,uV mk,iV n] rfl T2;have c0:w2.cell? (aD w.heap.size 0)=some (yV k):=T2.cell2 0;have c1:w2.cell? (aD w.heap.size 1)=some (iV m):=T2.cell2 1;have c2:w2.cell? (aD w.heap.size 2)=some (uV mk):=T2.cell2 2;have z0:=TZ.cell1 0;have z1:=TZ.cell1 1;have z2:=TZ.cell1 2;have z3:=TZ.cell1 3;have d0:=TV.cell1 0;have d1:=TV.cell1 1;have d2:=TV.cell1 2;have d3:=TV.cell1 3;have a0:(#[yV 0,iV 0,uV 0,iV 0]:Array Value).all (·.oneCell')=true:=all_oneCell_toArray (cs:=[yV 0,iV 0,uV 0,iV 0]) (by simp[Value.oneCell']);have a6:(#[yV k,iV m,uV mk,iV n]:Array Value).all (·.oneCell')=true:=all_oneCell_toArray (cs:=[yV k,iV m,uV mk,iV n]) (by simp[Value.oneCell']);have G:=uh TZ;have M:=uh TV;clear a5 T2 HS TZ TV a3 a4 a2
 by_cases J:(Ty.mk k m mk).may
 · simp only[v_ J]
   by_cases hA:n<0
   · obtain⟨rfl,rfl,rfl,rfl,rfl⟩:=r (.inr (.inl hA))
     clear r E U J d0 d1 d2 d3 M
     go_wp2_with (first|(refine h_ rfl 345 _ _ rfl _ 0 #[yV 0,iV 0,uV 0,iV 0] rfl rfl V y a0 ?_)|fail)
     refine f_ (Gs results223 _ _ _ _ _ rfl G.out.range1 underlying345 rfl y) rfl ⟨rfl,G.out.below⟩
   by_cases N:k=1 /\ n≠0
   · obtain⟨rfl,rfl,rfl,rfl,rfl⟩:=r (.inr (.inr N))
     obtain⟨rfl,N⟩:=N;clear r E U J d0 d1 d2 d3 M
     go_wp2_with (first|(refine h_ rfl 345 _ _ rfl _ 0 #[yV 0,iV 0,uV 0,iV 0] rfl rfl V y a0 ?_)|fail)
     refine f_ (Gs results223 _ _ _ _ _ rfl G.out.range1 underlying345 rfl y) rfl ⟨rfl,G.out.below⟩
   by_cases hC:4096<n
   · obtain⟨rfl,rfl,rfl,rfl,rfl⟩:=E J hC N
     have hk:¬(k:Int)=1:=fun h=>N ⟨by omega,by omega⟩;clear r E U J d0 d1 d2 d3 M N
     go_wp2_with (first|(refine h_ rfl 345 _ _ rfl _ 0 #[yV 0,iV 0,uV 0,iV 0] rfl rfl V y a0 ?_)|fail)
     refine f_ (Gs results223 _ _ _ _ _ rfl G.out.range1 underlying345 rfl y) rfl ⟨rfl,G.out.below⟩
   · obtain⟨rfl,rfl,rfl,rfl,rfl⟩:=U J O O N
     clear r E U J z0 z1 z2 z3 G
     by_cases a1:k=1
     · obtain rfl:n=0:=Classical.byContradiction fun h=>N ⟨a1,h⟩
       subst a1;clear N
       go_wp2_with (first|(refine h_ rfl 345 _ _ rfl _ 0 #[yV 1,iV m,uV mk,iV 0] rfl rfl V y a6 ?_)|fail)
       refine f_ (Gs results223 _ _ _ _ _ rfl M.out.range1 underlying345 rfl y) rfl ⟨rfl,M.out.below⟩
     · have hk:¬(k:Int)=1:=O
       clear N a1
       go_wp2_with (first|(refine h_ rfl 345 _ _ rfl _ 0 #[yV k,iV m,uV mk,iV n] rfl rfl V y a6 ?_)|fail)
       refine f_ (Gs results223 _ _ _ _ _ rfl M.out.range1 underlying345 rfl y) rfl ⟨rfl,M.out.below⟩
 · obtain⟨rfl,rfl,rfl,rfl,rfl⟩:=r (.inl J)
   simp only[y_ J];clear r E U J d0 d1 d2 d3 M
   go_wp2_with (first|(refine h_ rfl 345 _ _ rfl _ 0 #[yV 0,iV 0,uV 0,iV 0] rfl rfl V y a0 ?_)|fail)
   refine f_ (Gs results223 _ _ _ _ _ rfl G.out.range1 underlying345 rfl y) rfl ⟨rfl,G.out.below⟩
end
section
open Go Go.RowKit Go.MapKept
def JK (q:IntKind)(m:List (Int×Value))(o:Obj):Prop:=∃es clock,o=.map es clock /\ es.toList.map (fun e=>(e.key,e.val))=m.map (fun p=>(Value.int q p.1,p.2))
def L7:List (Int×Value) -> Int -> Nat -> Option (Nat×Value)
 | [],_,_=>none
 | p::m,k,i=>if k=p.1 then some (i,p.2)else L7 m k (i+1)
def LV (m:List (Int×Value))(k:Int):Option Value:=(L7 m k 0).map (·.2)
def Lu:List (Int×Value) -> Int -> Value -> List (Int×Value)
 | [],k,v=>[(k,v)]
 | p::m,k,v=>if k=p.1 then(k,v)::m else p::Lu m k v
theorem RV (m:List (Int×Value))(k:Int):∀i j,L7 m k (i+j)=(L7 m k i).map fun x=>(x.1+j,x.2):=by
 induction m with
 | nil=>intro i j;rfl
 | cons p m ih=>
  intro i j;unfold L7
  split
  ·rfl
  · rw[←ih (i+1) j]
    congr 1
    omega
theorem LY (p:Int×Value)(m:List (Int×Value))(k:Int):LV (p::m) k=if k=p.1 then some p.2 else LV m k:=by
 unfold LV;rw[L7]
 split
 ·rfl
 · rw[RV m k 0 1]
   cases L7 m k 0<;>rfl
theorem CH (m:List (Int×Value))(k:Int)(v:Value)(j:Int):LV (Lu m k v) j=if j=k then some v else LV m j:=by
 induction m with
 | nil=>
  rw[Lu,LY]
 | cons p m ih=>
  rw[Lu]
  split
  · rename_i h
    subst h;rw[LY,LY];simp only
    split<;>rfl
  · rename_i h
    rw[LY,ih,LY]
    split
    · rename_i h2
      subst h2;rw[if_neg fun r=>h r.symm]
    ·rfl
theorem NE {q:IntKind}{k:Int}:∀{l:List MapEntry} {m:List (Int×Value)} (i:Nat),l.map (fun e=>(e.key,e.val))=m.map (fun p=>(Value.int q p.1,p.2)) -> Instr.findNow (.int q) (.int q k) l i=some (L7 m k i)
 | [],[],_,_=>rfl
 | [],_::_,_,h=>by cases h
 | _::_,[],_,h=>by cases h
 | e::l,p::m,i,h=>by
  rw[List.map_cons,List.map_cons,List.cons.injEq,Prod.mk.injEq]at h;obtain⟨⟨h1,h2⟩,y⟩:=h;unfold Instr.findNow L7;rw[h1]
  by_cases r:k=p.1
  ·simp[Instr.sameNow,r,h2]
  · have E:(k == p.1)=false:=by simpa using r
    simp only[Instr.sameNow,if_true,E,r,if_false];exact NE (i+1) y
theorem Nd {q:IntKind}{k:Int}{v:Value}:∀{l:List MapEntry} {m:List (Int×Value)} {i:Nat} {u:Value},l.map (fun e=>(e.key,e.val))=m.map (fun p=>(Value.int q p.1,p.2)) -> L7 m k 0=some (i,u) ->
  (l.modify i fun e=>{ e with key:=.int q k,val:=v }).map (fun e=>(e.key,e.val))=(Lu m k v).map (fun p=>(Value.int q p.1,p.2)) /\ (l[i]?).map (·.key)=some (.int q k)
 | [],[],_,_,_,hf=>by cases hf
 | [],_::_,_,_,h,_=>by cases h
 | _::_,[],_,_,h,_=>by cases h
 | e::l,p::m,i,u,h,hf=>by
  rw[List.map_cons,List.map_cons,List.cons.injEq,Prod.mk.injEq]at h;obtain⟨⟨h1,h2⟩,E⟩:=h;rw[L7]at hf;rw[Lu]
  by_cases r:k=p.1
  · rw[if_pos r]at hf ⊢
    cases hf
    simp only[List.modify_zero_cons,List.map_cons,E,List.getElem?_cons_zero,Option.map_some,h1,r,and_self]
  · rw[if_neg r,RV m k 0 1]at hf
    rw[if_neg r]
    cases y:L7 m k 0 with
    | none=>rw[y]at hf;cases hf
    | some x=>
     rw[y]at hf
     cases hf
     obtain⟨G,J⟩:=Nd (v:=v) E y;simp only[List.modify_succ_cons,List.map_cons,G,h1,h2,List.getElem?_cons_succ,J,and_self]
theorem RU {q:IntKind}{k:Int}{v:Value}:∀{m:List (Int×Value)},L7 m k 0=none -> Lu m k v=m++[(k,v)]
 | [],_=>rfl
 | p::m,hf=>by
  rw[L7]at hf;rw[Lu]
  by_cases r:k=p.1
  · rw[if_pos r]at hf
    cases hf
  · rw[if_neg r,RV m k 0 1]at hf
    rw[if_neg r,RU (q:=q) (by cases y:L7 m k 0 with|none=>rfl|some x=>rw[y]at hf;cases hf)]
    rfl
theorem Wf (n:Nat)(q:IntKind)(a:Int):Instr.sameBits n (.int q a) (.int q a)=true:=by
 cases n<;>simp[Instr.sameBits]
section
variable {P:Program} {w:World} {b:Nat} {q:IntKind} {m:List (Int×Value)} {o:Obj} {t kt e:TypeId}
theorem Na (J:w.heap[b]?= some o)(N:JK q m o)(U:P.underlying t=some (.map kt e))(y:P.underlying kt=some (.int q)){z:Value}(V:(zeroValue e).run P w=.ok z w)(k:Int)(r:Bool):
  (Instr.lookup t (.map (some b)) (.int q k) r).run P w=.ok (let v:=(LV m k).getD z;if r then .tuple #[v,.bool (LV m k).isSome]else v) w:=by
 obtain⟨G,E,rfl,h⟩:=N;have M:=run_findKey (P:=P) (w:=w) (kt:=kt) y (NE (k:=k) 0 h);unfold Instr.lookup;simp only[Sem.run_bind,run_underlying U,Result.andThen_ok,MapKept.run_getObj_map J,Sem.run_pure,run_checkKey (e:=G.isEmpty) (n:=9999) y (show IsKey (.int q) (.int q k)by simp[IsKey]),M];unfold LV
 cases L7 m k 0 with
 | none=>simp[V,Result.andThen_ok]
 | some x=>cases r<;>rfl
theorem S6 (y:w.heap[b]?= some o)(N:JK q m o)(U:P.underlying t=some (.map kt e))(G:P.underlying kt=some (.int q))(k:Int)(v:Value):
  ∃o',JK q (Lu m k v) o' /\ (Instr.mapUpdate t (.map (some b)) (.int q k) v).run P w=.ok () { w with heap:=w.heap.setIfInBounds b o' }:=by
 obtain⟨E,r,rfl,h⟩:=N;have M:=run_findKey (P:=P) (w:=w) (kt:=kt) G (NE (k:=k) 0 h);unfold Instr.mapUpdate;simp only[Sem.run_bind,run_underlying U,Result.andThen_ok,MapKept.run_getObj_map y,run_checkKey (e:=false) (n:=9999) G (show IsKey (.int q) (.int q k)by simp[IsKey]),M]
 cases J:L7 m k 0 with
 | none=>
  refine⟨_,⟨E.push { key:=.int q k,val:=v,born:=r },r+1,rfl,?_⟩,MapKept.run_setObj_map _ y⟩;rw[RU (q:=q) J,List.map_append,Array.toList_push,List.map_append,h]
  rfl
 | some x=>
  obtain⟨i,u⟩:=x;obtain⟨h1,h2⟩:=Nd (v:=v) h J;rw[Array.getElem?_toList]at h2;refine⟨_,⟨E.modify i fun e=>{ e with key:=.int q k,val:=v },r,rfl,?_⟩,?_⟩
  · rw[Array.toList_modify]
    exact h1
  · simp only[h2,Option.getD_some,Instr.keyThatStays,Wf,if_true,Sem.run_bind,Sem.run_pure,Result.andThen_ok]
    exact MapKept.run_setObj_map _ y
end
theorem JK.new (q:IntKind):JK q [] (.map #[] 0):=⟨#[],0,rfl,rfl⟩
theorem Turn.setBlk {l J:List Blk}{w w':World}{b:Nat}{o:Obj}(h:Turn l w ((b,o)::J) w')(o':Obj):Turn l w ((b,o')::J) { w' with heap:=w'.heap.setIfInBounds b o' }:=by
 have hd:=h.has.nd;rw[JP,List.nodup_cons]at hd;obtain⟨h1,h2⟩:=heap_set (o':=o') (h.has.own b o (List.mem_cons_self ..));refine⟨h.os,h.tape,h.output,by simpa using h.size,⟨h.has.nd,fun y M U=>?_⟩,h.new,fun y N G=>?_⟩
 · rcases List.mem_cons.1 U with r|r
   · cases r
     exact h1
   ·exact(h2 y (fun E=>hd.1 (GE.2 ⟨M,by rw[←E];exact r⟩))).trans (h.has.own y M (List.mem_cons_of_mem _ r))
 · refine(h2 y (fun E=>?_)).trans (h.same y N G)
   rcases h.new b (by simp)with r|r
   ·exact G (by rw[E];exact r)
   ·omega
section
variable {P:Program} {w:World} {ops:Array Oper} {rest:List Oper} {o:Oper} {a:Act} {Q:Exit -> Act -> World -> Prop} {q:IntKind} {mp:List (Int×Value)} {b:Nat} {ob:Obj}
end
end
section
open Go Go.RowKit Tryz Go.IntWalk
section
variable {P:Program} {w w0:World} {ops:Array Oper} {rest:List Oper} {o:Oper} {a:Act} {Q:Exit -> Act -> World -> Prop} {q:IntKind} {mp:List (Int×Value)} {b:Nat} {ob:Obj} {l L:List Blk}
theorem SM (T:Turn l w0 ((b,ob)::L) w)(E:JK q mp ob)(N:o.guard=none)(m x v:Operand)(t:TypeId)(J:o.op=Op.insert t m x v)(kt e:TypeId)(Z:P.underlying t=some (.map kt e))(U:P.underlying kt=some (.int q))
  (V:a.eval m=.map (some b))(k:Int)(hx:a.eval x=.int q k)(u:Value)(hv:a.eval v=u)
  (M:∀o' w',JK q (Lu mp k u) o' -> Turn l w0 ((b,o')::L) w' -> wpList P ops Q rest (a.put o.dst undef) w'):wpList P ops Q (o::rest) a w:=by
 refine wpList_plain N fun K' y=>?_;obtain⟨o',G,r⟩:=S6 (T.has.own b ob (d_ ..)) E Z U k u;unfold Oper.wp;simp only[execOp,J,V,hx,hv,r,Sem.run_bind,Xd,Sem.run_pure];exact y _ _ (M o' _ G (T.setBlk o'))
end
def UY:List (Int×Value):=[(1,.func (.func 268) #[] #[]),(2,.func (.func 269) #[] #[]),(3,.func (.func 270) #[] #[]),(4,.func (.func 269) #[] #[])]
theorem gB (w:World):Calls prog 250 #[] w fun e w'=>e=.returned (.map (some w.heap.size)) /\ ∃o,JK .u8 UY o /\ Turn [] w [(w.heap.size,o)] w':=by
 have J:=(r_ (C_ w)).alloc (.map #[] 0);have r:=uh J;clear J;have M:= @run_makeMap prog
 go_enter func250,ntmps250
 have y:=uh (JK.new .u8)
 go_wp2_with (first
  | (refine SM r.out y.out rfl _ _ _ 368 rfl _ _ underlying368 underlying5 rfl _ rfl _ rfl ?_;clear r y;intro N w1 G E;have r:=uh E;have y:=uh G;clear G E)
  | fail)
 go_ret;exact⟨rfl,_,y.out,r.out⟩
abbrev NZ (t:Ty)(n:Nat):Value:=.agg #[yV t.kind,iV t.words,uV t.mask,iV n]
theorem RX {t:Ty}{n:Nat}(h:t.err n=0):MQ t n=NZ t n:=by
 unfold MQ MH;rw[v_ h]
theorem PD (w:World)(t:Ty)(n:Nat):Calls prog 268 #[NZ t n] w fun e w'=>e=.returned (iV t.words) /\ Below w.heap.size w w':=by
 have r:=uh ((T_ w.heap.size w).alloc (g_ _) (.cells #[yV t.kind,iV t.words,uV t.mask,iV n] 345))
 go_enter func268,ntmps268
 go_wp2
 go_ret;exact⟨rfl,r.out⟩
theorem jH (w:World)(t:Ty)(n:Nat):Calls prog 269 #[NZ t n] w fun e w'=>e=.returned (iV n) /\ Below w.heap.size w w':=by
 have r:=uh ((T_ w.heap.size w).alloc (g_ _) (.cells #[yV t.kind,iV t.words,uV t.mask,iV n] 345))
 go_enter func269,ntmps269
 go_wp2
 go_ret;exact⟨rfl,r.out⟩
theorem PF (w:World)(t:Ty)(n:Nat)(h:(n:Int)*t.words <= 65536)(E:0 <= (n:Int)*t.words):Calls prog 270 #[NZ t n] w fun e w'=>e=.returned (iV ((n:Int)*t.words)) /\ Below w.heap.size w w':=by
 have r:=uh ((T_ w.heap.size w).alloc (g_ _) (.cells #[yV t.kind,iV t.words,uV t.mask,iV n] 345));have y:IntKind.i64.wrap ((n:Int)*t.words)=(n:Int)*t.words:=i64_in _ O
 go_enter func270,ntmps270
 go_wp2
 go_ret;refine⟨?_,r.out⟩
 first|rfl|rw[y]
end
section
open Go Go.RowKit Tryz Go.IntWalk Go.Shelf
theorem FU {t:Ty}(r:t.may):∃f,LV UY t.kind=some (.func (.func f) #[] #[]) /\ (f=268 /\ t.kind=1∨f=270 /\ t.kind=3∨f=269 /\ (t.kind=2∨t.kind=4)):=by
 obtain⟨k,m,mk⟩:=t;have h1:=r.1;have h2:=r.2.1;simp only at h1 h2 ⊢;have y:k=1∨k=2∨k=3∨k=4:=O;rcases y with rfl|rfl|rfl|rfl
 ·exact⟨_,rfl,.inl ⟨rfl,rfl⟩⟩
 ·exact⟨_,rfl,.inr (.inr ⟨rfl,.inl rfl⟩)⟩
 ·exact⟨_,rfl,.inr (.inl ⟨rfl,rfl⟩)⟩
 ·exact⟨_,rfl,.inr (.inr ⟨rfl,.inr rfl⟩)⟩
theorem jG (t:Ty)(n:Nat)(U:t.err n=0):∃f,LV UY t.kind=some (.func (.func f) #[] #[]) /\ (∀args w,(callFunc f args).run prog w=.ok (.enter f args) w) /\ ∀w,Calls prog f #[NZ t n] w fun e w'=>e=.returned (iV (t.slots n:Nat)) /\ Below w.heap.size w w':=by
 obtain⟨E,Z,h1,h2⟩:=L3.1 U;obtain⟨f,V,G⟩:=FU E;have J:=GJ E (n:=n) O;have y:=E.2.2.1;refine⟨f,V,?_,fun w=>?_⟩
 · rcases G with⟨rfl,r⟩|⟨rfl,r⟩|⟨rfl,r⟩
   ·exact enters_of func268 kr rfl
   ·exact enters_of func270 kr rfl
   ·exact enters_of func269 kr rfl
 unfold Ty.slots at J ⊢;rcases G with⟨rfl,r⟩|⟨rfl,r⟩|⟨rfl,r⟩
 · rw[v_ r]
   have:=PD w t n
   rwa [show((t.words.toNat:Nat):Int)=t.words by unfold low at y;rw[r]at y;simp at y;omega]
 · rw[y_ O,v_ r]at J ⊢
   have M:((t.words.toNat:Nat):Int)=t.words:=(by unfold low at y;rw[r]at y;simp at y;omega);have N:((n*t.words.toNat:Nat):Int)=(n:Int)*t.words:=(by rw[Int.natCast_mul,M]);rw[N];exact PF w t n O O
 · rw[y_ O,y_ O]
   exact jH w t n
theorem Y8 (w:World)(t:Ty)(n:Nat)(he:t.err n=0):Calls prog 224 #[NZ t n] w fun e w'=>e=.returned (iV (t.slots n:Nat)) /\ Below w.heap.size w w':=by
 obtain⟨f,hf,a8,y⟩:=jG t n he;obtain⟨k,m,mk⟩:=t;simp only at hf;have hB:=(T_ w.heap.size w).alloc (g_ _) (.cells #[yV k,iV m,uV mk,iV n] 345);have hR:(w.alloc (.cells #[yV k,iV m,uV mk,iV n] 345)).rangeAt w.heap.size 0 [yV k,iV m,uV mk,iV n]:=((r_ (C_ w)).alloc _).range1;have a9:(prog.info? 345).map (·.size)=some 4:=by kernel_rfl
 have HB:=uh hB;have U:=uh y;have Hf:=uh hf;clear hB y hf he
 go_enter func224,ntmps224
 go_upto_region 1 with fail
 refine J1 (fun W=>Below w.heap.size w W /\ w.heap.size<W.heap.size /\ W.drew.rangeAt w.heap.size 0 [yV k,iV m,uV mk,iV n]) ⟨HB.out,by simp,hR⟩ fun W hW=>?_;obtain⟨a1,a4,M⟩:=hW;have Z:=uh a1;clear a1 hR HB;refine F_ ?_;refine rG (S:=fun W'=>W'.rangeAt w.heap.size 0 [yV k,iV m,uV mk,iV n]) 8 ?_;refine G2 1 4 M ?_;refine G2 2 5 M ?_;refine N8 3 6 rfl rfl (by rfl) kr kr kr (fun _ _ _ _ h=>h) M (by(intro w' r;have hc:w'.cell? (aD w.heap.size 0)=some (yV k):=r 0 _ rfl;clear r;go_simp;try rfl)) ?_;simp only[G7,G6];refine XM 5 8 M (fun w' r=>Xa 345 _ rfl w.heap.size 0 rfl [yV k,iV m,uV mk,iV n] _ r underlying345 rfl a9) ?_;refine G5 0 (fun K J=>?_)
 go_simp
 refine(gB _).mono ?_;rintro e V ⟨rfl,ob,ho,E⟩
 have a6:(Instr.lookup 368 (.map (some W.heap.size)) (yV k) false).run prog V=.ok (.func (.func f) #[] #[]) V:=by
  have h:=Na (E.has.own _ _ (d_ ..)) ho underlying368 underlying5 (Tryz.zeroValue367 _) k false;rw[Hf.out]at h;exact h
 have a5:w.heap.size<V.heap.size:=Zt a4 E.size;have N:V.rangeAt w.heap.size 0 [yV k,iV m,uV mk,iV n]:=fun j v hv=>(E.below.cell (p:=(aD w.heap.size (0+j))) a4).trans (M j v hv);have a0:=uh (Z.out.drew.trans (E.below.mono Z.out.size));clear ho E;refine J.out _ _ N fun _=>?_;simp only[Zq,Xf];refine Zf (rs:=[4]) kr (by simp) (H_ rfl (fun K2 a2=>?_) Zd)
 go_simp
 refine a2.out _ _ N fun _=>?_;clear J K a2 K2 a6;simp only[Gb,G7,G6];refine G5 6 (fun K J=>?_)
 go_simp
 refine(U.out _).mono ?_;rintro e W3 ⟨rfl,G⟩;have a3:W3.rangeAt w.heap.size 0 [yV k,iV m,uV mk,iV n]:=fun j v hv=>(G.cell (p:=(aD w.heap.size (0+j))) a5).trans (N j v hv);have a7:=uh (a0.out.trans (G.mono a0.out.size));clear G;refine J.out _ _ a3 fun _=>?_;clear J K;simp only[Gb,G7,G6];refine G2 7 2 a3 ?_;refine P_ kr ?_ _;refine z_ ?_
 go_wp2
 go_ret;exact⟨rfl,a7.out⟩
end
section
open Go Go.RowKit Tryz Go.IntWalk
theorem PC (w:World)(t:Ty)(ht:TyIn t)(n:Int):
  Calls prog 183 #[K7 t,iV n] w fun e w'=>e=.returned (.tuple #[iV (if t.err n=0 then((t.slots n.toNat:Nat):Int)else 0),iV (t.err n)]) /\ Below w.heap.size w w':=by
 have Z:(prog.info? 345).map (·.size)=some 4:=by kernel_rfl
 by_cases G:t.err n=0
 · obtain⟨hm,h0,h1,h2⟩:=L3.1 G
   obtain⟨n,rfl⟩:∃m:Nat,n=m:=⟨n.toNat,by omega⟩;have r:=uh (fun W=>gE W t ht n);rw[G,RX G]at r;have a1:=uh (fun W=>Y8 W t n G);have a4:=GJ hm (n:=n) O;rw[G,v_ rfl];clear G hm h0 h1 h2;obtain⟨k,m,mk⟩:=t;simp only[Qs];generalize Ty.slots ⟨k,m,mk⟩ n=sl at*;have U:=(r_ (C_ w)).alloc (.cells #[yV k,iV m,uV mk] 79);have y:=uh U;clear U;have V:(#[yV k,iV m,uV mk,iV n]:Array Value).all (·.oneCell')=true:=Yn (cs:=[yV k,iV m,uV mk,iV n]) (by simp[Value.oneCell'])
   go_enter func183,ntmps183
   go_wp2_with fail
   refine(r.out _).mono ?_;rintro e w1 ⟨rfl,E⟩;have J:=(y.out.call E).alloc (.cells #[yV 0,iV 0,uV 0,iV 0] 345);have a0:(w1.alloc (.cells #[yV 0,iV 0,uV 0,iV 0] 345)).there w1.heap.size 0 4:=J.there1;have M:=J.laid [yV k,iV m,uV mk,iV n] rfl;have a3:=M.range1;have N:=uh M;clear J M E y r
   go_wp2_with (first
    | (show sW 345;refine h_ rfl 345 _ _ rfl _ 0 #[yV k,iV m,uV mk,iV n] rfl rfl a0 Z V ?_)
    | (show lW 345;refine J_ rfl 345 _ rfl w1.heap.size 0 rfl [yV k,iV m,uV mk,iV n] _ a3 underlying345 rfl Z ?_)
    | (go_at_call 224;refine(a1.out _).mono ?_;rintro e w2 ⟨rfl,a2⟩)
    | fail)
   refine f_ (E_ rfl _ _ _) rfl ?_;exact⟨rfl,(N.out.call a2).below⟩
 · skip
   have r:=uh (fun W=>gE W t ht n);have hz:MQ t n=.agg #[yV 0,iV 0,uV 0,iV 0]:=(by unfold MQ MH;rw[y_ G]);rw[hz]at r;rw[y_ G];clear hz;generalize t.err n=er at*;obtain⟨k,m,mk⟩:=t;have U:=(r_ (C_ w)).alloc (.cells #[yV k,iV m,uV mk] 79);have y:=uh U;clear U;have V:(#[yV 0,iV 0,uV 0,iV 0]:Array Value).all (·.oneCell')=true:=Yn (cs:=[yV 0,iV 0,uV 0,iV 0]) (by simp[Value.oneCell'])
   go_enter func183,ntmps183
   go_wp2_with fail
   refine(r.out _).mono ?_;rintro e w1 ⟨rfl,E⟩;have J:=(y.out.call E).alloc (.cells #[yV 0,iV 0,uV 0,iV 0] 345);have a0:(w1.alloc (.cells #[yV 0,iV 0,uV 0,iV 0] 345)).there w1.heap.size 0 4:=J.there1;have M:=J.laid [yV 0,iV 0,uV 0,iV 0] rfl;have N:=uh M;clear J M E y r
   go_wp2_with (first
    | (show sW 345;refine h_ rfl 345 _ _ rfl _ 0 #[yV 0,iV 0,uV 0,iV 0] rfl rfl a0 Z V ?_)
    | fail)
   refine f_ (E_ rfl _ _ _) rfl ?_;exact⟨rfl,N.out.below⟩
theorem gC (w:World)(t:Ty)(ht:TyIn t)(n:Int):
  Calls prog 178 #[K7 t,iV n] w fun e w'=>e=.returned (.tuple #[iV (if t.err n=0 then((t.size n.toNat:Nat):Int)else 0),iV (t.err n)]) /\ Below w.heap.size w w':=by
 have Z:(prog.info? 345).map (·.size)=some 4:=by kernel_rfl
 by_cases G:t.err n=0
 · obtain⟨hm,h0,h1,h2⟩:=L3.1 G
   obtain⟨n,rfl⟩:∃m:Nat,n=m:=⟨n.toNat,by omega⟩;have r:=uh (fun W=>gE W t ht n);rw[G,RX G]at r;have a1:=uh (fun W=>Y8 W t n G);have a4:=GJ hm (n:=n) O;rw[G,v_ rfl];clear G hm h0 h1 h2;obtain⟨k,m,mk⟩:=t;simp only[Qs];unfold Ty.size;generalize Ty.slots ⟨k,m,mk⟩ n=sl at*;have U:=(r_ (C_ w)).alloc (.cells #[yV k,iV m,uV mk] 79);have y:=uh U;clear U;have V:(#[yV k,iV m,uV mk,iV n]:Array Value).all (·.oneCell')=true:=Yn (cs:=[yV k,iV m,uV mk,iV n]) (by simp[Value.oneCell'])
   go_enter func178,ntmps178
   go_wp2_with fail
   refine(r.out _).mono ?_;rintro e w1 ⟨rfl,E⟩;have J:=(y.out.call E).alloc (.cells #[yV 0,iV 0,uV 0,iV 0] 345);have a0:(w1.alloc (.cells #[yV 0,iV 0,uV 0,iV 0] 345)).there w1.heap.size 0 4:=J.there1;have M:=J.laid [yV k,iV m,uV mk,iV n] rfl;have a3:=M.range1;have N:=uh M;clear J M E y r
   go_wp2_with (first
    | (show sW 345;refine h_ rfl 345 _ _ rfl _ 0 #[yV k,iV m,uV mk,iV n] rfl rfl a0 Z V ?_)
    | (show lW 345;refine J_ rfl 345 _ rfl w1.heap.size 0 rfl [yV k,iV m,uV mk,iV n] _ a3 underlying345 rfl Z ?_)
    | (go_at_call 224;refine(a1.out _).mono ?_;rintro e w2 ⟨rfl,a2⟩)
    | fail)
   refine f_ (E_ rfl _ _ _) rfl ?_;exact⟨by rw[show(((sl+2)/2:Nat):Int)=((sl:Int)+2)/2 by omega];rfl,(N.out.call a2).below⟩
 · skip
   have r:=uh (fun W=>gE W t ht n);have hz:MQ t n=.agg #[yV 0,iV 0,uV 0,iV 0]:=(by unfold MQ MH;rw[y_ G]);rw[hz]at r;rw[y_ G];clear hz;generalize t.err n=er at*;obtain⟨k,m,mk⟩:=t;have U:=(r_ (C_ w)).alloc (.cells #[yV k,iV m,uV mk] 79);have y:=uh U;clear U;have V:(#[yV 0,iV 0,uV 0,iV 0]:Array Value).all (·.oneCell')=true:=Yn (cs:=[yV 0,iV 0,uV 0,iV 0]) (by simp[Value.oneCell'])
   go_enter func178,ntmps178
   go_wp2_with fail
   refine(r.out _).mono ?_;rintro e w1 ⟨rfl,E⟩;have J:=(y.out.call E).alloc (.cells #[yV 0,iV 0,uV 0,iV 0] 345);have a0:(w1.alloc (.cells #[yV 0,iV 0,uV 0,iV 0] 345)).there w1.heap.size 0 4:=J.there1;have M:=J.laid [yV 0,iV 0,uV 0,iV 0] rfl;have N:=uh M;clear J M E y r
   go_wp2_with (first
    | (show sW 345;refine h_ rfl 345 _ _ rfl _ 0 #[yV 0,iV 0,uV 0,iV 0] rfl rfl a0 Z V ?_)
    | fail)
   refine f_ (E_ rfl _ _ _) rfl ?_;exact⟨rfl,N.out.below⟩
theorem EA {t:Ty}(r:TyIn t):t.may↔(1 <= t.kind /\ t.kind <= 4 /\ low t.kind <= t.words /\ t.words <= high t.kind) /\ ∀i,t.words.toNat <= i -> i<64 -> t.mask/2^i%2=0:=by
 unfold Ty.may;rw[AF (n:=t.words.toNat) (by have:=r.mask;omega)]
 constructor
 · rintro⟨a,b,c,d,e⟩
   exact⟨⟨a,b,c,d⟩,e⟩
 · rintro⟨⟨a,b,c,d⟩,e⟩
   exact⟨a,b,c,d,e⟩
theorem JF (m j:Nat):((m:Int)/2^j).tmod 2=((m/2^j%2:Nat):Int):=by rw[Ku,Xg (Yb _),Int.natCast_emod];rfl
theorem jx (w:World)(t:Ty)(ht:TyIn t):Calls prog 235 #[K7 t] w fun e w'=>e=.returned (.bool (decide t.may)) /\ Below w.heap.size w w':=by
 have a5:=EA ht;obtain⟨k,n,m⟩:=t;obtain⟨h1,h2,h3,h4⟩:=ht;simp only at h1 h2 h3 h4 a5;have T1:=(r_ (C_ w)).alloc (.cells #[yV k,iV n,uV m] 79);have c0:=T1.cell1 0;have c1:=T1.cell1 1;have c2:=T1.cell1 2;have M:=uh T1.below;obtain⟨b,Hb⟩:∃b:Bool,Hid (b=decide (Ty.mk k n m).may):=⟨_,uh rfl⟩;rw[←Hb.out];have E:=uh a5;clear a5 T1;generalize hW:w.alloc (.cells #[yV k,iV n,uV m] 79)=W1 at*
 by_cases N:1 <= k /\ k <= 4 /\ low k <= n /\ n <= high k
 · have ab:0 <= n /\ n <= 64:=by
     unfold low high at N
     split at N<;>split at N<;>omega
   have HK:(k=1 /\ 0 <= n /\ n <= 64)∨(k=3 /\ 1 <= n /\ n <= 16)∨(k=2 /\ n=0)∨(k=4 /\ n=0):=by
    have hk:k=1∨k=2∨k=3∨k=4:=O;unfold low high at N;rcases hk with rfl|rfl|rfl|rfl<;>simp at N<;>omega
   have a7:=uh N;clear N;subst hW;rcases HK with⟨rfl,a,b'⟩|⟨rfl,a,b'⟩|⟨rfl,rfl⟩|⟨rfl,rfl⟩
   · obtain⟨p,rfl⟩:∃p:Nat,n=p:=⟨n.toNat,by omega⟩
     have e1:decide ((p:Int)<0)=false:=b_ O;have e2:decide ((64:Int)<(p:Int))=false:=b_ O;have e5:¬(p:Int)<0:=O;have e6:¬(64:Int)<(p:Int):=O
     go_enter func235,ntmps235
     go_wp2_with fail
     all_goals try(exfalso;omega)
     go_loopw [4] (fun Z wr=>Below w.heap.size w wr /\ wr.cell? (aD w.heap.size 2)=some (uV m) /\ ∃j:Nat,Z=iV j /\ p <= j /\ j <= 64 /\ ∀i,p <= i -> i<j -> m/2^i%2=0) (fun Z _=>64-(intOf Z).toNat)
     case atStart=>exact⟨M.out,c2,p,rfl,g_ _,by omega,fun i U V=>by omega⟩
     case round=>
      obtain⟨G,a0,j,rfl,a8,a9,J⟩:=hrel;have r:=uh G;clear G c0 c1 c2;have Hj:=uh J;clear J
      by_cases a2:j<64
      · have a4:(j:Int)<64:=O
        by_cases hb:m/2^j%2=1
        · have a3:((m:Int)/2^j).tmod 2=1:=by rw[JF];omega
          go_wp2
          go_ret
          have y:b=false:=by
           rw[Hb.out];exact b_ (fun h=>by have h9:=(E.out.1 h).2 j O a2;omega)
          exact⟨by rw[y];rfl,r.out⟩
        · have a1:m/2^j%2=0:=O
          have a3:(((m:Int)/2^j).tmod 2 == 1)=false:=(by rw[JF,j_];omega);have a6:¬((m:Int)/2^j).tmod 2=1:=(by rw[JF];omega);have hw:IntKind.i64.wrap ((j:Int)+1)=((j+1:Nat):Int):=(i64_in _ O).trans O
          go_wp2
          go_roundw
          case rel=>
           refine⟨r.out,a0,j+1,by go_num,by omega,by omega,fun i U V=>?_⟩
           by_cases h7:i=j
           ·rw[h7];exact a1
           ·exact Hj.out i U O
          case measure=>simp[intOf];omega
      · obtain rfl:j=64:=O
        go_wp2
        go_ret
        have y:b=true:=by
         rw[Hb.out];exact k_ (E.out.2 ⟨a7.out,fun i U V=>Hj.out i O V⟩)
        exact⟨by rw[y];rfl,r.out⟩
   · obtain⟨p,rfl⟩:∃p:Nat,n=p:=⟨n.toNat,by omega⟩
     have e1:decide ((p:Int)<1)=false:=b_ O;have e2:decide ((16:Int)<(p:Int))=false:=b_ O;have e5:¬(p:Int)<1:=O;have e6:¬(16:Int)<(p:Int):=O
     go_enter func235,ntmps235
     go_wp2_with fail
     all_goals try(exfalso;omega)
     go_loopw [4] (fun Z wr=>Below w.heap.size w wr /\ wr.cell? (aD w.heap.size 2)=some (uV m) /\ ∃j:Nat,Z=iV j /\ p <= j /\ j <= 64 /\ ∀i,p <= i -> i<j -> m/2^i%2=0) (fun Z _=>64-(intOf Z).toNat)
     case atStart=>exact⟨M.out,c2,p,rfl,g_ _,by omega,fun i U V=>by omega⟩
     case round=>
      obtain⟨G,a0,j,rfl,a8,a9,J⟩:=hrel;have r:=uh G;clear G c0 c1 c2;have Hj:=uh J;clear J
      by_cases a2:j<64
      · have a4:(j:Int)<64:=O
        by_cases hb:m/2^j%2=1
        · have a3:((m:Int)/2^j).tmod 2=1:=by rw[JF];omega
          go_wp2
          go_ret
          have y:b=false:=by
           rw[Hb.out];exact b_ (fun h=>by have h9:=(E.out.1 h).2 j O a2;omega)
          exact⟨by rw[y];rfl,r.out⟩
        · have a1:m/2^j%2=0:=O
          have a3:(((m:Int)/2^j).tmod 2 == 1)=false:=(by rw[JF,j_];omega);have a6:¬((m:Int)/2^j).tmod 2=1:=(by rw[JF];omega);have hw:IntKind.i64.wrap ((j:Int)+1)=((j+1:Nat):Int):=(i64_in _ O).trans O
          go_wp2
          go_roundw
          case rel=>
           refine⟨r.out,a0,j+1,by go_num,by omega,by omega,fun i U V=>?_⟩
           by_cases h7:i=j
           ·rw[h7];exact a1
           ·exact Hj.out i U O
          case measure=>simp[intOf];omega
      · obtain rfl:j=64:=O
        go_wp2
        go_ret
        have y:b=true:=by
         rw[Hb.out];exact k_ (E.out.2 ⟨a7.out,fun i U V=>Hj.out i O V⟩)
        exact⟨by rw[y];rfl,r.out⟩
   · go_enter func235,ntmps235
     go_wp2_with fail
     go_loopw [4] (fun Z wr=>Below w.heap.size w wr /\ wr.cell? (aD w.heap.size 2)=some (uV m) /\ ∃j:Nat,Z=iV j /\ 0 <= j /\ j <= 64 /\ ∀i,0 <= i -> i<j -> m/2^i%2=0) (fun Z _=>64-(intOf Z).toNat)
     case atStart=>exact⟨M.out,c2,0,rfl,g_ _,by omega,fun i U V=>by omega⟩
     case round=>
      obtain⟨G,a0,j,rfl,a8,a9,J⟩:=hrel;have r:=uh G;clear G c0 c1 c2;have Hj:=uh J;clear J
      by_cases a2:j<64
      · have a4:(j:Int)<64:=O
        by_cases hb:m/2^j%2=1
        · have a3:((m:Int)/2^j).tmod 2=1:=by rw[JF];omega
          go_wp2
          go_ret
          have y:b=false:=by
           rw[Hb.out];exact b_ (fun h=>by have h9:=(E.out.1 h).2 j O a2;omega)
          exact⟨by rw[y];rfl,r.out⟩
        · have a1:m/2^j%2=0:=O
          have a3:(((m:Int)/2^j).tmod 2 == 1)=false:=(by rw[JF,j_];omega);have a6:¬((m:Int)/2^j).tmod 2=1:=(by rw[JF];omega);have hw:IntKind.i64.wrap ((j:Int)+1)=((j+1:Nat):Int):=(i64_in _ O).trans O
          go_wp2
          go_roundw
          case rel=>
           refine⟨r.out,a0,j+1,by go_num,by omega,by omega,fun i U V=>?_⟩
           by_cases h7:i=j
           ·rw[h7];exact a1
           ·exact Hj.out i U O
          case measure=>simp[intOf];omega
      · obtain rfl:j=64:=O
        go_wp2
        go_ret
        have y:b=true:=by
         rw[Hb.out];exact k_ (E.out.2 ⟨a7.out,fun i U V=>Hj.out i O V⟩)
        exact⟨by rw[y];rfl,r.out⟩
   · go_enter func235,ntmps235
     go_wp2_with fail
     go_loopw [4] (fun Z wr=>Below w.heap.size w wr /\ wr.cell? (aD w.heap.size 2)=some (uV m) /\ ∃j:Nat,Z=iV j /\ 0 <= j /\ j <= 64 /\ ∀i,0 <= i -> i<j -> m/2^i%2=0) (fun Z _=>64-(intOf Z).toNat)
     case atStart=>exact⟨M.out,c2,0,rfl,g_ _,by omega,fun i U V=>by omega⟩
     case round=>
      obtain⟨G,a0,j,rfl,a8,a9,J⟩:=hrel;have r:=uh G;clear G c0 c1 c2;have Hj:=uh J;clear J
      by_cases a2:j<64
      · have a4:(j:Int)<64:=O
        by_cases hb:m/2^j%2=1
        · have a3:((m:Int)/2^j).tmod 2=1:=by rw[JF];omega
          go_wp2
          go_ret
          have y:b=false:=by
           rw[Hb.out];exact b_ (fun h=>by have h9:=(E.out.1 h).2 j O a2;omega)
          exact⟨by rw[y];rfl,r.out⟩
        · have a1:m/2^j%2=0:=O
          have a3:(((m:Int)/2^j).tmod 2 == 1)=false:=(by rw[JF,j_];omega);have a6:¬((m:Int)/2^j).tmod 2=1:=(by rw[JF];omega);have hw:IntKind.i64.wrap ((j:Int)+1)=((j+1:Nat):Int):=(i64_in _ O).trans O
          go_wp2
          go_roundw
          case rel=>
           refine⟨r.out,a0,j+1,by go_num,by omega,by omega,fun i U V=>?_⟩
           by_cases h7:i=j
           ·rw[h7];exact a1
           ·exact Hj.out i U O
          case measure=>simp[intOf];omega
      · obtain rfl:j=64:=O
        go_wp2
        go_ret
        have y:b=true:=by
         rw[Hb.out];exact k_ (E.out.2 ⟨a7.out,fun i U V=>Hj.out i O V⟩)
        exact⟨by rw[y];rfl,r.out⟩
 · have aa:b=false:=by rw[Hb.out,b_ (fun h=>N (E.out.1 h).1)]
   rw[aa]
   have ag:¬(k=1 /\ 0 <= n /\ n <= 64) /\ ¬(k=3 /\ 1 <= n /\ n <= 16) /\ ¬(k=2 /\ n=0) /\ ¬(k=4 /\ n=0):=by
    refine⟨?_,?_,?_,?_⟩<;>rintro⟨rfl,h⟩<;>apply N<;>simp[low,high]<;>omega
   clear Hb N E;subst hW
   go_enter func235,ntmps235
   by_cases k1:k=1
   · subst k1
     have hc:n<0∨64<n:=O;rcases hc with hc|hc
     all_goals
      have af:¬(n<0)∨n<0:=O
      go_wp2
      go_ret;exact⟨rfl,M.out⟩
   by_cases k3:k=3
   · subst k3
     have hc:n<1∨1 <= n /\ 16<n:=O;rcases hc with hc|hc
     · go_wp2
       go_ret;exact⟨rfl,M.out⟩
     · have ac:¬n<1:=O
       have ae:n > 16:=hc.2;clear hc
       go_wp2
       go_ret;exact⟨rfl,M.out⟩
   by_cases k2:k=2
   · subst k2
     have hc:¬n=0:=O
     go_wp2
     go_ret;exact⟨rfl,M.out⟩
   by_cases k4:k=4
   · subst k4
     have hc:¬n=0:=O
     go_wp2
     go_ret;exact⟨rfl,M.out⟩
   · have q1:¬(k:Int)=1:=O
     have q2:¬(k:Int)=2:=O;have q3:¬(k:Int)=3:=O;have q4:¬(k:Int)=4:=O;clear k1 k2 k3 k4
     go_wp2
     go_ret;exact⟨rfl,M.out⟩
theorem FZ (m j:Nat):(((m:Int)/2^j).tmod 2 == 1)=m.testBit j:=by
 rw[JF,Jb]
 by_cases h:m/2^j%2=1
 ·rw[h];rfl
 · have r:m/2^j%2=0:=O
   rw[r];rfl
theorem P5 {m:Nat}(y:m<18446744073709551616)(j:Nat):(bits .and .u64 ((m:Int)/2^j) 1 == 1)=m.testBit j:=by
 have h:=u64_and_nat (m/2^j) 1 (Nat.lt_of_le_of_lt (Nat.div_le_self _ _) y) O;rw[show((1:Nat):Int)=1 from rfl]at h;rw[Ku,h,Nat.and_one_is_mod,Jb]
 by_cases h:m/2^j%2=1
 ·rw[h];rfl
 · have r:m/2^j%2=0:=O
   rw[r];rfl
theorem Y5 {t:Ty}(G:t.may):t.mask<18446744073709551616:=by
 obtain⟨h1,h2,J,r,y⟩:=G
 have E:t.words.toNat <= 64:=by
  unfold high at r
  split at r
  ·omega
  ·split at r<;>omega
 exact Zt y (Yf O E)
theorem CJ {t:Ty}(G:t.may)(E:t.kind=4):t.mask=0:=by
 obtain⟨h1,h2,J,r,y⟩:=G;unfold high at r;rw[E]at r;simp at r;rw[show t.words.toNat=0 by omega]at y;omega
theorem jZ (w:World)(t:Ty)(N:t.may)(s:Nat)(hs:s <= 65536)(h1:t.kind=1 -> s<64):Calls prog 236 #[K7 t,iV s] w fun e w'=>e=.returned (.bool (t.ref s)) /\ Below w.heap.size w w':=by
 obtain⟨k,n,m⟩:=t;have Z:=N.1;have V:=N.2.1;have y:=N.2.2.1;have r:=N.2.2.2.1;simp only at Z V y r h1;have M:=(r_ (C_ w)).alloc (.cells #[yV k,iV n,uV m] 79);have c0:=M.cell1 0;have c1:=M.cell1 1;have c2:=M.cell1 2;have J:=uh M.below;have G:=uh (FZ m);clear M N;have U:k=1∨k=2∨k=3∨k=4:=O;rcases U with rfl|rfl|rfl|rfl
 · have a1:=h1 rfl
   have E:(Ty.mk 1 n m).ref s=m.testBit s:=rfl;rw[E,←G.out];clear E G y r
   go_enter func236,ntmps236
   go_wp2
   go_ret;exact⟨rfl,J.out⟩
 · have E:(Ty.mk 2 n m).ref s=true:=rfl
   rw[E];clear E G y r
   go_enter func236,ntmps236
   go_wp2
   go_ret;exact⟨rfl,J.out⟩
 · obtain⟨p,rfl⟩:∃p:Nat,n=p:=⟨n.toNat,by simp[low]at y;omega⟩
   have hp:1 <= p /\ p <= 16:=(by simp[low]at y;simp[high]at r;omega);have E:(Ty.mk 3 p m).ref s=m.testBit (s%p):=rfl;rw[E,←G.out];have a0:((s:Int)).tmod (p:Int)=((s%p:Nat):Int):=(by rw[Xg O,Int.natCast_emod]);have a2:¬(p:Int)=0:=O;have a3:s%p<p:=Nat.mod_lt _ O;clear E G y r;generalize s%p=q at*
   go_enter func236,ntmps236
   go_wp2_with fail
   go_region
   go_wp2
   go_ret;exact⟨rfl,J.out.drew⟩
 · have E:(Ty.mk 4 n m).ref s=false:=rfl
   rw[E];clear E G y r
   go_enter func236,ntmps236
   go_wp2
   go_ret;exact⟨rfl,J.out⟩
theorem jE (w:World)(t:Ty)(n:Nat)(M:t.may)(s:Nat)(hs:s <= 65536)(h1:t.kind=1 -> s<64):Calls prog 271 #[NZ t n,iV s] w fun e w'=>e=.returned (.bool (t.ref s)) /\ Below w.heap.size w w':=by
 obtain⟨k,x,m⟩:=t;have hk:=M.1;have Z:=Y5 M;have V:=CJ M;simp only at Z V;have a2:=M.2.1;have y:=M.2.2.1;have r:=M.2.2.2.1;simp only at hk a2 y r h1;have U:=(r_ (C_ w)).alloc (.cells #[yV k,iV x,uV m,iV n] 345);have c0:=U.cell1 0;have c1:=U.cell1 1;have c2:=U.cell1 2;have c3:=U.cell1 3;have J:=uh U.below;have G:=uh (P5 Z);clear U M;have a1:k=1∨k=2∨k=3∨k=4:=O;rcases a1 with rfl|rfl|rfl|rfl
 · have a0:=h1 rfl
   have E:(Ty.mk 1 x m).ref s=m.testBit s:=rfl;rw[E,←G.out];clear E y r G
   go_enter func271,ntmps271
   go_wp2
   go_ret;exact⟨rfl,J.out⟩
 · have E:(Ty.mk 2 x m).ref s=true:=rfl
   rw[E];clear E y r G
   go_enter func271,ntmps271
   go_wp2
   go_ret;exact⟨rfl,J.out⟩
 · obtain⟨p,rfl⟩:∃p:Nat,x=p:=⟨x.toNat,by simp[low]at y;omega⟩
   have hp:1 <= p /\ p <= 16:=(by simp[low]at y;simp[high]at r;omega);have E:(Ty.mk 3 p m).ref s=m.testBit (s%p):=rfl;rw[E,←G.out];have a4:((s:Int)).tmod (p:Int)=((s%p:Nat):Int):=(by rw[Xg O,Int.natCast_emod]);have a3:((s:Int))%(p:Int)=((s%p:Nat):Int):=(by rw[Int.natCast_emod]);have a5:¬(p:Int)=0:=O;have a6:s%p<p:=Nat.mod_lt _ O;clear E y r G;generalize s%p=q at*
   go_enter func271,ntmps271
   go_wp2
   go_ret;exact⟨rfl,J.out⟩
 · obtain rfl:=V rfl
   have E:(Ty.mk 4 x 0).ref s=false:=rfl;rw[E];have N:=G.out s;rw[Nat.zero_testBit]at N;clear E y r G
   by_cases a0:s<64
   · go_enter func271,ntmps271
     go_wp2
     go_ret;refine⟨?_,J.out⟩
     first|rfl|(rw[←N];rfl)|(simp at N ⊢;exact N)
   · go_enter func271,ntmps271
     go_wp2
     go_ret;refine⟨?_,J.out⟩
     first|rfl|(rw[←N];rfl)|(simp at N ⊢;exact N)
theorem Vy {t:Ty}{n:Int}(h:¬t.may∨n<0∨t.kind=1 /\ n≠0):t.err n=2:=by unfold Ty.err;rw[v_ h]
theorem Dc {t:Ty}{n:Int}(y:t.may)(E:4096<n)(r:¬(t.kind=1 /\ n≠0)):t.err n=5:=by
 unfold Ty.err;rw[y_ (fun h=>by rcases h with h|h|h;exact h y;omega;exact r h),v_ E]
theorem Db {t:Ty}{n:Int}(y:t.may)(E:0 <= n)(G:n <= 4096)(r:¬(t.kind=1 /\ n≠0)):t.err n=0:=by
 unfold Ty.err;rw[y_ (fun h=>by rcases h with h|h|h;exact h y;omega;exact r h),y_ O]
theorem Vg (w:World)(t:Ty)(ht:TyIn t)(n:Int):
  Calls prog 206 #[K7 t,iV n] w fun e w'=>e=.returned (.tuple #[iV (if t.err n=0 then((t.slots n.toNat:Nat):Int)else 0),iV (t.err n)]) /\ Below w.heap.size w w':=by
 have E:=uh (fun W=>jx W t ht);have T1:=(r_ (C_ w)).alloc (.cells #[yV t.kind,iV t.words,uV t.mask] 79);have G:=uh T1;clear T1
 by_cases V:t.may
 · rw[k_ V]at E
   by_cases hA:n<0
   · rw[Vy (.inr (.inl hA))]
     obtain⟨k,m,mk⟩:=t;have e1:decide (n<0)=true:=k_ hA
     go_enter func206,ntmps206
     go_wp2_with fail
     refine(E.out _).mono ?_;rintro e w2 ⟨rfl,y⟩;have r:=G.out.call y;have c0:=r.cell1 0;have c1:=r.cell1 1;have J:=uh r.below;clear r y G E
     go_wp2
     refine f_ (E_ rfl _ _ _) rfl ?_;exact⟨rfl,J.out⟩
   have e1:decide (n<0)=false:=b_ hA
   by_cases U:t.kind=1 /\ n≠0
   · rw[Vy (.inr (.inr U))]
     obtain⟨k,m,mk⟩:=t;obtain⟨rfl,U⟩:=U;have e2:(n != 0)=true:=by simpa using U
     go_enter func206,ntmps206
     go_wp2_with fail
     refine(E.out _).mono ?_;rintro e w2 ⟨rfl,y⟩;have r:=G.out.call y;have c0:=r.cell1 0;have c1:=r.cell1 1;have J:=uh r.below;clear r y G E
     go_wp2
     refine f_ (E_ rfl _ _ _) rfl ?_;exact⟨rfl,J.out⟩
   by_cases hC:4096<n
   · rw[Dc V hC U]
     obtain⟨k,m,mk⟩:=t;have hk:¬(k:Int)=1:=fun h=>U ⟨by simp only;omega,by omega⟩;have a4:((k:Int) == 1)=false:=(by simpa using hk);clear U
     go_enter func206,ntmps206
     go_wp2_with fail
     refine(E.out _).mono ?_;rintro e w2 ⟨rfl,y⟩;have r:=G.out.call y;have c0:=r.cell1 0;have c1:=r.cell1 1;have J:=uh r.below;clear r y G E
     go_wp2
     refine f_ (E_ rfl _ _ _) rfl ?_;exact⟨rfl,J.out⟩
   rw[Db V O O U,v_ rfl];obtain⟨q,rfl⟩:∃q:Nat,n=q:=⟨n.toNat,by omega⟩;have a0:=GJ V (n:=q) O;obtain⟨k,m,mk⟩:=t;have a2:=V.1;have a3:=V.2.1;have M:=V.2.2.1;have N:=V.2.2.2.1;simp only at a2 a3 M N U;have a1:k=1∨k=2∨k=3∨k=4:=O;clear V;simp only[Qs];rcases a1 with rfl|rfl|rfl|rfl
   · obtain rfl:q=0:=O
     obtain⟨p,rfl⟩:∃p:Nat,m=p:=⟨m.toNat,by simp[low]at M;omega⟩;have Z:(Ty.mk 1 p mk).slots 0=p:=rfl;rw[Z];clear Z U M N a0
     go_enter func206,ntmps206
     go_wp2_with fail
     refine(E.out _).mono ?_;rintro e w2 ⟨rfl,y⟩;have r:=G.out.call y;have c0:=r.cell1 0;have c1:=r.cell1 1;have J:=uh r.below;clear r y G E
     go_wp2
     refine f_ (E_ rfl _ _ _) rfl ?_;exact⟨rfl,J.out⟩
   · have Z:(Ty.mk 2 m mk).slots q=q:=rfl
     rw[Z];clear Z U M N a0
     go_enter func206,ntmps206
     go_wp2_with fail
     refine(E.out _).mono ?_;rintro e w2 ⟨rfl,y⟩;have r:=G.out.call y;have c0:=r.cell1 0;have c1:=r.cell1 1;have J:=uh r.below;clear r y G E
     go_wp2
     refine f_ (E_ rfl _ _ _) rfl ?_;exact⟨rfl,J.out⟩
   · obtain⟨p,rfl⟩:∃p:Nat,m=p:=⟨m.toNat,by simp[low]at M;omega⟩
     have Z:(Ty.mk 3 p mk).slots q=q*p:=rfl;rw[Z]at a0 ⊢;have hw:IntKind.i64.wrap ((q:Int)*(p:Int))=((q*p:Nat):Int):=(by rw[←Int.natCast_mul];exact i64_in _ O);clear Z U M N;generalize q*p=z at*
     go_enter func206,ntmps206
     go_wp2_with fail
     refine(E.out _).mono ?_;rintro e w2 ⟨rfl,y⟩;have r:=G.out.call y;have c0:=r.cell1 0;have c1:=r.cell1 1;have J:=uh r.below;clear r y G E
     go_wp2
     refine f_ (E_ rfl _ _ _) rfl ?_;exact⟨rfl,J.out⟩
   · have Z:(Ty.mk 4 m mk).slots q=q:=rfl
     rw[Z];clear Z U M N a0
     go_enter func206,ntmps206
     go_wp2_with fail
     refine(E.out _).mono ?_;rintro e w2 ⟨rfl,y⟩;have r:=G.out.call y;have c0:=r.cell1 0;have c1:=r.cell1 1;have J:=uh r.below;clear r y G E
     go_wp2
     refine f_ (E_ rfl _ _ _) rfl ?_;exact⟨rfl,J.out⟩
 · rw[b_ V]at E
   rw[Vy (.inl V)];obtain⟨k,m,mk⟩:=t
   go_enter func206,ntmps206
   go_wp2_with fail
   refine(E.out _).mono ?_;rintro e w2 ⟨rfl,y⟩;have r:=G.out.call y;have c0:=r.cell1 0;have c1:=r.cell1 1;have J:=uh r.below;clear r y G E
   go_wp2
   refine f_ (E_ rfl _ _ _) rfl ?_;exact⟨rfl,J.out⟩
theorem g0 (w:World)(t:Ty)(ht:TyIn t)(n:Int):
  Calls prog 249 #[K7 t,iV n] w fun e w'=>e=.returned (.tuple #[iV (if t.err n=0 then((t.size n.toNat:Nat):Int)else 0),iV (t.err n)]) /\ Below w.heap.size w w':=by
 have r:=uh (fun W=>Vg W t ht n);have T1:=(r_ (C_ w)).alloc (.cells #[yV t.kind,iV t.words,uV t.mask] 79);have E:=uh T1;clear T1
 by_cases J:t.err n=0
 · obtain⟨hm,h0,hn,-⟩:=L3.1 J
   obtain⟨q,rfl⟩:∃q:Nat,n=q:=⟨n.toNat,by omega⟩;have a0:=GJ hm (n:=q) O;rw[J]at r ⊢;simp only[if_true,Qs]at r ⊢;unfold Ty.size;generalize t.slots q=s at*;obtain⟨z,Hz⟩:∃z:Nat,Hid (z=(s+2)/2):=⟨_,uh rfl⟩;rw[←Hz.out];clear J hm hn ht;obtain⟨k,m,mk⟩:=t
   go_enter func249,ntmps249
   go_wp2_with fail
   refine(r.out _).mono ?_;rintro e w2 ⟨rfl,y⟩;have G:=uh (E.out.call y).below;clear y E r
   go_wp2_with fail
   go_loopw [8] (fun U wr=>wr=w2 /\ ∃g:Nat,U=iV g /\ g <= s+1 /\ ∀j,j<g -> j*2<s+1) (fun U _=>s+2-(intOf U).toNat)
   case atStart=>exact⟨rfl,0,rfl,u_ _,fun j h=>by omega⟩
   case round=>
    obtain⟨rfl,g,rfl,hg,hj⟩:=hrel;have Z:=uh hj;clear hj
    by_cases M:g*2<s+1
    · have N:(g:Int)*2<(s:Int)+1:=O
      go_wp2
      go_roundw
      case rel=>
       refine⟨by first|trivial|rfl,g+1,by go_num,by omega,fun j h5=>?_⟩
       by_cases h7:j=g
       ·rw[h7];exact M
       ·exact Z.out j O
      case measure=>simp[intOf];omega
    · have N:¬(g:Int)*2<(s:Int)+1:=O
      have V:=uh (XS s g M Z.out)
      go_wp2
      refine f_ (E_ rfl _ _ _) rfl ?_;exact⟨by rw[Hz.out,←V.out];rfl,G.out⟩
 · rw[y_ J]at r ⊢
   generalize t.err n=er at*;obtain⟨k,m,mk⟩:=t
   go_enter func249,ntmps249
   go_wp2_with fail
   refine(r.out _).mono ?_;rintro e w2 ⟨rfl,y⟩;have G:=uh (E.out.call y).below;clear y E r
   go_wp2
   refine f_ (E_ rfl _ _ _) rfl ?_;exact⟨rfl,G.out⟩
theorem L4:Elem prog 136 3 1 8 (iV 0):=Jm underlying136 kr rfl
def J7 (l:List Nat):List Value:=l.map fun n=>iV (n:Nat)
theorem GS (a b:List Nat):J7 (a++b)=J7 a++J7 b:=by simp[J7]
theorem GX (a:List Nat):(J7 a).length=a.length:=by simp[J7]
def KJ (t:Ty)(j:Nat):List Nat:=(List.range j).filter t.ref
theorem S8 (t:Ty)(j:Nat):KJ t (j+1)=KJ t j++if t.ref j=true then [j]else []:=by
 unfold KJ;rw[Yk,Xv]
 congr 1
 by_cases h:t.ref j=true
 ·rw[v_ h,Xh h];rfl
 ·rw[y_ h,Xj h];rfl
theorem JV (t:Ty)(j:Nat):(KJ t j).length <= j:=by
 unfold KJ;refine Qf (Zm ..) ?_;rw[Xe];exact g_ _
theorem SU {t:Ty}(y:t.may)(n:Nat)(r:t.kind=1):t.slots n <= 64:=by
 obtain⟨-,-,h1,h2,-⟩:=y;unfold Ty.slots;unfold high at h2;rw[v_ r]at h2 ⊢;omega
theorem Fv (w:World)(t:Ty)(ht:TyIn t)(n:Nat)(he:t.err n=0):
  Calls prog 209 #[K7 t,iV n] w fun e w'=>∃ao cap l,e=.returned (.tuple #[.slice ao (t.refs n).length cap,iV 0]) /\ Gh 3 1 ao (t.refs n).length cap (J7 (t.refs n)) l /\ Turn [] w l w':=by
 have J:=uh (fun W=>Vg W t ht n);obtain⟨hm,h0,hn,-⟩:=L3.1 he;have aq:=GJ hm (n:=n) O;have a5:=SU hm n;have ac:=uh (fun W s hs h1=>jZ W t hm s hs h1);have hE:t.refs n=KJ t (t.slots n):=rfl;rw[hE];rw[he]at J;simp only[if_true,Qs]at J;generalize t.slots n=sl at*;have T1:=(r_ (C_ w)).alloc (.cells #[yV t.kind,iV t.words,uV t.mask] 79);have a0:=uh T1;have a7:=uh (S8 t);have a6:=uh (JV t);generalize hR:KJ t=R at*;have aa:=uh a5;have a3:R 0=[]:=by rw[←hR];rfl
 generalize ak:t.ref=rf at*;clear T1 he hm h0 hn hE hR ht a5 ak;obtain⟨k,m,mk⟩:=t
 go_enter func209,ntmps209
 go_wp2_with fail
 refine(J.out _).mono ?_;rintro e w2 ⟨rfl,a1⟩;have ab:=uh (a0.out.call a1);clear a1 a0 J
 go_wp2_with fail
 go_loopw [8,9] (fun v8 v9 wr=>∃(j:Nat) (U:Option Addr) (Z:Nat) (E:List Blk),j <= sl /\ v9=iV j /\ v8=.slice U (R j).length Z /\ Gh 3 1 U (R j).length Z (J7 (R j)) E /\ Turn [] w (E++[(w.heap.size,.cells #[yV k,iV m,uV mk] 79)]) wr) (fun _ v9 _=>sl-(intOf v9).toNat)
 case atStart=>exact⟨0,none,0,[],u_ _,rfl,by rw[a3];rfl,by rw[a3];exact Zb _ _,ab.out⟩
 case round=>
  obtain⟨j,U,Z,E,hj,rfl,rfl,N,V⟩:=hrel
  by_cases ap:j<sl
  · have am:(j:Int)<(sl:Int):=O
    have M:=V.has.cell (b:=w.heap.size) (c:=#[yV k,iV m,uV mk]) (e:=79) (f:=(0,0)) (by simp);have d0:wr.cell? (aD w.heap.size 0)=some (yV k):=M 0;have d1:wr.cell? (aD w.heap.size 1)=some (iV m):=M 1;have d2:wr.cell? (aD w.heap.size 2)=some (uV mk):=M 2;have hi:=uh (ac.out wr j O (fun hk=>by have:=aa.out hk;omega));have HV:=uh V;have G:=uh N;have an:=a6.out j;have r:=uh (a7.out j);have af:(R j).length+1 <= maxLen:=(by unfold maxLen;omega);clear M V N
    by_cases hb:rf j=true
    · rw[hb]at hi
      rw[v_ hb]at r;have ag:((R j).length+1)*8 <= 140737488355328:=O
      go_wp2_with (first
       | (go_at_call 236;refine hi.out.mono ?_;rintro e w3 ⟨rfl,y⟩;have T3:=uh ((HV.out.call y).alloc (.cells #[iV j] 3));clear y)
       | (at_builtin;refine K_ rfl _ _ rfl L4 rfl G.out (R:=[(w3.heap.size,.cells #[iV j] 3),(w.heap.size,.cells #[yV k,iV m,uV mk] 79)]) (T3.out.perm po).has rfl (news:=[iV j]) rfl (Qy (A_ _ _)) (by simp[Value.oneCell']) af ag ?_;intro a9 p9 l9 w4 a4 V4 aj;have V5:=uh ((T3.out.perm (l2:=E++[(w3.heap.size,.cells #[iV j] 3),(w.heap.size,.cells #[yV k,iV m,uV mk] 79)]) po).trans V4);have ae:=uh a4;clear a4 V4 aj)
       | fail)
      go_roundw
      case rel=>
       have a2:(R (j+1)).length=(R j).length+1:=(by rw[r.out];simp);refine⟨j+1,a9,p9,l9,by omega,by go_num,by rw[a2],?_,(V5.out.perm (l2:=(w3.heap.size,.cells #[iV j] 3)::(l9++[(w.heap.size,.cells #[yV k,iV m,uV mk] 79)])) po).tail⟩;rw[a2,r.out,GS];exact ae.out
      case measure=>simp[intOf];omega
    · rw[y_ hb,p_]at r
      have ah:rf j=false:=(by simpa using hb);rw[ah]at hi
      go_wp2_with (first
       | (go_at_call 236;refine hi.out.mono ?_;rintro e w3 ⟨rfl,y⟩;have T3:=uh (HV.out.call y);clear y)
       | fail)
      go_roundw
      case rel=>exact⟨j+1,U,Z,E,by omega,by go_num,by rw[r.out],by rw[r.out];exact G.out,T3.out⟩
      case measure=>simp[intOf];omega
  · obtain rfl:j=sl:=O
    have HV:=uh V;have G:=uh N;clear V N
    go_wp2
    refine f_ (E_ rfl _ _ _) rfl ?_;exact⟨U,Z,E,rfl,G.out,HV.out.sub (x_ E _)⟩
theorem gD (w:World)(t:Ty)(ht:TyIn t)(n:Nat)(he:t.err n=0):
  Calls prog 254 #[K7 t,iV n] w fun e w'=>∃ao cap l,e=.returned (.tuple #[.slice ao (t.refs n).length cap,iV 0]) /\ Gh 3 1 ao (t.refs n).length cap (J7 (t.refs n)) l /\ Turn [] w l w':=by
 have N:(prog.info? 345).map (·.size)=some 4:=by kernel_rfl
 have U:=uh (fun W=>gE W t ht n);rw[he,RX he]at U;have a3:=uh (fun W=>Y8 W t n he);obtain⟨hm,h0,hn,-⟩:=L3.1 he;have aE:=GJ hm (n:=n) O;have ae:=SU hm n;have an:=uh (fun W s hs h1=>jE W t n hm s hs h1);have hE:t.refs n=KJ t (t.slots n):=rfl;rw[hE];generalize t.slots n=sl at*;have T1:=(r_ (C_ w)).alloc (.cells #[yV t.kind,iV t.words,uV t.mask] 79);have a1:=uh T1;have ah:=uh (S8 t);have ag:=uh (JV t);generalize hR:KJ t=R at*;have ak:=uh ae;have a7:R 0=[]:=by rw[←hR];rfl
 generalize az:t.ref=rf at*;clear T1 he hm h0 hn hE hR ht ae az;obtain⟨k,m,mk⟩:=t;have ay:(#[yV k,iV m,uV mk,iV n]:Array Value).all (·.oneCell')=true:=Yn (cs:=[yV k,iV m,uV mk,iV n]) (by simp[Value.oneCell'])
 go_enter func254,ntmps254
 go_wp2_with fail
 refine(U.out _).mono ?_;rintro e w1 ⟨rfl,a4⟩;have T2:=(a1.out.call a4).alloc (.cells #[yV 0,iV 0,uV 0,iV 0] 345);have af:(w1.alloc (.cells #[yV 0,iV 0,uV 0,iV 0] 345)).there w1.heap.size 0 4:=T2.there1;have y:=T2.laid [yV k,iV m,uV mk,iV n] rfl;have aa:=y.range1;have a2:=uh y;clear T2 y a4 a1 U
 go_wp2_with (first
  | (show sW 345;refine h_ rfl 345 _ _ rfl _ 0 #[yV k,iV m,uV mk,iV n] rfl rfl af N ay ?_)
  | (show lW 345;refine J_ rfl 345 _ rfl w1.heap.size 0 rfl [yV k,iV m,uV mk,iV n] _ aa underlying345 rfl N ?_)
  | (go_at_call 224;refine(a3.out _).mono ?_;rintro e w2 ⟨rfl,a5⟩)
  | fail)
 have am:=uh (a2.out.call a5);generalize aj:(w.heap.size,Obj.cells #[yV k,iV m,uV mk] 79 (0,0))=BX at*;clear a5 a2 a3 aa af aj
 go_loopw [4,19] (fun v4 a0 wr=>∃(j:Nat) (Z:Option Addr) (p8:Nat) (G:List Blk),j <= sl /\ a0=iV j /\ v4=.slice Z (R j).length p8 /\ Gh 3 1 Z (R j).length p8 (J7 (R j)) G /\ Turn [] w (G++[(w1.heap.size,.cells #[yV k,iV m,uV mk,iV n] 345),BX]) wr) (fun _ a0 _=>sl-(intOf a0).toNat)
 case atStart=>exact⟨0,none,0,[],u_ _,rfl,by rw[a7];rfl,by rw[a7];exact Zb _ _,am.out⟩
 case round=>
  obtain⟨j,Z,p8,G,hj,rfl,rfl,M,V⟩:=hrel
  by_cases aC:j<sl
  · have aA:(j:Int)<(sl:Int):=O
    have ac:=V.has.range (b:=w1.heap.size) (c:=#[yV k,iV m,uV mk,iV n]) (e:=345) (f:=(0,0)) (by simp);have hi:=uh (an.out wr j O (fun hk=>by have:=ak.out hk;omega));have HV:=uh V;have J:=uh M;have aB:=ag.out j;have r:=uh (ah.out j);have aq:(R j).length+1 <= maxLen:=(by unfold maxLen;omega);clear V M
    by_cases hb:rf j=true
    · rw[hb]at hi
      rw[v_ hb]at r;have au:((R j).length+1)*8 <= 140737488355328:=O
      go_wp2_with (first
       | (show lW 345;refine J_ rfl 345 _ rfl w1.heap.size 0 rfl [yV k,iV m,uV mk,iV n] _ ac underlying345 rfl N ?_)
       | (go_at_call 271;refine hi.out.mono ?_;rintro e w3 ⟨rfl,E⟩;have y:=uh ((HV.out.call E).alloc (.cells #[iV j] 3));clear E)
       | (at_builtin;refine K_ rfl _ _ rfl L4 rfl J.out (R:=[(w3.heap.size,.cells #[iV j] 3),(w1.heap.size,.cells #[yV k,iV m,uV mk,iV n] 345),BX]) (y.out.perm po).has rfl (news:=[iV j]) rfl (Qy (A_ _ _)) (by simp[Value.oneCell']) aq au ?_;intro a9 p9 l9 w4 ab V4 ax;have V5:=uh ((y.out.perm (l2:=G++[(w3.heap.size,.cells #[iV j] 3),(w1.heap.size,.cells #[yV k,iV m,uV mk,iV n] 345),BX]) po).trans V4);have ap:=uh ab;clear ab V4 ax)
       | fail)
      go_roundw
      case rel=>
       have a6:(R (j+1)).length=(R j).length+1:=(by rw[r.out];simp);refine⟨j+1,a9,p9,l9,by omega,by go_num,by rw[a6],?_,(V5.out.perm (l2:=(w3.heap.size,.cells #[iV j] 3)::(l9++[(w1.heap.size,.cells #[yV k,iV m,uV mk,iV n] 345),BX])) po).tail⟩;rw[a6,r.out,GS];exact ap.out
      case measure=>simp[intOf];omega
    · rw[y_ hb,p_]at r
      have av:rf j=false:=(by simpa using hb);rw[av]at hi
      go_wp2_with (first
       | (show lW 345;refine J_ rfl 345 _ rfl w1.heap.size 0 rfl [yV k,iV m,uV mk,iV n] _ ac underlying345 rfl N ?_)
       | (go_at_call 271;refine hi.out.mono ?_;rintro e w3 ⟨rfl,E⟩;have y:=uh (HV.out.call E);clear E)
       | fail)
      go_roundw
      case rel=>exact⟨j+1,Z,p8,G,by omega,by go_num,by rw[r.out],by rw[r.out];exact J.out,y.out⟩
      case measure=>simp[intOf];omega
  · obtain rfl:j=sl:=O
    have HV:=uh V;have J:=uh M;clear V M
    go_wp2
    refine f_ (E_ rfl _ _ _) rfl ?_;exact⟨Z,p8,G,rfl,J.out,HV.out.sub (x_ G _)⟩
abbrev Kz (t:Ty):List Value:=[yV t.kind,iV t.words,uV t.mask]
def tys (L:List Ty):List Value:=L.flatMap Kz
theorem M3 (L:List Ty):(tys L).length=L.length*3:=by
 induction L with
 | nil=>rfl
 | cons a l ih=>
  show(Kz a++tys l).length=_
  rw[e_,ih,B_];simp;omega
theorem ZB {L:List Ty}{i:Nat}{t:Ty}(r:L[i]?= some t){j:Nat}(y:j<3):(tys L)[i*3+j]?= (Kz t)[j]? :=by
 induction L generalizing i with
 | nil=>cases r
 | cons a l ih=>
  show(Kz a++tys l)[i*3+j]?= _
  cases i with
  | zero=>
   have:a=t:=(by simpa using r);subst this;rw[Nat.zero_mul,Q_,Qz (by exact y)]
  | succ i=>
   rw[show(i+1)*3+j=3+(i*3+j)by omega,Qg (by show 3 <= _;omega)];rw[show 3+(i*3+j)-(Kz a).length=i*3+j from Yg ..];exact ih (by simpa using r)
theorem Src.ty {w:World}{b off n cap:Nat}{L:List Ty}(h:Src w (some (aD b off)) n cap 3 (tys L)){i:Nat}{t:Ty}(y:L[i]?= some t):w.rangeAt b (off+i*3) (Kz t):=by
 intro j v r;have E:j<3:=(m_.1 r).1;have h1:=h.at_ _ rfl (i*3+j) v (by rw[ZB y E];exact r);rw[KS]at h1;rw[Nat.add_assoc];exact h1
theorem range_below {w w':World}{b o:Nat}{cs:List Value}(h:w.rangeAt b o cs)(r:Below w.heap.size w w'):w'.rangeAt b o cs:=fun j v y=>by
 have h1:=h j v y;exact(r.cell (p:=(aD b (o+j))) (c_ w _ h1)).trans h1
theorem Src.below {w w':World}{ao:Option Addr}{n cap size:Nat}{xs:List Value}(h:Src w ao n cap size xs)(y:Below w.heap.size w w'):Src w' ao n cap size xs:=h.later fun b r=>y.block b r
def tyAt (L:List Ty)(id:Int):Ty:=(Kc L id).getD ⟨0,0,0⟩
def GH (L:List Ty)(id n:Int):Int:=match Kc L id with|none=>3|some t=>t.err n
def GY (L:List Ty)(id n:Int):Nat:=match Kc L id with|none=>0|some t=>if t.err n=0 then t.size n.toNat else 0
theorem KZ {L:List Ty}{r:Int}{t:Ty}(h:Kc L r=some t):∃k:Nat,r=k+1 /\ L[k]?= some t /\ k<L.length:=by
 unfold Kc at h
 split at h
 ·refine⟨(r-1).toNat,by omega,h,(m_.1 h).1⟩
 ·cases h
theorem TA {L:List Ty}{r:Int}(h:Kc L r=none):r<1∨(L.length:Int)<r:=by
 unfold Kc at h
 split at h
 · have:=List.getElem?_eq_none_iff.1 h
   omega
 ·omega
theorem Pk (w:World)(L:List Ty)(ao:Option Addr)(cap:Nat)(V:Src w ao L.length cap 3 (tys L))(hL:L.length <= 1000)(G:Int):
  Calls prog 221 #[.slice ao L.length cap,iV G] w fun e w'=>e=.returned (.tuple #[K7 (tyAt L G),iV (if (Kc L G).isSome then 0 else 3)]) /\ Below w.heap.size w w':=by
 have y:(prog.info? 79).map (·.size)=some 3:=by kernel_rfl
 have M:=(r_ (C_ w)).alloc zT;have U:(w.alloc zT).there w.heap.size 0 3:=M.there1;unfold tyAt
 cases Z:Kc L G with
 | none=>
  have E:=TA Z;have N:=M.laid [yV 0,iV 0,uV 0] rfl;have r:=uh N;have J:(#[yV 0,iV 0,uV 0]:Array Value).all (·.oneCell')=true:=Yn (cs:=[yV 0,iV 0,uV 0]) (by simp[Value.oneCell']);clear Z M N V;rcases E with E|E
  · have e1:decide (G<1)=true:=k_ E
    go_enter func221,ntmps221
    go_wp2_with (first
     | (show sW 79;refine h_ rfl 79 _ _ rfl _ 0 #[yV 0,iV 0,uV 0] rfl rfl U y J ?_)
     | fail)
    refine f_ (Gs results221 _ _ _ _ _ rfl r.out.range1 underlying79 rfl y) rfl ⟨rfl,r.out.below⟩
  · have e1:decide (G<1)=false:=b_ O
    have e2:decide ((L.length:Int)<G)=true:=k_ E;have e3:¬G<1:=O
    go_enter func221,ntmps221
    go_wp2_with (first
     | (show sW 79;refine h_ rfl 79 _ _ rfl _ 0 #[yV 0,iV 0,uV 0] rfl rfl U y J ?_)
     | fail)
    refine f_ (Gs results221 _ _ _ _ _ rfl r.out.range1 underlying79 rfl y) rfl ⟨rfl,r.out.below⟩
 | some t=>
  obtain⟨i,rfl,hi,a2⟩:=KZ Z;have a1:i <= 1000:=O;obtain⟨b,off,rfl,-⟩:=V.form (by rw[M3];omega);have a0:=range_below (V.ty hi) M.below;obtain⟨k,m,mk⟩:=t;have N:=M.laid (Kz ⟨k,m,mk⟩) rfl;have r:=uh N;have J:(#[yV k,iV m,uV mk]:Array Value).all (·.oneCell')=true:=Yn (cs:=[yV k,iV m,uV mk]) (by simp[Value.oneCell']);have e1:decide (((i:Int)+1)<1)=false:=b_ O;have e2:decide ((L.length:Int)<(i:Int)+1)=false:=b_ O;have e3:(i:Int)<(L.length:Int):=O;have e4:¬((L.length:Int)<(i:Int)+1):=O;clear Z M N V hi
  go_enter func221,ntmps221
  go_wp2_with (first
   | (show lW 79;refine J_ rfl 79 _ rfl b (off+i*3) rfl [yV k,iV m,uV mk] _ a0 underlying79 rfl y ?_)
   | (show sW 79;refine h_ rfl 79 _ _ rfl _ 0 #[yV k,iV m,uV mk] rfl rfl U y J ?_)
   | fail)
  refine f_ (Gs results221 _ _ _ _ _ rfl r.out.range1 underlying79 rfl y) rfl ⟨rfl,r.out.below⟩
abbrev Vu (h:Hd):List Value:=[yV h.tag,iV h.typ,iV h.len,iV h.size]
abbrev KM (h:Hd):Value:=.agg #[yV h.tag,iV h.typ,iV h.len,iV h.size]
abbrev AM:Hd:=⟨0,0,0,0⟩
structure HdIn (h:Hd):Prop where
 tag:h.tag <= 255
 typ:h.typ <= 9223372036854775807
 len:h.len <= 9223372036854775807
 size:h.size <= 9223372036854775807
theorem GP (h:Hd):(#[yV h.tag,iV h.typ,iV h.len,iV h.size]:Array Value).all (·.oneCell')=true:=Yn (cs:=Vu h) (by simp[Value.oneCell'])
theorem Gr:(prog.info? 125).map (·.size)=some 4:=by kernel_rfl
theorem JZ:(prog.info? 79).map (·.size)=some 3:=by kernel_rfl
theorem Py (w:World)(h:Hd)(hi:HdIn h):Calls prog 172 #[KM h] w fun e w'=>e=.returned (.bool (decide h.may)) /\ Below w.heap.size w w':=by
 obtain⟨a,b,c,d⟩:=h;obtain⟨i1,i2,i3,i4⟩:=hi;simp only at i1 i2 i3 i4;have N:=(r_ (C_ w)).alloc (.cells #[yV a,iV b,iV c,iV d] 125);have c0:=N.cell1 0;have c1:=N.cell1 1;have c2:=N.cell1 2;have c3:=N.cell1 3;have J:=uh N.below;have y:Hid ((Hd.mk a b c d).may↔1 <= d /\ d<16777216 /\ c<16777216 /\ (a=1 /\ 1 <= b /\ b <= 4095∨(a=2∨a=3) /\ b=0 /\ c=0)):=uh Iff.rfl;obtain⟨r,U⟩:∃r:Bool,Hid (r=decide (Hd.mk a b c d).may):=⟨_,uh rfl⟩;rw[←U.out];have G:(¬(Hd.mk a b c d).may) -> r=false:=fun V=>by rw[U.out];exact b_ V
 have E:(Hd.mk a b c d).may -> r=true:=fun V=>by rw[U.out];exact k_ V
 clear N U;have k3:decide ((c:Int)<0)=false:=b_ O
 by_cases a6:d<1
 · obtain rfl:=G (fun h=>by have:=y.out.1 h;omega)
   have k1:decide ((d:Int)<1)=true:=k_ O;clear y G E
   go_enter func172,ntmps172
   go_wp2
   go_ret;exact⟨rfl,J.out⟩
 have k1:decide ((d:Int)<1)=false:=b_ O;have n1:¬(d:Int)<1:=O
 by_cases a7:16777216 <= d
 · obtain rfl:=G (fun h=>by have:=y.out.1 h;omega)
   have k2:decide ((16777216:Int) <= (d:Int))=true:=k_ O;have n2:(16777216:Int) <= (d:Int):=O;clear y G E
   go_enter func172,ntmps172
   go_wp2
   go_ret;exact⟨rfl,J.out⟩
 have k2:decide ((16777216:Int) <= (d:Int))=false:=b_ O;have n2:¬(16777216:Int) <= (d:Int):=O
 by_cases a5:16777216 <= c
 · obtain rfl:=G (fun h=>by have:=y.out.1 h;omega)
   have k4:decide ((16777216:Int) <= (c:Int))=true:=k_ O;have n4:(16777216:Int) <= (c:Int):=O;clear y G E
   go_enter func172,ntmps172
   go_wp2
   go_ret;exact⟨rfl,J.out⟩
 have k4:decide ((16777216:Int) <= (c:Int))=false:=b_ O;have n4:¬(16777216:Int) <= (c:Int):=O
 by_cases Z:a=1
 · subst Z
   by_cases a3:b<1
   · obtain rfl:=G (fun h=>by have:=y.out.1 h;omega)
     have k5:decide ((1:Int) <= (b:Int))=false:=b_ O;have n5:¬(1:Int) <= (b:Int):=O;clear y G E
     go_enter func172,ntmps172
     go_wp2
     go_ret;exact⟨rfl,J.out⟩
   have k5:decide ((1:Int) <= (b:Int))=true:=k_ O;have n5:(1:Int) <= (b:Int):=O
   by_cases a4:4095<b
   · obtain rfl:=G (fun h=>by have:=y.out.1 h;omega)
     have k6:decide ((b:Int) <= 4095)=false:=b_ O;clear y G E
     go_enter func172,ntmps172
     go_wp2
     go_ret;exact⟨rfl,J.out⟩
   · obtain rfl:=E (y.out.2 ⟨by omega,by omega,by omega,.inl ⟨rfl,by omega,by omega⟩⟩)
     have k6:decide ((b:Int) <= 4095)=true:=k_ O;clear y G E
     go_enter func172,ntmps172
     go_wp2
     go_ret;exact⟨rfl,J.out⟩
 by_cases M:a=2∨a=3
 · by_cases a0:b=0
   · subst a0
     by_cases a2:c=0
     · subst a2
       obtain rfl:=E (y.out.2 ⟨by omega,by omega,by omega,.inr ⟨M,rfl,rfl⟩⟩);clear y G E;rcases M with rfl|rfl
       all_goals
        go_enter func172,ntmps172
        go_wp2
        go_ret;exact⟨rfl,J.out⟩
     · obtain rfl:=G (fun h=>by have:=y.out.1 h;omega)
       have k8:((c:Int) == 0)=false:=(by rw[j_];omega);have n8:¬(c:Int)=0:=O;clear y G E;rcases M with rfl|rfl
       all_goals
        go_enter func172,ntmps172
        go_wp2
        go_ret;exact⟨rfl,J.out⟩
   · obtain rfl:=G (fun h=>by have:=y.out.1 h;omega)
     have k7:((b:Int) == 0)=false:=(by rw[j_];omega);have n7:¬(b:Int)=0:=O;clear y G E;rcases M with rfl|rfl
     all_goals
      go_enter func172,ntmps172
      go_wp2
      go_ret;exact⟨rfl,J.out⟩
 · obtain rfl:=G (fun h=>by have:=y.out.1 h;omega)
   have q1:¬(a:Int)=1:=O;have q2:¬(a:Int)=2:=O;have q3:¬(a:Int)=3:=O;clear y G E Z M
   go_enter func172,ntmps172
   go_wp2
   go_ret;exact⟨rfl,J.out⟩
theorem PP (w:World)(h:Hd)(hi:HdIn h):Calls prog 219 #[KM h] w fun e w'=>e=.returned (.tuple #[uV (if h.may then((h.word:Nat):Int)else 0),iV (if h.may then 0 else 2)]) /\ Below w.heap.size w w':=by
 have r:=uh (fun W=>Py W h hi);have a1:=Gr
 by_cases G:h.may
 · rw[k_ G]at r
   rw[v_ G,v_ G];obtain⟨m1,m2,m3,Z⟩:=G;obtain⟨a,b,c,d⟩:=h;simp only at m1 m2 m3 Z;have a0:a <= 3 /\ b <= 4095:=O;obtain⟨z,U⟩:∃z:Nat,Hid (z=(Hd.mk a b c d).word):=⟨_,uh rfl⟩;rw[←U.out];have J:=(r_ (C_ w)).alloc (.cells #[yV a,iV b,iV c,iV d] 125);have V:=J.range1;have y:=uh J;clear J Z
   go_enter func219,ntmps219
   go_wp2_with fail
   refine(r.out _).mono ?_;rintro e w2 ⟨rfl,E⟩;have M:=y.out.call E;have c0:=M.cell1 0;have c1:=M.cell1 1;have c2:=M.cell1 2;have c3:=M.cell1 3;have N:=uh M.below;clear M E y r V
   go_wp2
   refine f_ (E_ rfl _ _ _) rfl ?_;refine⟨?_,N.out⟩;have hz:((z:Nat):Int)=(a:Int)+4*(b:Int)+65536*(c:Int)+1099511627776*(d:Int):=by rw[U.out];unfold Hd.word;simp only;omega
   rw[hz]
   rfl
 · rw[b_ G]at r
   rw[y_ G,y_ G];obtain⟨a,b,c,d⟩:=h;have J:=(r_ (C_ w)).alloc (.cells #[yV a,iV b,iV c,iV d] 125);have y:=uh J;clear J
   go_enter func219,ntmps219
   go_wp2_with fail
   refine(r.out _).mono ?_;rintro e w2 ⟨rfl,E⟩;have N:=uh (y.out.call E).below;clear E y r
   go_wp2
   refine f_ (E_ rfl _ _ _) rfl ?_;exact⟨rfl,N.out⟩
theorem LA:(#[yV 0,iV 0,iV 0,iV 0]:Array Value).all (·.oneCell')=true:=Yn (cs:=[yV 0,iV 0,iV 0,iV 0]) (by simp[Value.oneCell'])
theorem KH (t:Ty):(#[yV t.kind,iV t.words,uV t.mask]:Array Value).all (·.oneCell')=true:=Yn (cs:=Kz t) (by simp[Value.oneCell'])
theorem Mz (m n:Nat):((m:Int)).tmod (n:Int)=((m%n:Nat):Int):=by rw[Xg (Yb _),Int.natCast_emod]
theorem GC (m n:Nat):((m:Int)).tdiv (n:Int)=((m/n:Nat):Int):=by rw[Int.tdiv_eq_ediv_of_nonneg (Yb _),Int.natCast_ediv]
def N0 (v:Nat):Hd:=(Jv v).getD AM
theorem jP (w:World)(v:Nat)(hv:v<18446744073709551616):Calls prog 171 #[uV v] w fun e w'=>e=.returned (.tuple #[KM (N0 v),iV (if (Jv v).isSome then 0 else 7)]) /\ Below w.heap.size w w':=by
 have y:=Gr;have V:=uh (fun W=>PP W (MR v) ⟨by unfold MR;simp only;omega,by unfold MR;simp only;omega,by unfold MR;simp only;omega,by unfold MR;simp only;omega⟩)
 have LG:Jv v=if (MR v).may /\ (MR v).word=v then some (MR v)else none:=by
  unfold Jv
  by_cases h:(MR v).may /\ Sd v=0
  ·rw[v_ h,v_ ⟨h.1,(RJ v).2 h.2⟩]
  ·rw[y_ h,y_ (fun h2=>h ⟨h2.1,(RJ v).1 h2.2⟩)]
 have q1:((v:Int)).tmod 4=((v%4:Nat):Int):=Mz v 4;have q2:((v:Int)).tdiv 4=((v/4:Nat):Int):=GC v 4;have q3:(((v/4:Nat):Int)).tmod 4096=((v/4%4096:Nat):Int):=Mz _ 4096;have q4:((v:Int)).tdiv 65536=((v/65536:Nat):Int):=GC v 65536;have q5:(((v/65536:Nat):Int)).tmod 16777216=((v/65536%16777216:Nat):Int):=Mz _ 16777216;have q6:((v:Int)).tdiv 1099511627776=((v/1099511627776:Nat):Int):=GC v 1099511627776;have b1:v%4<4:=O;have b2:v/4%4096<4096:=O;have b3:v/65536%16777216<16777216:=O;have b4:v/1099511627776<16777216:=O;have b5:v/4<18446744073709551616:=O;have b6:v/65536<18446744073709551616:=O;unfold MR at V LG;generalize v%4=E at*;generalize v/4%4096=G at*;generalize v/65536%16777216=J at*;generalize v/1099511627776=M at*;generalize v/4=y1 at*;generalize v/65536=y2 at*;obtain⟨ta,tb,tc,td,er,Hv⟩:∃ta tb tc td er,Hid (N0 v=⟨ta,tb,tc,td⟩ /\ (if (Jv v).isSome=true then(0:Int)else 7)=er):=⟨_,_,_,_,_,uh ⟨rfl,rfl⟩⟩;rw[Hv.out.1,Hv.out.2]
 have N:∀h,Jv v=some h -> h.tag=ta /\ h.typ=tb /\ h.len=tc /\ h.size=td /\ er=0:=fun h hh=>by
  have h1:=Hv.out;unfold N0 at h1;rw[hh]at h1;obtain⟨rfl,rfl⟩:=h1;exact⟨rfl,rfl,rfl,rfl,rfl⟩
 have r:Jv v=none -> ta=0 /\ tb=0 /\ tc=0 /\ td=0 /\ er=7:=fun hh=>by
  have h1:=Hv.out;unfold N0 at h1;rw[hh]at h1;obtain⟨h1,rfl⟩:=h1
  cases h1
  exact⟨rfl,rfl,rfl,rfl,rfl⟩
 clear Hv;have T1:=((r_ (C_ w)).alloc zH).alloc zH;rw[Y_]at T1;have a2:((w.alloc zH).alloc zH).there (w.heap.size+1) 0 4:=T1.there1;have a5:=GP ⟨E,G,J,M⟩;have T2:=T1.laid (Vu ⟨E,G,J,M⟩) rfl;have a6:=T2.range1;have a3:=uh T2;clear T1 T2
 go_enter func171,ntmps171
 go_wp2_with (first
  | (show sW 125;refine h_ rfl 125 _ _ rfl _ 0 #[yV E,iV G,iV J,iV M] rfl rfl a2 y a5 ?_)
  | (show lW 125;refine J_ rfl 125 _ rfl (w.heap.size+1) 0 rfl [yV E,iV G,iV J,iV M] _ a6 underlying125 rfl y ?_)
  | fail)
 refine(V.out _).mono ?_;rintro e w3 ⟨rfl,a4⟩;have T3:=a3.out.call a4;have a0:w3.there w.heap.size 0 4:=T3.there2;have a9:=T3.range1;have TZ:=T3.laid2 [yV 0,iV 0,iV 0,iV 0] rfl;have TV:=T3.laid2 (Vu ⟨E,G,J,M⟩) rfl;have U:=uh TZ;have a1:=uh TV;clear T3 TZ TV a4 a3 V a6 a2 q1 q2 q3 q4 q5 q6 b5 b6;have a7:=LA
 by_cases Z:(Hd.mk E G J M).may
 · simp only[v_ Z]
   by_cases hw:(Hd.mk E G J M).word=v
   · rw[v_ ⟨Z,hw⟩]at LG
     rw[hw];obtain⟨rfl,rfl,rfl,rfl,rfl⟩:=N _ LG;clear LG hw Z U N r
     go_wp2_with (first
      | (show lW 125;refine J_ rfl 125 _ rfl (w.heap.size+1) 0 rfl [yV E,iV G,iV J,iV M] _ a9 underlying125 rfl y ?_)
      | (show sW 125;refine h_ rfl 125 _ _ rfl _ 0 #[yV E,iV G,iV J,iV M] rfl rfl a0 y a5 ?_)
      | fail)
     refine f_ (Gs results171 _ _ _ _ _ rfl a1.out.range2 underlying125 rfl y) rfl ⟨rfl,a1.out.below⟩
   · rw[y_ (fun h=>hw h.2)]at LG
     obtain⟨rfl,rfl,rfl,rfl,rfl⟩:=r LG;have a8:¬(((Hd.mk E G J M).word:Nat):Int)=(v:Int):=O;have aa:((((Hd.mk E G J M).word:Nat):Int) != (v:Int))=true:=(by rw[Qe];exact a8);generalize(Hd.mk E G J M).word=z at*;clear LG hw Z a1 N r
     go_wp2_with (first
      | (show sW 125;refine h_ rfl 125 _ _ rfl _ 0 #[yV 0,iV 0,iV 0,iV 0] rfl rfl a0 y a7 ?_)
      | fail)
     refine f_ (Gs results171 _ _ _ _ _ rfl U.out.range2 underlying125 rfl y) rfl ⟨rfl,U.out.below⟩
 · simp only[y_ Z]
   rw[y_ (fun h=>Z h.1)]at LG;obtain⟨rfl,rfl,rfl,rfl,rfl⟩:=r LG;clear LG Z a1 N r
   go_wp2_with (first
    | (show sW 125;refine h_ rfl 125 _ _ rfl _ 0 #[yV 0,iV 0,iV 0,iV 0] rfl rfl a0 y a7 ?_)
    | fail)
   refine f_ (Gs results171 _ _ _ _ _ rfl U.out.range2 underlying125 rfl y) rfl ⟨rfl,U.out.below⟩
theorem H7 (w:World)(L:List Ty)(hT:∀t∈L,TyIn t)(hL:L.length <= 1000)(ao:Option Addr)(cap:Nat)(hS:Src w ao L.length cap 3 (tys L))(N n:Int):
  Calls prog 220 #[.slice ao L.length cap,iV N,iV n] w fun e w'=>e=.returned (.tuple #[iV (GY L N n:Nat),iV (GH L N n)]) /\ Below w.heap.size w w':=by
 have J:=JZ;have y:=uh (Pk w L ao cap hS hL N);unfold GY GH;unfold tyAt at y;clear hS
 cases U:Kc L N with
 | none=>
  rw[U]at y
  go_enter func220,ntmps220
  go_wp2_with fail
  refine y.out.mono ?_;rintro e w1 ⟨rfl,r⟩;have E:=(Ze (C_ w) r).alloc zT;have M:(w1.alloc zT).there w1.heap.size 0 3:=E.there1;have G:=uh (E.laid [yV 0,iV 0,uV 0] rfl);have ho:=KH ⟨0,0,0⟩;clear E r y
  go_wp2_with (first
   | (show sW 79;refine h_ rfl 79 _ _ rfl _ 0 #[yV 0,iV 0,uV 0] rfl rfl M J ho ?_)
   | fail)
  refine f_ (E_ rfl _ _ _) rfl ?_;exact⟨rfl,G.out.below⟩
 | some t=>
  rw[U]at y;obtain⟨i,rfl,hi,a1⟩:=KZ U;have V:=uh (fun W=>g0 W t (hT t (q_ hi)) n);obtain⟨k,m,mk⟩:=t;obtain⟨s,Hs⟩:∃s:Nat,Hid ((if (Ty.mk k m mk).err n=0 then(((Ty.mk k m mk).size n.toNat:Nat):Int)else 0)=s /\ (if (Ty.mk k m mk).err n=0 then(Ty.mk k m mk).size n.toNat else 0)=s):=⟨_,uh ⟨by split<;>rfl,rfl⟩⟩;rw[Hs.out.1]at V;simp only[Hs.out.2];clear Hs;generalize(Ty.mk k m mk).err n=er at*;clear U hi a1 hT
  go_enter func220,ntmps220
  go_wp2_with fail
  refine y.out.mono ?_;rintro e w1 ⟨rfl,r⟩;simp only[Zc,Option.isSome_some,if_true];have E:=(Ze (C_ w) r).alloc zT;have M:(w1.alloc zT).there w1.heap.size 0 3:=E.there1;have T2:=E.laid (Kz ⟨k,m,mk⟩) rfl;have a2:=T2.range1;have G:=uh T2;have ho:=KH ⟨k,m,mk⟩;clear E T2 r y
  go_wp2_with (first
   | (show sW 79;refine h_ rfl 79 _ _ rfl _ 0 #[yV k,iV m,uV mk] rfl rfl M J ho ?_)
   | (show lW 79;refine J_ rfl 79 _ rfl w1.heap.size 0 rfl [yV k,iV m,uV mk] _ a2 underlying79 rfl J ?_)
   | (go_at_call 249;refine(V.out _).mono ?_;rintro e w3 ⟨rfl,Z⟩;have a0:=uh (G.out.call Z).below;clear Z)
   | fail)
  refine f_ (E_ rfl _ _ _) rfl ?_;exact⟨rfl,a0.out⟩
def KB (L:List Ty)(id n:Int):List Value:=if GH L id n=0 then [yV 1,iV id,iV n,iV (GY L id n:Nat)]else [yV 0,iV 0,iV 0,iV 0]
theorem jb (w:World)(L:List Ty)(hT:∀t∈L,TyIn t)(hL:L.length <= 1000)(ao:Option Addr)(cap:Nat)(hS:Src w ao L.length cap 3 (tys L))(r n:Int):
  Calls prog 173 #[.slice ao L.length cap,iV r,iV n] w fun e w'=>e=.returned (.tuple #[.agg (KB L r n).toArray,iV (GH L r n)]) /\ Below w.heap.size w w':=by
 have M:=Gr;have V:=(r_ (C_ w)).alloc zH;have U:=uh (H7 _ L hT hL ao cap (hS.below V.below) r n);have J:=uh V;unfold KB;generalize GY L r n=s at*;generalize GH L r n=er at*;clear V hS hT
 by_cases he:er=0
 · subst he
   rw[v_ rfl]
   go_enter func173,ntmps173
   go_wp2_with fail
   refine U.out.mono ?_;rintro e w1 ⟨rfl,E⟩;have G:=J.out.call E;have N:w1.there w.heap.size 0 4:=G.there1;have y:=uh (G.laid [yV 1,iV r,iV n,iV s] rfl);have Z:(#[yV 1,iV r,iV n,iV s]:Array Value).all (·.oneCell')=true:=Yn (cs:=[yV 1,iV r,iV n,iV s]) (by simp[Value.oneCell']);clear G E J U
   go_wp2_with (first
    | (show sW 125;refine h_ rfl 125 _ _ rfl _ 0 #[yV 1,iV r,iV n,iV s] rfl rfl N M Z ?_)
    | fail)
   refine f_ (Gs results173 _ _ _ _ _ rfl y.out.range1 underlying125 rfl M) rfl ⟨rfl,y.out.below⟩
 · rw[y_ he]
   go_enter func173,ntmps173
   go_wp2_with fail
   refine U.out.mono ?_;rintro e w1 ⟨rfl,E⟩;have G:=J.out.call E;have N:w1.there w.heap.size 0 4:=G.there1;have y:=uh (G.laid [yV 0,iV 0,iV 0,iV 0] rfl);have Z:=LA;clear G E J U
   go_wp2_with (first
    | (show sW 125;refine h_ rfl 125 _ _ rfl _ 0 #[yV 0,iV 0,iV 0,iV 0] rfl rfl N M Z ?_)
    | fail)
   refine f_ (Gs results173 _ _ _ _ _ rfl y.out.range1 underlying125 rfl M) rfl ⟨rfl,y.out.below⟩
theorem AK {w:World}{a b:Int}{c:Bool}{X:Result Bool}(h:X=.ok c w):(if a=b then X else .ok false w)=.ok ((a == b) && c) w:=by
 by_cases r:a=b
 ·rw[v_ r,h,Qx.2 r,Bool.true_and]
 ·rw[y_ r,j_.2 r,Bool.false_and]
theorem CM {w:World}{a b:Int}:(if a=b then Result.ok true w else .ok false w)=.ok (a == b) w:=by
 by_cases r:a=b
 ·rw[v_ r,Qx.2 r]
 ·rw[y_ r,j_.2 r]
theorem TK (w:World)(a b c d r y E G:Int):
  (Op.equalIn 10000 125 (.agg #[yV a,iV b,iV c,iV d]) (.agg #[yV r,iV y,iV E,iV G])).run prog w=.ok ((a == r) && ((b == y) && ((c == E) && (d == G)))) w:=by
 show(Op.equalIn (9999+1) _ _ _).run _ _=_
 have J:prog.stoodInHeld 125= false:=by kernel_rfl
 rw[run_equalIn_struct w 9999 125 _ _ underlying125 J];simp[go_sem]
 iterate 3 refine AK ?_
 exact CM
def Ka (L:List Ty)(h:Hd):Int:=if ¬h.may then 2 else if h.tag≠1 then 0 else if GH L h.typ h.len=0 /\ GY L h.typ h.len=h.size then 0 else 8
theorem MS (L:List Ty)(h:Hd):Ka L h=0↔Ud L h:=by
 unfold Ka Ud
 by_cases r:h.may
 · rw[y_ (by simpa using r)]
   by_cases E:h.tag=1
   · rw[y_ (by simpa using E)]
     have h1:1 <= h.typ:=by
      obtain⟨-,-,-,h|h⟩:=r
      ·exact h.2.1
      ·omega
     have J:Kc L (h.typ:Nat)=L[h.typ-1]? :=by
      unfold Kc;rw[v_ O,show((h.typ:Int)-1).toNat=h.typ-1 by omega]
     cases M:L[h.typ-1]? with
     | none=>
      have G:GH L h.typ h.len=3:=(by unfold GH;rw[J,M]);rw[y_ (fun h2=>by rw[G]at h2;omega)];refine⟨fun h=>by omega,fun h=>?_⟩;obtain⟨t,h2,-⟩:=h.2 E
      cases h2
     | some t=>
      have G:GH L h.typ h.len=t.err h.len:=(by unfold GH;rw[J,M]);have N:t.err h.len=0 -> GY L h.typ h.len=t.size h.len:=fun y=>by unfold GY;rw[J,M];simp only;rw[v_ y];simp
      constructor
      · intro h2
        refine⟨r,fun _=>⟨t,rfl,?_⟩⟩
        by_cases y:t.err h.len=0
        · by_cases V:t.size h.len=h.size
          ·exact⟨y,V⟩
          · rw[y_ (fun h=>V (by rw[←N y];exact h.2))]at h2
            omega
        · rw[y_ (fun h=>y (by rw[←G];exact h.1))]at h2
          omega
      · rintro⟨-,h2⟩
        obtain⟨t',Z,U,h5⟩:=h2 E
        cases Z
        rw[v_ ⟨by rw[G];exact U,by rw[N U];exact h5⟩]
   · rw[v_ E]
     exact⟨fun _=>⟨r,fun h=>absurd h E⟩,fun _=>rfl⟩
 · rw[v_ r]
   exact⟨fun h=>by omega,fun h=>absurd h.1 r⟩
theorem D9 (w:World)(L:List Ty)(hT:∀t∈L,TyIn t)(hL:L.length <= 1000)(ao:Option Addr)(cap:Nat)(hS:Src w ao L.length cap 3 (tys L))(h:Hd)(hi:HdIn h):
  Calls prog 125 #[.slice ao L.length cap,KM h] w fun e w'=>e=.returned (iV (Ka L h)) /\ Below w.heap.size w w':=by
 have Z:=Gr;have G:=uh (fun W=>Py W h hi);have T1:=(r_ (C_ w)).alloc (.cells #[yV h.tag,iV h.typ,iV h.len,iV h.size] 125);have a1:=T1.range1;have J:=uh (fun(w2:World) (hB:Below (w.alloc (.cells #[yV h.tag,iV h.typ,iV h.len,iV h.size] 125)).heap.size (w.alloc (.cells #[yV h.tag,iV h.typ,iV h.len,iV h.size] 125)) w2)=>jb w2 L hT hL ao cap ((hS.below ((r_ (C_ w)).alloc (.cells #[yV h.tag,iV h.typ,iV h.len,iV h.size] 125)).below).below hB) h.typ h.len);have N:=uh T1;clear T1 hS hT;unfold Ka
 by_cases hm:h.may
 · rw[k_ hm]at G
   rw[y_ (by simpa using hm)]
   by_cases ht:h.tag=1
   · rw[y_ (by simpa using ht)]
     have a7:=GP ⟨0,0,0,0⟩;unfold KB at J;generalize GH L h.typ h.len=er at*;generalize GY L h.typ h.len=s at*;obtain⟨tg,b,c,d⟩:=h;simp only at ht;subst ht;clear hm hi
     by_cases he:er=0
     · subst he
       simp only[if_true]at J;have ho:(#[yV 1,iV b,iV c,iV s]:Array Value).all (·.oneCell')=true:=Yn (cs:=[yV 1,iV b,iV c,iV s]) (by simp[Value.oneCell']);have a6:=fun w=>TK w 1 b c s 1 b c d
       by_cases hs:s=d
       · rw[v_ ⟨rfl,hs⟩]
         have a5:((s:Int) == (d:Int))=true:=(by rw[Qx];omega);subst hs
         go_enter func125,ntmps125
         go_wp2_with fail
         refine(G.out _).mono ?_;rintro e w2 ⟨rfl,r⟩;have y:=N.out.call r;have c0:=y.cell1 0;have c1:=y.cell1 1;have c2:=y.cell1 2;have M:=uh (J.out w2 r);have E:=uh y;clear y r N G J a1
         go_wp2_with fail
         refine M.out.mono ?_;rintro e w3 ⟨rfl,U⟩;have V:=(E.out.call U).alloc zH;have a2:(w3.alloc zH).there w3.heap.size 0 4:=V.there1;have T4:=V.laid [yV 1,iV b,iV c,iV s] rfl;have a3:=T4.range1;have a4:=T4.range2;have a0:=uh T4.below;clear V T4 U E M c0 c1 c2
         go_wp2_with (first
          | (show sW 125;refine h_ rfl 125 _ _ rfl _ 0 #[yV 1,iV b,iV c,iV s] rfl rfl a2 Z ho ?_)
          | (show lW 125;refine Xb 125 _ rfl (by rfl) w3.heap.size 0 rfl [yV 1,iV b,iV c,iV s] _ a3 underlying125 rfl Z ?_)
          | (show lW 125;refine Xb 125 _ rfl (by rfl) w.heap.size 0 rfl [yV 1,iV b,iV c,iV s] _ a4 underlying125 rfl Z ?_)
          | fail)
         go_ret;exact⟨rfl,a0.out⟩
       · rw[y_ (fun h=>hs h.2)]
         have a5:((s:Int) == (d:Int))=false:=(by rw[j_];omega);have a9:¬(s:Int)=(d:Int):=O;have aa:¬(s=d):=hs;simp only[a5,Bool.and_false,beq_self_eq_true]at a6;clear hs
         go_enter func125,ntmps125
         go_wp2_with fail
         refine(G.out _).mono ?_;rintro e w2 ⟨rfl,r⟩;have y:=N.out.call r;have c0:=y.cell1 0;have c1:=y.cell1 1;have c2:=y.cell1 2;have M:=uh (J.out w2 r);have E:=uh y;clear y r N G J a1
         go_wp2_with fail
         refine M.out.mono ?_;rintro e w3 ⟨rfl,U⟩;have V:=(E.out.call U).alloc zH;have a2:(w3.alloc zH).there w3.heap.size 0 4:=V.there1;have T4:=V.laid [yV 1,iV b,iV c,iV s] rfl;have a3:=T4.range1;have a4:=T4.range2;have a0:=uh T4.below;clear V T4 U E M c0 c1 c2
         go_wp2_with (first
          | (show sW 125;refine h_ rfl 125 _ _ rfl _ 0 #[yV 1,iV b,iV c,iV s] rfl rfl a2 Z ho ?_)
          | (show lW 125;refine Xb 125 _ rfl (by rfl) w3.heap.size 0 rfl [yV 1,iV b,iV c,iV s] _ a3 underlying125 rfl Z ?_)
          | (show lW 125;refine Xb 125 _ rfl (by rfl) w.heap.size 0 rfl [yV 1,iV b,iV c,iV d] _ a4 underlying125 rfl Z ?_)
          | fail)
         go_ret;exact⟨rfl,a0.out⟩
     · rw[y_ (fun h=>he h.1)]
       simp only[y_ he]at J
       go_enter func125,ntmps125
       go_wp2_with fail
       refine(G.out _).mono ?_;rintro e w2 ⟨rfl,r⟩;have y:=N.out.call r;have c0:=y.cell1 0;have c1:=y.cell1 1;have c2:=y.cell1 2;have M:=uh (J.out w2 r);have E:=uh y;clear y r N G J a1
       go_wp2_with fail
       refine M.out.mono ?_;rintro e w3 ⟨rfl,U⟩;have V:=(E.out.call U).alloc zH;have a2:(w3.alloc zH).there w3.heap.size 0 4:=V.there1;have a0:=uh (V.laid [yV 0,iV 0,iV 0,iV 0] rfl).below;clear V U E M c0 c1 c2
       go_wp2_with (first
        | (show sW 125;refine h_ rfl 125 _ _ rfl _ 0 #[yV 0,iV 0,iV 0,iV 0] rfl rfl a2 Z a7 ?_)
        | fail)
       go_ret;exact⟨rfl,a0.out⟩
   · rw[v_ ht]
     obtain⟨tg,b,c,d⟩:=h;have a8:¬(tg:Int)=1:=(by simp only at ht;omega);have ab:((tg:Int) != 1)=true:=(by rw[Qe];exact a8);clear hm ht hi
     go_enter func125,ntmps125
     go_wp2_with fail
     refine(G.out _).mono ?_;rintro e w2 ⟨rfl,r⟩;have y:=N.out.call r;have c0:=y.cell1 0;have E:=uh y.below;clear y r N G J a1
     go_wp2
     go_ret;exact⟨rfl,E.out⟩
 · rw[b_ hm]at G
   rw[v_ hm];obtain⟨tg,b,c,d⟩:=h;clear hm hi
   go_enter func125,ntmps125
   go_wp2_with fail
   refine(G.out _).mono ?_;rintro e w2 ⟨rfl,r⟩;have E:=uh (N.out.call r).below;clear r N G J a1
   go_wp2
   go_ret;exact⟨rfl,E.out⟩
end
section
open Go Go.RowKit Tryz Go.Shelf Go.IntWalk
attribute [local go_sem] Oper.semAt_some
theorem BH:(prog.info? 310).map (·.size)=some 2:=by kernel_rfl
theorem BJ:(prog.info? 312).map (·.size)=some 3:=by kernel_rfl
theorem Bk (w:World)(i:Nat)(J:i <= 65536):Calls prog 211 #[iV i] w fun e w'=>e=.returned (.agg #[iV (i/64:Nat),iV (i%64:Nat)]) /\ Below w.heap.size w w':=by
 have M:((i:Int)).tdiv 64=((i/64:Nat):Int):=GC _ 64;have N:((i:Int)).tmod 64=((i%64:Nat):Int):=by rw[Xg O];omega
 have U:(i:Int)/64=((i/64:Nat):Int):=O;have V:(i:Int)%64=((i%64:Nat):Int):=O;have T:=(r_ (C_ w)).alloc (.cells #[iV (i/64:Nat),iV (i%64:Nat)] 310);have y:=uh T;have G:=T.range1;have E:=BH;have hq:i/64 <= 65536:=O;generalize i/64=q at*;generalize i%64=r at*;clear T
 go_enter func211,ntmps211
 go_wp2_with fail
 refine f_ (Wp results211 _ _ _ _ _ rfl G underlying310 rfl E) rfl ?_;exact⟨rfl,y.out.below⟩
theorem UA (n:Nat)(i k:Int)(w:World):
  CallsIn Fence.wide n prog 180 #[iV i,iV k] w fun e w'=>e=.returned (.func (.func 225) #[] #[pt (w.heap.size+1),pt w.heap.size]) /\ w'=(w.alloc (.cells #[iV i] 3)).alloc (.cells #[iV k] 3):=by
 have r:Fence.wide.fn 180:= trivial;refine Xk func180 rfl r ?_ rfl;simp only[ntmps180,Z_,B_,Qj,Nat.reduceAdd,Nat.reduceSub,S_,R_,Qc,X_,L_,Qd]
 gi_wp2
 go_ret;exact⟨rfl,rfl⟩
end
section
open Go Go.RowKit Tryz Go.Shelf Go.IntWalk
attribute [local go_sem] Oper.semAt_some
def G3 (xs:List (Nat×Nat)):Nat:=(xs.map (·.2)).sum
theorem RQ (xs:List (Nat×Nat))(x:Nat×Nat):G3 (xs++[x])=G3 xs+x.2:=by simp[G3]
def gj (i n:Nat)(pre:List (Nat×Nat))(x:Nat×Nat):Prop:=G3 pre<n /\ x=(i+G3 pre,pk (i+G3 pre) (n-G3 pre))
def Vj (x:Nat×Nat):Array Value:=#[.agg #[iV (x.1/64:Nat),iV (x.1%64:Nat),uV (J4 x.2 (x.1%64):Nat)]]
structure KpBox (Bn Bi:Nat)(A B:World):Prop where
 n:B.heap[Bn]?= A.heap[Bn]?
 i:B.heap[Bi]?= A.heap[Bi]?
def Dz (Bn Bi:Nat)(A B:World):Prop:=∃v,B=A.setCell (aD Bn 0) v∨B=A.setCell (aD Bi 0) v
def G9 (Bn Bi:Nat)(n i:Nat):List Blk:=[(Bn,.cells #[iV n] 3),(Bi,.cells #[iV i] 3)]
theorem Has.below {w w':World}{l:List Blk}(h:Has w l)(r:Below w.heap.size w w'):Has w' l:=(Ze h r).has
theorem Gn {w w':World}(r:Below w.heap.size w w'):w.grownBy w' none:=⟨r.os,r.tape,r.output,r.size,fun b y _=>r.block b y⟩
theorem Has.kp {Bn Bi n i:Nat}{A B:World}(h:Has A (G9 Bn Bi n i))(k:KpBox Bn Bi A B):Has B (G9 Bn Bi n i):=by
 refine⟨h.nd,fun b o r=>?_⟩;have h1:=h.own b o r;simp only[G9,t_,Zu,or_false]at r;rcases r with r|r
 ·cases r;exact k.n.trans h1
 ·cases r;exact k.i.trans h1
theorem Av {k b:Nat}(h:k+b <= 64):IntKind.u64.wrap (((2^k-1:Nat):Int)*2^b)=((J4 k b:Nat):Int):=by
 have h1:=Rq h;unfold J4 at*;rw[IntKind.wrap_u64];have:((2^k-1:Nat):Int)*2^b=(((2^k-1)*2^b:Nat):Int):=by push_cast;rfl
 rw[this];omega
theorem WB {k r:Nat}(J:k<64)(h:k+r <= 64):IntKind.u64.wrap (IntKind.u64.wrap (IntKind.u64.wrap (2^k)-1)*2^r)=((J4 k r:Nat):Int):=by
 have h1:(2:Nat)^k <= 2^63:=Yf O O;have h2:(2:Nat)^63=9223372036854775808:=by decide
 have G:0<(2:Nat)^k:=Nat.two_pow_pos k
 have y:IntKind.u64.wrap (2^k)=((2^k:Nat):Int):=by
  rw[IntKind.wrap_u64,show(2:Int)^k=((2^k:Nat):Int)by push_cast;rfl];omega
 have E:IntKind.u64.wrap (((2^k:Nat):Int)-1)=((2^k-1:Nat):Int):=by
  rw[IntKind.wrap_u64];omega
 rw[y,E,Av h]
theorem Uz (n:Nat)(hn:2 <= n)(Bn Bi i0 V:Nat)(aS:i0+V <= 65536)(w:World)(hH:Has w (G9 Bn Bi V i0)):
  FN Fence.wide n prog 225 #[pt Bn,pt Bi] Vj (KpBox Bn Bi) (gj i0 V) (fun xs=>G3 xs=V) (Dz Bn Bi) w:=fun l J Jx W hW hJ aG az hY h0=>by
 have ax:Has W (G9 Bn Bi V i0):=hH.below hW;have hf:Fence.wide.fn 225:= trivial;have aR:Fence.wide.fn 211:= trivial;refine Xk func225 rfl hf ?_ rfl;simp only[ntmps225,Z_,B_,Qj,Nat.reduceAdd,Nat.reduceSub,S_,R_,Qc,X_,L_,Qd];have h1:1 <= n:=O;have h2:1 <= n-1:=O;have HY:=uh hY;have HJ:=uh hJ;have Z:=uh az;have av:=uh ax;have aT:=BJ;clear hY hJ az aG hW hH ax
 gi_wp2_with fail
 gi_loopw [5] (fun _ wr=>∃pre:List (Nat×Nat),G3 pre <= V /\ J pre wr /\ Has wr (G9 Bn Bi (V-G3 pre) (i0+G3 pre)))
  (fun _ wr=>match wr.cell? (aD Bn 0)with|some (.int _ k)=>k.toNat|_=>0)
 case atStart=>exact⟨[],u_ _,h0,av.out⟩
 case round=>
  clear av h0;obtain⟨pre,aJ,ap,af⟩:=hrel;have cn:wr.cell? (aD Bn 0)=some (iV (V-G3 pre:Nat)):=af.cell (b:=Bn) (c:=#[iV (V-G3 pre:Nat)]) (e:=3) (f:=(0,0)) (by simp[G9]) 0;have ci:wr.cell? (aD Bi 0)=some (iV (i0+G3 pre:Nat)):=af.cell (b:=Bi) (c:=#[iV (i0+G3 pre:Nat)]) (e:=3) (f:=(0,0)) (by simp[G9]) 0
  by_cases aA:G3 pre<V
  · obtain⟨s,hs⟩:∃s,G3 pre=s:=⟨_,rfl⟩
    rw[hs]at aA aJ af cn ci;have ay:gj i0 V pre (i0+s,pk (i0+s) (V-s)):=⟨by rw[hs];exact aA,by rw[hs]⟩;have a0:=uh (fun W1=>HY.out pre _ W1 ay);have N:=uh (RQ pre (i0+s,pk (i0+s) (V-s)));rw[hs]at N;clear ay HY;have aB:=Ck (i0+s) (V-s);have aC:=Ps (i0+s) (V-s);have aE:=Pr (i:=i0+s) (n:=V-s) O;have ak:=uh (show min (V-s) (64-(i0+s)%64)=pk (i0+s) (V-s)from rfl);unfold Vj at a0;simp only at a0 N;have a1:=uh (fun w'=>Bk w' (i0+s) O);obtain⟨E,aH⟩:∃E,i0+s=E:=⟨_,rfl⟩;obtain⟨y,aK⟩:∃y,V-s=y:=⟨_,rfl⟩;rw[aH]at af ci a0 N aB aE ak a1 aC;rw[aK]at af cn a0 N aB aC aE ak;have hq:E/64 <= 65536:=O;have aP:E+pk E y <= 65536:=O;have aQ:y <= 65536:=O;have hr:E%64<64:=O;generalize pk E y=k at*;have aM:(0:Int)<(y:Int):=O;have ac:=uh af;have am:=uh ap;have ae:=uh (r_ (C_ wr));generalize E/64=q at*;generalize E%64=r at*;clear af ap;have an:=cn;rcases(show y=k∨(64-(r:Int)=(k:Int) /\ ¬y <= k)by have:=ak.out;omega)with hA|⟨hA,aN⟩
    · subst hA
      have aL:decide ((y:Int) <= 64-(r:Int))=true:=k_ O;have aF:(y:Int) <= 64-(r:Int):=O;clear ak
      by_cases hk:y<64
      · have hM:IntKind.u64.wrap (IntKind.u64.wrap (IntKind.u64.wrap (2^y)-1)*2^r)=((J4 y r:Nat):Int):=WB hk O
        have aq:decide ((y:Int)<64)=true:=k_ O;have au:decide (y<64)=true:=k_ hk
        gi_wp2_with (first
         | (gi_at_call 211;go_loud (refine(N_.2 (a1.out _)).mono ?_;rintro e w1 ⟨rfl,a9⟩;have T1:=(ae.out.call a9).alloc (.cells #[iV q,iV r,uV (J4 y r:Nat)] 312);have HB:=uh T1.below;have a8:=(ac.out.below (w':=w1.alloc (.cells #[iV q,iV r,uV 18446744073709551615] 312)) ((ae.out.call a9).alloc _).below).cell (b:=Bn) (c:=#[iV y]) (e:=3) (f:=(0,0)) (by simp[G9]) 0;obtain⟨fn,tmps,assign,body,hy,hR⟩:=a0.out _ (HJ.out pre wr _ none am.out (Gn HB.out) (fun r e=>by cases e));have HR:=uh hR;clear hR))
         | fail)
        refine HR.out.mono ?_;rintro e G (⟨rfl,U,aa⟩|⟨rfl,ab⟩)
        · have a4:=((ac.out.below HB.out).kp aa)
          have ag:=uh U;have M:=(r_ a4);have b1:G.cell? (aD Bn 0)=some (iV y):=M.has.cell (b:=Bn) (c:=#[iV y]) (e:=3) (f:=(0,0)) (by simp[G9]) 0;have b2:G.cell? (aD Bi 0)=some (iV E):=M.has.cell (b:=Bi) (c:=#[iV E]) (e:=3) (f:=(0,0)) (by simp[G9]) 0;have f2:G.frozen? (aD Bi 0)=false:=M.has.free (b:=Bi) (c:=#[iV E]) (e:=3) (by simp[G9]) 0;have a7:Turn (G9 Bn Bi y E) G ((Bi,.cells #[iV E] 3)::[(Bn,.cells #[iV y] 3)]) G:=M.swap;have T4:=a7.setCell 0 (iV ((E:Int)+(y:Int)));have b3:(G.setCell (aD Bi 0) (iV ((E:Int)+(y:Int)))).cell? (aD Bn 0)=some (iV y):=T4.cell2 0;have f3:(G.setCell (aD Bi 0) (iV ((E:Int)+(y:Int)))).frozen? (aD Bn 0)=false:=T4.free2 0;have T5:=T4.swap.setCell 0 (iV 0);have a5:=uh T5.drew;have ah:=uh (HJ.out _ _ ((G.setCell (aD Bi 0) (iV ((E:Int)+(y:Int)))).setCell (aD Bn 0) (iV 0)).drew none (Z.out _ _ _ (Z.out _ _ _ U ⟨iV ((E:Int)+(y:Int)),.inr rfl⟩) ⟨iV 0,.inl rfl⟩) ⟨rfl,rfl,rfl,g_ _,fun _ _ _=>rfl⟩ (fun r e=>by cases e));have f1:G.frozen? (aD Bn 0)=false:=M.has.free (b:=Bn) (c:=#[iV y]) (e:=3) (by simp[G9]) 0;have T6:=(Jk (M:Turn (G9 Bn Bi y E) G ((Bn,.cells #[iV y] 3)::[(Bi,.cells #[iV E] 3)]) G) 0 (iV 0)).swap
          have f4:(G.setCell (aD Bn 0) (iV 0)).frozen? (aD Bi 0)=false:=T6.free1 0;have a6:=uh ((T6.setCell 0 (iV ((E:Int)+(y:Int)))).swap.drew);have aj:=uh (HJ.out _ _ ((G.setCell (aD Bn 0) (iV 0)).setCell (aD Bi 0) (iV ((E:Int)+(y:Int)))).drew none (Z.out _ _ _ (Z.out _ _ _ U ⟨iV 0,.inl rfl⟩) ⟨iV ((E:Int)+(y:Int)),.inr rfl⟩) ⟨rfl,rfl,rfl,g_ _,fun _ _ _=>rfl⟩ (fun r e=>by cases e));have E1:((i0+(s+y):Nat):Int)=(E:Int)+(y:Int):=O;have E2:((V-(s+y):Nat):Int)=0:=O;have a2:=uh E1;have a3:=uh E2;clear E1 E2 T6;clear a4 HR aa U ag M a7 T4 T5 cn ci a8 hy a0 a1 hM
          gi_wp2_with fail
          gi_region
          all_goals (
           gi_wp2_with fail
           go_roundw
           case rel=>
            first
             | (refine⟨pre++[(E,y)],by rw[N.out];omega,ah.out,?_⟩;rw[N.out];unfold G9;rw[a2.out,a3.out];exact a5.out.has)
             | (refine⟨pre++[(E,y)],by rw[N.out];omega,aj.out,?_⟩;rw[N.out];unfold G9;rw[a2.out,a3.out];exact a6.out.has)
           case measure=>
            simp only[an]
            first
             | (rw[show(((G.setCell (aD Bi 0) (iV ((E:Int)+(y:Int)))).setCell (aD Bn 0) (iV 0)).drew).cell? (aD Bn 0)=some (iV 0)from a5.out.cell1 0];simp only;omega)
             | (rw[show(((G.setCell (aD Bn 0) (iV 0)).setCell (aD Bi 0) (iV ((E:Int)+(y:Int)))).drew).cell? (aD Bn 0)=some (iV 0)from a6.out.cell1 0];simp only;omega))
        · clear HR cn ci a8 hy a0 a1 hM
          gi_wp2_with fail
          refine f_ (Zg rfl _ _ _) rfl ?_;exact⟨⟨_,rfl⟩,.inr ⟨_,ab⟩⟩
      · have hM:IntKind.u64.wrap (18446744073709551615*2^r)=((J4 y r:Nat):Int):=by
          have h0:y=64:=O;have h9:r=0:=O;rw[h0,h9]
          rfl
        have aq:decide ((y:Int)<64)=false:=b_ O;have au:decide (y<64)=false:=b_ hk
        gi_wp2_with (first
         | (gi_at_call 211;go_loud (refine(N_.2 (a1.out _)).mono ?_;rintro e w1 ⟨rfl,a9⟩;have T1:=(ae.out.call a9).alloc (.cells #[iV q,iV r,uV (J4 y r:Nat)] 312);have HB:=uh T1.below;have a8:=(ac.out.below (w':=w1.alloc (.cells #[iV q,iV r,uV 18446744073709551615] 312)) ((ae.out.call a9).alloc _).below).cell (b:=Bn) (c:=#[iV y]) (e:=3) (f:=(0,0)) (by simp[G9]) 0;obtain⟨fn,tmps,assign,body,hy,hR⟩:=a0.out _ (HJ.out pre wr _ none am.out (Gn HB.out) (fun r e=>by cases e));have HR:=uh hR;clear hR))
         | fail)
        refine HR.out.mono ?_;rintro e G (⟨rfl,U,aa⟩|⟨rfl,ab⟩)
        · have a4:=((ac.out.below HB.out).kp aa)
          have ag:=uh U;have M:=(r_ a4);have b1:G.cell? (aD Bn 0)=some (iV y):=M.has.cell (b:=Bn) (c:=#[iV y]) (e:=3) (f:=(0,0)) (by simp[G9]) 0;have b2:G.cell? (aD Bi 0)=some (iV E):=M.has.cell (b:=Bi) (c:=#[iV E]) (e:=3) (f:=(0,0)) (by simp[G9]) 0;have f2:G.frozen? (aD Bi 0)=false:=M.has.free (b:=Bi) (c:=#[iV E]) (e:=3) (by simp[G9]) 0;have a7:Turn (G9 Bn Bi y E) G ((Bi,.cells #[iV E] 3)::[(Bn,.cells #[iV y] 3)]) G:=M.swap;have T4:=a7.setCell 0 (iV ((E:Int)+(y:Int)));have b3:(G.setCell (aD Bi 0) (iV ((E:Int)+(y:Int)))).cell? (aD Bn 0)=some (iV y):=T4.cell2 0;have f3:(G.setCell (aD Bi 0) (iV ((E:Int)+(y:Int)))).frozen? (aD Bn 0)=false:=T4.free2 0;have T5:=T4.swap.setCell 0 (iV 0);have a5:=uh T5.drew;have ah:=uh (HJ.out _ _ ((G.setCell (aD Bi 0) (iV ((E:Int)+(y:Int)))).setCell (aD Bn 0) (iV 0)).drew none (Z.out _ _ _ (Z.out _ _ _ U ⟨iV ((E:Int)+(y:Int)),.inr rfl⟩) ⟨iV 0,.inl rfl⟩) ⟨rfl,rfl,rfl,g_ _,fun _ _ _=>rfl⟩ (fun r e=>by cases e));have f1:G.frozen? (aD Bn 0)=false:=M.has.free (b:=Bn) (c:=#[iV y]) (e:=3) (by simp[G9]) 0;have T6:=(Jk (M:Turn (G9 Bn Bi y E) G ((Bn,.cells #[iV y] 3)::[(Bi,.cells #[iV E] 3)]) G) 0 (iV 0)).swap
          have f4:(G.setCell (aD Bn 0) (iV 0)).frozen? (aD Bi 0)=false:=T6.free1 0;have a6:=uh ((T6.setCell 0 (iV ((E:Int)+(y:Int)))).swap.drew);have aj:=uh (HJ.out _ _ ((G.setCell (aD Bn 0) (iV 0)).setCell (aD Bi 0) (iV ((E:Int)+(y:Int)))).drew none (Z.out _ _ _ (Z.out _ _ _ U ⟨iV 0,.inl rfl⟩) ⟨iV ((E:Int)+(y:Int)),.inr rfl⟩) ⟨rfl,rfl,rfl,g_ _,fun _ _ _=>rfl⟩ (fun r e=>by cases e));have E1:((i0+(s+y):Nat):Int)=(E:Int)+(y:Int):=O;have E2:((V-(s+y):Nat):Int)=0:=O;have a2:=uh E1;have a3:=uh E2;clear E1 E2 T6;clear a4 HR aa U ag M a7 T4 T5 cn ci a8 hy a0 a1 hM
          gi_wp2_with fail
          gi_region
          all_goals (
           gi_wp2_with fail
           go_roundw
           case rel=>
            first
             | (refine⟨pre++[(E,y)],by rw[N.out];omega,ah.out,?_⟩;rw[N.out];unfold G9;rw[a2.out,a3.out];exact a5.out.has)
             | (refine⟨pre++[(E,y)],by rw[N.out];omega,aj.out,?_⟩;rw[N.out];unfold G9;rw[a2.out,a3.out];exact a6.out.has)
           case measure=>
            simp only[an]
            first
             | (rw[show(((G.setCell (aD Bi 0) (iV ((E:Int)+(y:Int)))).setCell (aD Bn 0) (iV 0)).drew).cell? (aD Bn 0)=some (iV 0)from a5.out.cell1 0];simp only;omega)
             | (rw[show(((G.setCell (aD Bn 0) (iV 0)).setCell (aD Bi 0) (iV ((E:Int)+(y:Int)))).drew).cell? (aD Bn 0)=some (iV 0)from a6.out.cell1 0];simp only;omega))
        · clear HR cn ci a8 hy a0 a1 hM
          gi_wp2_with fail
          refine f_ (Zg rfl _ _ _) rfl ?_;exact⟨⟨_,rfl⟩,.inr ⟨_,ab⟩⟩
    · have aL:decide ((y:Int) <= (k:Int))=false:=b_ O
      have aF:¬(y:Int) <= (k:Int):=O;clear ak
      by_cases hk:k<64
      · have hM:IntKind.u64.wrap (IntKind.u64.wrap (IntKind.u64.wrap (2^k)-1)*2^r)=((J4 k r:Nat):Int):=WB hk O
        have aq:decide ((k:Int)<64)=true:=k_ O;have au:decide (k<64)=true:=k_ hk
        gi_wp2_with (first
         | (gi_at_call 211;go_loud (refine(N_.2 (a1.out _)).mono ?_;rintro e w1 ⟨rfl,a9⟩;have T1:=(ae.out.call a9).alloc (.cells #[iV q,iV r,uV (J4 k r:Nat)] 312);have HB:=uh T1.below;have a8:=(ac.out.below (w':=w1.alloc (.cells #[iV q,iV r,uV 18446744073709551615] 312)) ((ae.out.call a9).alloc _).below).cell (b:=Bn) (c:=#[iV y]) (e:=3) (f:=(0,0)) (by simp[G9]) 0;obtain⟨fn,tmps,assign,body,hy,hR⟩:=a0.out _ (HJ.out pre wr _ none am.out (Gn HB.out) (fun r e=>by cases e));have HR:=uh hR;clear hR))
         | fail)
        refine HR.out.mono ?_;rintro e G (⟨rfl,U,aa⟩|⟨rfl,ab⟩)
        · have a4:=((ac.out.below HB.out).kp aa)
          have ag:=uh U;have M:=(r_ a4);have b1:G.cell? (aD Bn 0)=some (iV y):=M.has.cell (b:=Bn) (c:=#[iV y]) (e:=3) (f:=(0,0)) (by simp[G9]) 0;have b2:G.cell? (aD Bi 0)=some (iV E):=M.has.cell (b:=Bi) (c:=#[iV E]) (e:=3) (f:=(0,0)) (by simp[G9]) 0;have f2:G.frozen? (aD Bi 0)=false:=M.has.free (b:=Bi) (c:=#[iV E]) (e:=3) (by simp[G9]) 0;have a7:Turn (G9 Bn Bi y E) G ((Bi,.cells #[iV E] 3)::[(Bn,.cells #[iV y] 3)]) G:=M.swap;have T4:=a7.setCell 0 (iV ((E:Int)+(k:Int)));have b3:(G.setCell (aD Bi 0) (iV ((E:Int)+(k:Int)))).cell? (aD Bn 0)=some (iV y):=T4.cell2 0;have f3:(G.setCell (aD Bi 0) (iV ((E:Int)+(k:Int)))).frozen? (aD Bn 0)=false:=T4.free2 0;have T5:=T4.swap.setCell 0 (iV ((y:Int)-(k:Int)));have a5:=uh T5.drew;have ah:=uh (HJ.out _ _ ((G.setCell (aD Bi 0) (iV ((E:Int)+(k:Int)))).setCell (aD Bn 0) (iV ((y:Int)-(k:Int)))).drew none (Z.out _ _ _ (Z.out _ _ _ U ⟨iV ((E:Int)+(k:Int)),.inr rfl⟩) ⟨iV ((y:Int)-(k:Int)),.inl rfl⟩) ⟨rfl,rfl,rfl,g_ _,fun _ _ _=>rfl⟩ (fun r e=>by cases e));have f1:G.frozen? (aD Bn 0)=false:=M.has.free (b:=Bn) (c:=#[iV y]) (e:=3) (by simp[G9]) 0;have T6:=(Jk (M:Turn (G9 Bn Bi y E) G ((Bn,.cells #[iV y] 3)::[(Bi,.cells #[iV E] 3)]) G) 0 (iV ((y:Int)-(k:Int)))).swap
          have f4:(G.setCell (aD Bn 0) (iV ((y:Int)-(k:Int)))).frozen? (aD Bi 0)=false:=T6.free1 0;have a6:=uh ((T6.setCell 0 (iV ((E:Int)+(k:Int)))).swap.drew);have aj:=uh (HJ.out _ _ ((G.setCell (aD Bn 0) (iV ((y:Int)-(k:Int)))).setCell (aD Bi 0) (iV ((E:Int)+(k:Int)))).drew none (Z.out _ _ _ (Z.out _ _ _ U ⟨iV ((y:Int)-(k:Int)),.inl rfl⟩) ⟨iV ((E:Int)+(k:Int)),.inr rfl⟩) ⟨rfl,rfl,rfl,g_ _,fun _ _ _=>rfl⟩ (fun r e=>by cases e));have E1:((i0+(s+k):Nat):Int)=(E:Int)+(k:Int):=O;have E2:((V-(s+k):Nat):Int)=((y:Int)-(k:Int)):=O;have a2:=uh E1;have a3:=uh E2;clear E1 E2 T6;clear a4 HR aa U ag M a7 T4 T5 cn ci a8 hy a0 a1 hM
          gi_wp2_with fail
          gi_region
          all_goals (
           gi_wp2_with fail
           go_roundw
           case rel=>
            first
             | (refine⟨pre++[(E,k)],by rw[N.out];omega,ah.out,?_⟩;rw[N.out];unfold G9;rw[a2.out,a3.out];exact a5.out.has)
             | (refine⟨pre++[(E,k)],by rw[N.out];omega,aj.out,?_⟩;rw[N.out];unfold G9;rw[a2.out,a3.out];exact a6.out.has)
           case measure=>
            simp only[an]
            first
             | (rw[show(((G.setCell (aD Bi 0) (iV ((E:Int)+(k:Int)))).setCell (aD Bn 0) (iV ((y:Int)-(k:Int)))).drew).cell? (aD Bn 0)=some (iV ((y:Int)-(k:Int)))from a5.out.cell1 0];simp only;omega)
             | (rw[show(((G.setCell (aD Bn 0) (iV ((y:Int)-(k:Int)))).setCell (aD Bi 0) (iV ((E:Int)+(k:Int)))).drew).cell? (aD Bn 0)=some (iV ((y:Int)-(k:Int)))from a6.out.cell1 0];simp only;omega))
        · clear HR cn ci a8 hy a0 a1 hM
          gi_wp2_with fail
          refine f_ (Zg rfl _ _ _) rfl ?_;exact⟨⟨_,rfl⟩,.inr ⟨_,ab⟩⟩
      · have hM:IntKind.u64.wrap (18446744073709551615*2^r)=((J4 k r:Nat):Int):=by
          have h0:k=64:=O;have h9:r=0:=O;rw[h0,h9]
          rfl
        have aq:decide ((k:Int)<64)=false:=b_ O;have au:decide (k<64)=false:=b_ hk
        gi_wp2_with (first
         | (gi_at_call 211;go_loud (refine(N_.2 (a1.out _)).mono ?_;rintro e w1 ⟨rfl,a9⟩;have T1:=(ae.out.call a9).alloc (.cells #[iV q,iV r,uV (J4 k r:Nat)] 312);have HB:=uh T1.below;have a8:=(ac.out.below (w':=w1.alloc (.cells #[iV q,iV r,uV 18446744073709551615] 312)) ((ae.out.call a9).alloc _).below).cell (b:=Bn) (c:=#[iV y]) (e:=3) (f:=(0,0)) (by simp[G9]) 0;obtain⟨fn,tmps,assign,body,hy,hR⟩:=a0.out _ (HJ.out pre wr _ none am.out (Gn HB.out) (fun r e=>by cases e));have HR:=uh hR;clear hR))
         | fail)
        refine HR.out.mono ?_;rintro e G (⟨rfl,U,aa⟩|⟨rfl,ab⟩)
        · have a4:=((ac.out.below HB.out).kp aa)
          have ag:=uh U;have M:=(r_ a4);have b1:G.cell? (aD Bn 0)=some (iV y):=M.has.cell (b:=Bn) (c:=#[iV y]) (e:=3) (f:=(0,0)) (by simp[G9]) 0;have b2:G.cell? (aD Bi 0)=some (iV E):=M.has.cell (b:=Bi) (c:=#[iV E]) (e:=3) (f:=(0,0)) (by simp[G9]) 0;have f2:G.frozen? (aD Bi 0)=false:=M.has.free (b:=Bi) (c:=#[iV E]) (e:=3) (by simp[G9]) 0;have a7:Turn (G9 Bn Bi y E) G ((Bi,.cells #[iV E] 3)::[(Bn,.cells #[iV y] 3)]) G:=M.swap;have T4:=a7.setCell 0 (iV ((E:Int)+(k:Int)));have b3:(G.setCell (aD Bi 0) (iV ((E:Int)+(k:Int)))).cell? (aD Bn 0)=some (iV y):=T4.cell2 0;have f3:(G.setCell (aD Bi 0) (iV ((E:Int)+(k:Int)))).frozen? (aD Bn 0)=false:=T4.free2 0;have T5:=T4.swap.setCell 0 (iV ((y:Int)-(k:Int)));have a5:=uh T5.drew;have ah:=uh (HJ.out _ _ ((G.setCell (aD Bi 0) (iV ((E:Int)+(k:Int)))).setCell (aD Bn 0) (iV ((y:Int)-(k:Int)))).drew none (Z.out _ _ _ (Z.out _ _ _ U ⟨iV ((E:Int)+(k:Int)),.inr rfl⟩) ⟨iV ((y:Int)-(k:Int)),.inl rfl⟩) ⟨rfl,rfl,rfl,g_ _,fun _ _ _=>rfl⟩ (fun r e=>by cases e));have f1:G.frozen? (aD Bn 0)=false:=M.has.free (b:=Bn) (c:=#[iV y]) (e:=3) (by simp[G9]) 0;have T6:=(Jk (M:Turn (G9 Bn Bi y E) G ((Bn,.cells #[iV y] 3)::[(Bi,.cells #[iV E] 3)]) G) 0 (iV ((y:Int)-(k:Int)))).swap
          have f4:(G.setCell (aD Bn 0) (iV ((y:Int)-(k:Int)))).frozen? (aD Bi 0)=false:=T6.free1 0;have a6:=uh ((T6.setCell 0 (iV ((E:Int)+(k:Int)))).swap.drew);have aj:=uh (HJ.out _ _ ((G.setCell (aD Bn 0) (iV ((y:Int)-(k:Int)))).setCell (aD Bi 0) (iV ((E:Int)+(k:Int)))).drew none (Z.out _ _ _ (Z.out _ _ _ U ⟨iV ((y:Int)-(k:Int)),.inl rfl⟩) ⟨iV ((E:Int)+(k:Int)),.inr rfl⟩) ⟨rfl,rfl,rfl,g_ _,fun _ _ _=>rfl⟩ (fun r e=>by cases e));have E1:((i0+(s+k):Nat):Int)=(E:Int)+(k:Int):=O;have E2:((V-(s+k):Nat):Int)=((y:Int)-(k:Int)):=O;have a2:=uh E1;have a3:=uh E2;clear E1 E2 T6;clear a4 HR aa U ag M a7 T4 T5 cn ci a8 hy a0 a1 hM
          gi_wp2_with fail
          gi_region
          all_goals (
           gi_wp2_with fail
           go_roundw
           case rel=>
            first
             | (refine⟨pre++[(E,k)],by rw[N.out];omega,ah.out,?_⟩;rw[N.out];unfold G9;rw[a2.out,a3.out];exact a5.out.has)
             | (refine⟨pre++[(E,k)],by rw[N.out];omega,aj.out,?_⟩;rw[N.out];unfold G9;rw[a2.out,a3.out];exact a6.out.has)
           case measure=>
            simp only[an]
            first
             | (rw[show(((G.setCell (aD Bi 0) (iV ((E:Int)+(k:Int)))).setCell (aD Bn 0) (iV ((y:Int)-(k:Int)))).drew).cell? (aD Bn 0)=some (iV ((y:Int)-(k:Int)))from a5.out.cell1 0];simp only;omega)
             | (rw[show(((G.setCell (aD Bn 0) (iV ((y:Int)-(k:Int)))).setCell (aD Bi 0) (iV ((E:Int)+(k:Int)))).drew).cell? (aD Bn 0)=some (iV ((y:Int)-(k:Int)))from a6.out.cell1 0];simp only;omega))
        · clear HR cn ci a8 hy a0 a1 hM
          gi_wp2_with fail
          refine f_ (Zg rfl _ _ _) rfl ?_;exact⟨⟨_,rfl⟩,.inr ⟨_,ab⟩⟩
  · have hz:V-G3 pre=0:=O
    have hs:G3 pre=V:=O;rw[hz]at cn;have am:=uh ap;clear ap af hz ci
    gi_wp2_with fail
    go_end0;exact⟨⟨_,rfl⟩,.inl ⟨pre,hs,am.out⟩⟩
end
section
open Go Go.RowKit
theorem Turn.grownB {l L:List Blk}{w W W':World}{B:Nat}{row:Option Nat}(h:Turn l w L W)(hB:w.heap.size <= B)(V:∀x∈L,x.2.isCells=true)(y:W.grownBy W' row)(U:∀r,row=some r -> B <= r /\ ∃o:Obj,W.heap[r]?= some o /\ o.isCells=false):Turn l w L W':=by
 have N:∀b o,(b,o)∈L -> some b≠row:=fun b o E J=>by
  obtain⟨-,o',G,Z⟩:=U b J.symm;have h1:=h.has.own b o E;rw[h1]at G
  cases G
  have:=V _ E;rw[Z]at this
  cases this
 refine⟨y.os.trans h.os,y.tape.trans h.tape,y.output.trans h.output,Qf h.size y.size,⟨h.has.nd,fun b o E=>?_⟩,h.new,fun b M hn=>?_⟩
 · rw[y.block b (Qk (h.has.own b o E)) (N b o E)]
   exact h.has.own b o E
 · rw[y.block b (Zt M h.size) (fun J=>by have:=(U b J.symm).1;omega)]
   exact h.same b M hn
theorem Gj {F:Fence}{n:Nat}{P:Program}{ops:Array Oper}{Q:Exit -> Act -> World -> Prop}{o:Oper}{rest:List Oper}{a:Act}{w:World}(y:Follows F n P)(r:o.guard=none)(hd:∀c,o.op≠ .defer c)
  (h:o.wp P a w (wpListIn F n P ops Q rest) Q):wpListIn F n P ops Q (o::rest) a w:=by
 have E:Region.wanted o (yielded ops a.tmps)=true:=by simp[Region.wanted,r]
 unfold wpListIn;rw[v_ E];exact y.op o a w _ Q hd h
theorem GT {b:Nat}:∀(vs:List Value) (o:Nat) (W:World),KeepsOthers W (W.setCells b o vs)
 | [],_,W=>KeepsOthers.refl W
 | v::r,o,W=>(KeepsOthers.setCell W (aD b o) v).trans (GT r (o+1) _)
theorem Turn.keepsOthers {L L':List Blk}{W W':World}(h:Turn L W L' W')(E:Has W L)(G:∀x∈L,x.2.isCells=true):KeepsOthers W W':=
 ⟨h.size,fun k o y M=>(h.same k (Qk y) (fun J=>by
  obtain⟨o',r⟩:=GE.1 J;have h1:=E.own k o' r;rw[y]at h1
  cases h1
  have:=G _ r;rw[M]at this
  cases this)).trans y⟩
theorem Gh.cells {e:TypeId}{size:Nat}{ao:Option Addr}{n cap:Nat}{xs:List Value}{l:List Blk}(h:Gh e size ao n cap xs l):∀x∈l,x.2.isCells=true:=by
 rcases h.2.2.2 with⟨_,_,h1⟩|⟨g,y,_,h1,_⟩
 ·rw[h1];intro x r;cases r
 ·rw[h1];intro x r;rw[Qa.1 r];rfl
end
section
open Go Go.RowKit Tryz Go.IntWalk
def TJ:List Value:=[iV 0,iV 2,iV 2,iV 12,iV 14,iV 2,iV 16,iV 24,iV 40,iV 24]
abbrev Fields (w:World):Prop:=w.rangeAt 0 0 TJ
theorem GU {w:World}(h:Fields w){i:Nat}{v:Value}(r:TJ[i]?= some v):w.cell? (aD (0) i)=some v:=by
 have:=h i v r
 rwa [Q_]at this
theorem FE (w:World)(y:Fields w)(f r:Int)(h:f=1 /\ r=4095∨f=3 /\ r=16777215∨f=4 /\ r=16777215):Calls prog 182 #[iV f] w fun e w'=>e=.returned (iV r) /\ w'=w:=by
 have c3:=GU y (i:=3) rfl;have E:=GU y (i:=7) rfl;have G:=GU y (i:=9) rfl;clear y;rcases h with⟨rfl,rfl⟩|⟨rfl,rfl⟩|⟨rfl,rfl⟩
 all_goals
  go_enter func182,ntmps182
  go_wp2
  go_ret;exact⟨rfl,rfl⟩
theorem Vv (w:World)(hF:Fields w)(h:Hd)(hi:HdIn h):Calls prog 139 #[KM h] w fun e w'=>e=.returned (iV (if h.may then 0 else 2)) /\ Below w.heap.size w w':=by
 obtain⟨a,b,c,d⟩:=h;obtain⟨i1,i2,i3,i4⟩:=hi;simp only at i1 i2 i3 i4;have Z:=(r_ (C_ w)).alloc (.cells #[yV a,iV b,iV c,iV d] 125);have c0:=Z.cell1 0;have c1:=Z.cell1 1;have c2:=Z.cell1 2;have c3:=Z.cell1 3;have U:=uh Z;have N:=uh (fun n f r a4=>FE ((w.alloc (.cells #[yV a,iV b,iV c,iV d] 125)).drewN n) (range_below hF (Z.drewN n).below) f r a4);have a0:=uh hF;have y:Hid ((Hd.mk a b c d).may↔1 <= d /\ d<16777216 /\ c<16777216 /\ (a=1 /\ 1 <= b /\ b <= 4095∨(a=2∨a=3) /\ b=0 /\ c=0)):=uh Iff.rfl;obtain⟨r,Hr⟩:∃r:Int,Hid (r=if (Hd.mk a b c d).may then 0 else 2):=⟨_,uh rfl⟩;rw[←Hr.out];have G:(¬(Hd.mk a b c d).may) -> r=2:=fun hn=>by rw[Hr.out,y_ hn]
 have E:(Hd.mk a b c d).may -> r=0:=fun hn=>by rw[Hr.out,v_ hn]
 clear Z Hr hF;have k3:decide ((c:Int)<0)=false:=b_ O
 by_cases a8:d<1
 · obtain rfl:=G (fun h=>by have:=y.out.1 h;omega)
   have k1:decide ((d:Int)<1)=true:=k_ O;clear y G E
   go_enter func139,ntmps139
   go_wp2_with fail
   go_quiet (first|(go_at_call 182;refine Calls.quiet_of_same (N.out _ _ _ (.inr (.inr ⟨rfl,rfl⟩))))|(go_at_call 182;refine Calls.quiet_of_same (N.out _ _ _ (.inr (.inl ⟨rfl,rfl⟩)))))
   go_wp2
   go_ret;exact⟨rfl,(U.out.drewN _).below⟩
 have k1:decide ((d:Int)<1)=false:=b_ O;have n1:¬(d:Int)<1:=O
 by_cases a9:16777215<d
 · obtain rfl:=G (fun h=>by have:=y.out.1 h;omega)
   have k2:decide ((16777215:Int)<(d:Int))=true:=k_ O;have n2:(16777215:Int)<(d:Int):=O;clear y G E
   go_enter func139,ntmps139
   go_wp2_with fail
   go_quiet (first|(go_at_call 182;refine Calls.quiet_of_same (N.out _ _ _ (.inr (.inr ⟨rfl,rfl⟩))))|(go_at_call 182;refine Calls.quiet_of_same (N.out _ _ _ (.inr (.inl ⟨rfl,rfl⟩)))))
   go_wp2
   go_ret;exact⟨rfl,(U.out.drewN _).below⟩
 have k2:decide ((16777215:Int)<(d:Int))=false:=b_ O;have n2:¬(16777215:Int)<(d:Int):=O
 by_cases a7:16777215<c
 · obtain rfl:=G (fun h=>by have:=y.out.1 h;omega)
   have k4:decide ((16777215:Int)<(c:Int))=true:=k_ O;have n4:(16777215:Int)<(c:Int):=O;clear y G E
   go_enter func139,ntmps139
   go_wp2_with fail
   go_quiet (first|(go_at_call 182;refine Calls.quiet_of_same (N.out _ _ _ (.inr (.inr ⟨rfl,rfl⟩))))|(go_at_call 182;refine Calls.quiet_of_same (N.out _ _ _ (.inr (.inl ⟨rfl,rfl⟩)))))
   go_wp2
   go_ret;exact⟨rfl,(U.out.drewN _).below⟩
 have k4:decide ((16777215:Int)<(c:Int))=false:=b_ O;have n4:¬(16777215:Int)<(c:Int):=O
 go_enter func139,ntmps139
 go_wp2_with fail
 go_quiet (first|(go_at_call 182;refine Calls.quiet_of_same (N.out _ _ _ (.inr (.inr ⟨rfl,rfl⟩))))|(go_at_call 182;refine Calls.quiet_of_same (N.out _ _ _ (.inr (.inl ⟨rfl,rfl⟩)))))
 go_wp2_with fail
 refine J1 (fun W=>Turn [] w [(w.heap.size,.cells #[yV a,iV b,iV c,iV d] 125)] W) (U.out.drewN _) fun W2 T2=>?_;clear c0 c1 c2 c3 U N;have c0:=T2.cell1 0;have c1:=T2.cell1 1;have c2:=T2.cell1 2;have J:=uh (fun n=>FE (W2.drewN n) (range_below a0.out (T2.drewN n).below) 1 4095 (.inl ⟨rfl,rfl⟩));have M:=uh T2;clear T2
 by_cases a1:a=1
 · subst a1
   replace c0:_=some (yV 1):=c0
   by_cases a5:b<1
   · obtain rfl:=G (fun h=>by have:=y.out.1 h;omega)
     have k5:decide ((1:Int) <= (b:Int))=false:=b_ O;have n5:¬(1:Int) <= (b:Int):=O;clear y G E
     go_quiet (first|(go_at_call 182;refine Calls.quiet_of_same (J.out _)))
     go_wp2
     go_ret;exact⟨rfl,(M.out.drewN _).below⟩
   have k5:decide ((1:Int) <= (b:Int))=true:=k_ O;have n5:(1:Int) <= (b:Int):=O
   by_cases a6:4095<b
   · obtain rfl:=G (fun h=>by have:=y.out.1 h;omega)
     have k6:decide ((b:Int) <= 4095)=false:=b_ O;clear y G E
     go_quiet (first|(go_at_call 182;refine Calls.quiet_of_same (J.out _)))
     go_wp2
     go_ret;exact⟨rfl,(M.out.drewN _).below⟩
   · obtain rfl:=E (y.out.2 ⟨by omega,by omega,by omega,.inl ⟨rfl,by omega,by omega⟩⟩)
     have k6:decide ((b:Int) <= 4095)=true:=k_ O;clear y G E
     go_quiet (first|(go_at_call 182;refine Calls.quiet_of_same (J.out _)))
     go_wp2
     go_ret;exact⟨rfl,(M.out.drewN _).below⟩
 have q1:¬(a:Int)=1:=O;have p1:((a:Int) == 1)=false:=by rw[j_];exact q1
 by_cases V:a=2∨a=3
 · by_cases a2:b=0
   · subst a2
     by_cases a3:c=0
     · subst a3
       obtain rfl:=E (y.out.2 ⟨by omega,by omega,by omega,.inr ⟨V,rfl,rfl⟩⟩);clear y G E;rcases V with rfl|rfl
       · replace c0:_=some (yV 2):=c0
         go_quiet (first|(go_at_call 182;refine Calls.quiet_of_same (J.out _)))
         go_wp2
         go_ret;exact⟨rfl,(M.out.drewN _).below⟩
       · replace c0:_=some (yV 3):=c0
         go_quiet (first|(go_at_call 182;refine Calls.quiet_of_same (J.out _)))
         go_wp2
         go_ret;exact⟨rfl,(M.out.drewN _).below⟩
     · obtain rfl:=G (fun h=>by have:=y.out.1 h;omega)
       have k8:((c:Int) == 0)=false:=(by rw[j_];omega);have n8:¬(c:Int)=0:=O;clear y G E;rcases V with rfl|rfl
       · replace c0:_=some (yV 2):=c0
         go_quiet (first|(go_at_call 182;refine Calls.quiet_of_same (J.out _)))
         go_wp2
         go_ret;exact⟨rfl,(M.out.drewN _).below⟩
       · replace c0:_=some (yV 3):=c0
         go_quiet (first|(go_at_call 182;refine Calls.quiet_of_same (J.out _)))
         go_wp2
         go_ret;exact⟨rfl,(M.out.drewN _).below⟩
   · obtain rfl:=G (fun h=>by have:=y.out.1 h;omega)
     have k7:((b:Int) == 0)=false:=(by rw[j_];omega);have n7:¬(b:Int)=0:=O;clear y G E;rcases V with rfl|rfl
     · replace c0:_=some (yV 2):=c0
       go_quiet (first|(go_at_call 182;refine Calls.quiet_of_same (J.out _)))
       go_wp2
       go_ret;exact⟨rfl,(M.out.drewN _).below⟩
     · replace c0:_=some (yV 3):=c0
       go_quiet (first|(go_at_call 182;refine Calls.quiet_of_same (J.out _)))
       go_wp2
       go_ret;exact⟨rfl,(M.out.drewN _).below⟩
 · obtain rfl:=G (fun h=>by have:=y.out.1 h;omega)
   have q2:¬(a:Int)=2:=O;have q3:¬(a:Int)=3:=O;have p2:((a:Int) == 2)=false:=(by rw[j_];exact q2);have p3:((a:Int) == 3)=false:=(by rw[j_];exact q3);clear y G E a1 V
   go_quiet (first|(go_at_call 182;refine Calls.quiet_of_same (J.out _)))
   go_wp2
   go_ret;exact⟨rfl,(M.out.drewN _).below⟩
theorem RB {x n:Nat}(E:x<18446744073709551616)(r:n <= 32):bits .and .u64 (x:Int) (((2^n-1:Nat):Int))=((x%2^n:Nat):Int):=by
 have y:2^n-1<18446744073709551616:=by
  have:2^n <= 2^32:=Yf O r;omega
 rw[u64_and_nat x (2^n-1) E y,Nat.and_two_pow_sub_one_eq_mod]
theorem CU (w:World)(y:Fields w)(b:Nat)(v:Nat)(hv:v<18446744073709551616)(hc:w.cell? (aD b 0)=some (uV v))(f r:Int)
  (h:f=0 /\ r=((v%4:Nat):Int)∨f=1 /\ r=((v/4%4096:Nat):Int)∨f=2 /\ r=((v/16384%4:Nat):Int)∨f=3 /\ r=((v/65536%16777216:Nat):Int)∨f=4 /\ r=((v/1099511627776:Nat):Int)):
  Calls prog 181 #[iV f,pt b] w fun e w'=>e=.returned (iV r) /\ Below w.heap.size w w':=by
 have c0:=GU y (i:=0) rfl;have M:=GU y (i:=1) rfl;have N:=GU y (i:=2) rfl;have c3:=GU y (i:=3) rfl;have c4:=GU y (i:=4) rfl;have c5:=GU y (i:=5) rfl;have U:=GU y (i:=6) rfl;have V:=GU y (i:=7) rfl;have Z:=GU y (i:=8) rfl;have c9:=GU y (i:=9) rfl;have G:=uh (r_ (C_ w));clear y;rcases h with⟨rfl,rfl⟩|⟨rfl,rfl⟩|⟨rfl,rfl⟩|⟨rfl,rfl⟩|⟨rfl,rfl⟩
 · have J:bits .and .u64 ((v:Int)) 3=((v%4:Nat):Int):=by
     have h:=RB (x:=v) (n:=2) O O;rw[show(((2^2-1:Nat):Int))=3 from rfl,show(2:Nat)^2=4 from rfl]at h;rw[show((v:Nat):Int)=(v:Int)by omega]at h;rw[h]
     first|done|omega
   have E:v%4<16777216:=O;generalize v%4=x at*
   go_enter func181,ntmps181
   go_wp2_with fail
   go_quiet (fail)
   go_wp2
   go_ret;exact⟨rfl,(G.out.drewN _).below⟩
 · have J:bits .and .u64 ((v:Int)/4) 4095=((v/4%4096:Nat):Int):=by
     have h:=RB (x:=v/4) (n:=12) O O;rw[show(((2^12-1:Nat):Int))=4095 from rfl,show(2:Nat)^12=4096 from rfl]at h;rw[show((v/4:Nat):Int)=(v:Int)/4 by omega]at h;rw[h]
     first|done|omega
   have E:v/4%4096<16777216:=O;generalize v/4%4096=x at*
   go_enter func181,ntmps181
   go_wp2_with fail
   go_quiet (fail)
   go_wp2
   go_ret;exact⟨rfl,(G.out.drewN _).below⟩
 · have J:bits .and .u64 ((v:Int)/16384) 3=((v/16384%4:Nat):Int):=by
     have h:=RB (x:=v/16384) (n:=2) O O;rw[show(((2^2-1:Nat):Int))=3 from rfl,show(2:Nat)^2=4 from rfl]at h;rw[show((v/16384:Nat):Int)=(v:Int)/16384 by omega]at h;rw[h]
     first|done|omega
   have E:v/16384%4<16777216:=O;generalize v/16384%4=x at*
   go_enter func181,ntmps181
   go_wp2_with fail
   go_quiet (fail)
   go_wp2
   go_ret;exact⟨rfl,(G.out.drewN _).below⟩
 · have J:bits .and .u64 ((v:Int)/65536) 16777215=((v/65536%16777216:Nat):Int):=by
     have h:=RB (x:=v/65536) (n:=24) O O;rw[show(((2^24-1:Nat):Int))=16777215 from rfl,show(2:Nat)^24=16777216 from rfl]at h;rw[show((v/65536:Nat):Int)=(v:Int)/65536 by omega]at h;rw[h]
     first|done|omega
   have E:v/65536%16777216<16777216:=O;generalize v/65536%16777216=x at*
   go_enter func181,ntmps181
   go_wp2_with fail
   go_quiet (fail)
   go_wp2
   go_ret;exact⟨rfl,(G.out.drewN _).below⟩
 · have J:bits .and .u64 ((v:Int)/1099511627776) 16777215=((v/1099511627776:Nat):Int):=by
     have h:=RB (x:=v/1099511627776) (n:=24) O O;rw[show(((2^24-1:Nat):Int))=16777215 from rfl,show(2:Nat)^24=16777216 from rfl]at h;rw[show((v/1099511627776:Nat):Int)=(v:Int)/1099511627776 by omega]at h;rw[h]
     first|done|omega
   have E:v/1099511627776<16777216:=O;generalize v/1099511627776=x at*
   go_enter func181,ntmps181
   go_wp2_with fail
   go_quiet (fail)
   go_wp2
   go_ret;exact⟨rfl,(G.out.drewN _).below⟩
theorem LG (w:World)(hF:Fields w)(v:Nat)(hv:v<18446744073709551616):Calls prog 137 #[uV v] w fun e w'=>e=.returned (.tuple #[KM (N0 v),iV (if (Jv v).isSome then 0 else 7)]) /\ Below w.heap.size w w':=by
 have E:=Gr;have LG:Jv v=if (MR v).may /\ Sd v=0 then some (MR v)else none:=rfl;have a1:=uh hF;obtain⟨J,q1,b1⟩:∃J:Nat,v%4=J /\ J<4:=⟨_,rfl,by omega⟩;obtain⟨M,q2,b2⟩:∃M:Nat,v/4%4096=M /\ M<4096:=⟨_,rfl,by omega⟩;obtain⟨N,q3,b3⟩:∃N:Nat,v/65536%16777216=N /\ N<16777216:=⟨_,rfl,by omega⟩;obtain⟨U,q4,b4⟩:∃U:Nat,v/1099511627776=U /\ U<16777216:=⟨_,rfl,by omega⟩;obtain⟨x5,q5,b5⟩:∃x5:Nat,v/16384%4=x5 /\ x5<4:=⟨_,rfl,by omega⟩;unfold MR Sd at LG;rw[q1,q2,q3,q4,q5]at LG;have a4:=uh (fun W hF=>Vv W hF ⟨J,M,N,U⟩ ⟨by simp only;omega,by simp only;omega,by simp only;omega,by simp only;omega⟩);obtain⟨ta,tb,tc,td,er,Hv⟩:∃ta tb tc td er,Hid (N0 v=⟨ta,tb,tc,td⟩ /\ (if (Jv v).isSome=true then(0:Int)else 7)=er):=⟨_,_,_,_,_,uh ⟨rfl,rfl⟩⟩;rw[Hv.out.1,Hv.out.2]
 have V:∀h,Jv v=some h -> h.tag=ta /\ h.typ=tb /\ h.len=tc /\ h.size=td /\ er=0:=fun h hh=>by
  have h1:=Hv.out;unfold N0 at h1;rw[hh]at h1;obtain⟨rfl,rfl⟩:=h1;exact⟨rfl,rfl,rfl,rfl,rfl⟩
 have y:Jv v=none -> ta=0 /\ tb=0 /\ tc=0 /\ td=0 /\ er=7:=fun hh=>by
  have h1:=Hv.out;unfold N0 at h1;rw[hh]at h1;obtain⟨h1,rfl⟩:=h1
  cases h1
  exact⟨rfl,rfl,rfl,rfl,rfl⟩
 clear Hv hF;have HC:=uh (fun W (T:Turn [] w [(w.heap.size+1,zH),(w.heap.size,.cells #[uV v] 36)] W)=>(T.cell2 0:W.cell? (aD w.heap.size 0)=some (uV v)));have T0:=((r_ (C_ w)).alloc (.cells #[uV v] 36)).alloc zH;rw[Y_]at T0;have HT:=uh T0;clear T0;have a7:=GP ⟨J,M,N,U⟩;have a8:=LA
 go_enter func137,ntmps137
 go_upto_region 3 with(first
  | (go_at_call 181;refine(CU _ (range_below a1.out HT.out.below) w.heap.size v hv (HC.out _ HT.out) _ _ (by first|exact .inl ⟨rfl,rfl⟩|exact .inr (.inl ⟨rfl,rfl⟩)|exact .inr (.inr (.inl ⟨rfl,rfl⟩))|exact .inr (.inr (.inr (.inl ⟨rfl,rfl⟩)))|exact .inr (.inr (.inr (.inr ⟨rfl,rfl⟩))))).mono ?_;rintro e wn ⟨rfl,a6⟩;have a3:=uh (HT.out.call a6);clear HT a6;have HT:=uh a3.out;clear a3;simp only[q1,q2,q3,q4])
  | (show sW 125;refine h_ rfl 125 _ _ rfl _ 0 #[yV J,iV M,iV N,iV U] rfl rfl (HT.out.alloc zH).there1 E a7 ?_;have a2:=uh ((HT.out.alloc zH).laid [yV J,iV M,iV N,iV U] rfl);have a9:=a2.out.range1;clear HT)
  | fail)
 go_wp2_with (first
  | (show lW 125;refine J_ rfl 125 _ rfl wn.heap.size 0 rfl [yV J,iV M,iV N,iV U] _ a9 underlying125 rfl E ?_)
  | fail)
 refine(a4.out _ (range_below a1.out a2.out.below)).mono ?_;rintro e w6 ⟨rfl,a5⟩;have r:=uh (a2.out.call a5);clear a2 a9 a5 a4 HC
 by_cases hm:(Hd.mk J M N U).may
 · simp only[v_ hm]
   by_cases h5:x5=0
   · rw[v_ ⟨hm,h5⟩]at LG
     obtain⟨rfl,rfl,rfl,rfl,rfl⟩:=V _ LG;subst h5;clear LG hm V y q1 q2 q3 q4
     go_wp2_with (first
      | (go_at_call 181;refine(CU _ (range_below a1.out r.out.below) w.heap.size v hv (r.out.cell3 0) _ _ (by first|exact .inr (.inr (.inl ⟨rfl,rfl⟩)))).mono ?_;rintro e ab ⟨rfl,Z⟩;have a0:=uh (r.out.call Z);clear r Z;simp only[q5])
      | (show lW 125;refine J_ rfl 125 _ rfl wn.heap.size 0 rfl [yV J,iV M,iV N,iV U] _ a0.out.range1 underlying125 rfl E ?_)
      | (show sW 125;refine h_ rfl 125 _ _ rfl _ 0 #[yV J,iV M,iV N,iV U] rfl rfl a0.out.there2 E a7 ?_;have G:=uh (a0.out.laid2 [yV J,iV M,iV N,iV U] rfl))
      | fail)
     refine f_ (Gs results137 _ _ _ _ _ rfl G.out.range2 underlying125 rfl E) rfl ⟨rfl,G.out.below⟩
   · rw[y_ (fun h=>h5 h.2)]at LG
     obtain⟨rfl,rfl,rfl,rfl,rfl⟩:=y LG;have aa:¬(x5:Int)=0:=O;have ac:((x5:Int) != 0)=true:=(by rw[Qe];exact aa);clear LG hm V y q1 q2 q3 q4 h5
     go_wp2_with (first
      | (go_at_call 181;refine(CU _ (range_below a1.out r.out.below) w.heap.size v hv (r.out.cell3 0) _ _ (by first|exact .inr (.inr (.inl ⟨rfl,rfl⟩)))).mono ?_;rintro e ab ⟨rfl,Z⟩;have a0:=uh (r.out.call Z);clear r Z;simp only[q5])
      | (show sW 125;refine h_ rfl 125 _ _ rfl _ 0 #[yV 0,iV 0,iV 0,iV 0] rfl rfl a0.out.there2 E a8 ?_;have G:=uh (a0.out.laid2 [yV 0,iV 0,iV 0,iV 0] rfl))
      | fail)
     refine f_ (Gs results137 _ _ _ _ _ rfl G.out.range2 underlying125 rfl E) rfl ⟨rfl,G.out.below⟩
 · simp only[y_ hm]
   rw[y_ (fun h=>hm h.1)]at LG;obtain⟨rfl,rfl,rfl,rfl,rfl⟩:=y LG;clear LG hm V y q1 q2 q3 q4
   go_wp2_with (first
    | (show sW 125;refine h_ rfl 125 _ _ rfl _ 0 #[yV 0,iV 0,iV 0,iV 0] rfl rfl r.out.there2 E a8 ?_;have G:=uh (r.out.laid2 [yV 0,iV 0,iV 0,iV 0] rfl))
    | fail)
   refine f_ (Gs results137 _ _ _ _ _ rfl G.out.range2 underlying125 rfl E) rfl ⟨rfl,G.out.below⟩
theorem Vk {a v k:Nat}(r:a<2^k)(y:v*2^k+a<18446744073709551616):bits .or .u64 (a:Int) ((v*2^k:Nat):Int)=((a+v*2^k:Nat):Int):=by
 have h:=u64_or_nat a (v*2^k) O O;rw[h];have h2:=Nat.two_pow_add_eq_or_of_lt (i:=k) (b:=a) r v;rw[Nat.or_comm,Nat.mul_comm v,←h2,Nat.add_comm]
theorem WH {l L:List Blk}{w0:World}(w:World)(G:Fields w)(b a v:Nat)(T:Turn l w0 ((b,.cells #[uV a] 36)::L) w)(f:Int)(z:Nat)
  (h:f=0 /\ a<1 /\ v<4 /\ z=a+v*1∨f=1 /\ a<4 /\ v<4096 /\ z=a+v*4∨f=3 /\ a<65536 /\ v<16777216 /\ z=a+v*65536∨f=4 /\ a<1099511627776 /\ v<16777216 /\ z=a+v*1099511627776):
  Calls prog 177 #[iV f,iV v,pt b] w fun e w'=>(∃u,e=.returned u) /\ Turn l w0 ((b,.cells #[uV z] 36)::L) w':=by
 have c0:=GU G (i:=0) rfl;have N:=GU G (i:=2) rfl;have U:=GU G (i:=6) rfl;have V:=GU G (i:=8) rfl;have Z:w.cell? (aD b 0)=some (uV a):=T.cell1 0;have hf:w.frozen? (aD b 0)=false:=T.free1 0;have J:=uh T;clear G T;rcases h with⟨rfl,h1,h2,rfl⟩|⟨rfl,h1,h2,rfl⟩|⟨rfl,h1,h2,rfl⟩|⟨rfl,h1,h2,rfl⟩
 · have r:bits .or .u64 (a:Int) ((v:Int))=((a+v*1:Nat):Int):=by
     have h:=Vk (a:=a) (v:=v) (k:=0) (by simp only[Nat.reducePow];omega) (by simp only[Nat.reducePow];omega);rw[show(2:Nat)^0=1 from rfl]at h;rw[show((v*1:Nat):Int)=(v:Int)by omega]at h;exact h
   have M:a+v*1<18446744073709551616:=O;rw[show a+v*1=a+v*1 from rfl];generalize y:a+v*1=z at*;clear y;have E:=uh r;clear r
   go_enter func177,ntmps177
   go_wp2_with fail
   go_still_tail 9,kr
   change wpList _ _ _ _ _ w.drew
   go_wp2
   go_end0;refine⟨⟨_,rfl⟩,?_⟩;rw[E.out];exact(J.out.setCell 0 (uV z)).drew
 · have r:bits .or .u64 (a:Int) ((v:Int)*4)=((a+v*4:Nat):Int):=by
     have h:=Vk (a:=a) (v:=v) (k:=2) (by simp only[Nat.reducePow];omega) (by simp only[Nat.reducePow];omega);rw[show(2:Nat)^2=4 from rfl]at h;rw[show((v*4:Nat):Int)=(v:Int)*4 by omega]at h;exact h
   have M:a+v*4<18446744073709551616:=O;rw[show a+v*4=a+v*4 from rfl];generalize y:a+v*4=z at*;clear y;have E:=uh r;clear r
   go_enter func177,ntmps177
   go_wp2_with fail
   go_still_tail 9,kr
   change wpList _ _ _ _ _ w.drew
   go_wp2
   go_end0;refine⟨⟨_,rfl⟩,?_⟩;rw[E.out];exact(J.out.setCell 0 (uV z)).drew
 · have r:bits .or .u64 (a:Int) ((v:Int)*65536)=((a+v*65536:Nat):Int):=by
     have h:=Vk (a:=a) (v:=v) (k:=16) (by simp only[Nat.reducePow];omega) (by simp only[Nat.reducePow];omega);rw[show(2:Nat)^16=65536 from rfl]at h;rw[show((v*65536:Nat):Int)=(v:Int)*65536 by omega]at h;exact h
   have M:a+v*65536<18446744073709551616:=O;rw[show a+v*65536=a+v*65536 from rfl];generalize y:a+v*65536=z at*;clear y;have E:=uh r;clear r
   go_enter func177,ntmps177
   go_wp2_with fail
   go_still_tail 9,kr
   change wpList _ _ _ _ _ w.drew
   go_wp2
   go_end0;refine⟨⟨_,rfl⟩,?_⟩;rw[E.out];exact(J.out.setCell 0 (uV z)).drew
 · have r:bits .or .u64 (a:Int) ((v:Int)*1099511627776)=((a+v*1099511627776:Nat):Int):=by
     have h:=Vk (a:=a) (v:=v) (k:=40) (by simp only[Nat.reducePow];omega) (by simp only[Nat.reducePow];omega);rw[show(2:Nat)^40=1099511627776 from rfl]at h;rw[show((v*1099511627776:Nat):Int)=(v:Int)*1099511627776 by omega]at h;exact h
   have M:a+v*1099511627776<18446744073709551616:=O;rw[show a+v*1099511627776=a+v*1099511627776 from rfl];generalize y:a+v*1099511627776=z at*;clear y;have E:=uh r;clear r
   go_enter func177,ntmps177
   go_wp2_with fail
   go_still_tail 9,kr
   change wpList _ _ _ _ _ w.drew
   go_wp2
   go_end0;refine⟨⟨_,rfl⟩,?_⟩;rw[E.out];exact(J.out.setCell 0 (uV z)).drew
theorem gH (w:World)(hF:Fields w)(h:Hd)(hm:h.may):Calls prog 131 #[KM h] w fun e w'=>e=.returned (.tuple #[uV (h.word:Nat),iV 0]) /\ Below w.heap.size w w':=by
 have a4:=Gr;have G:=uh hF
 have a2:HdIn h:=by
  obtain⟨m1,m2,m3,m4⟩:=hm;exact⟨by omega,by omega,by omega,by omega⟩
 have N:=uh (fun W hF=>Vv W hF h a2);rw[v_ hm]at N;obtain⟨a,b,c,d⟩:=h;obtain⟨m1,m2,m3,m4⟩:=hm;simp only at m1 m2 m3 m4;have ha:a<4 /\ b<4096:=O;obtain⟨z1,q1⟩:∃z,z=0+a*1:=⟨_,rfl⟩;obtain⟨z2,q2⟩:∃z,z=z1+b*4:=⟨_,rfl⟩;obtain⟨z3,q3⟩:∃z,z=z2+c*65536:=⟨_,rfl⟩;obtain⟨z4,q4⟩:∃z,z=z3+d*1099511627776:=⟨_,rfl⟩;have hw:(Hd.mk a b c d).word=z4:=by unfold Hd.word;simp only;omega
 rw[hw];have P0:=uh (show 0<1 /\ a<4 /\ z1=0+a*1 from⟨by omega,by omega,q1⟩);have P1:=uh (show z1<4 /\ b<4096 /\ z2=z1+b*4 from⟨by omega,by omega,q2⟩);have P3:=uh (show z2<65536 /\ c<16777216 /\ z3=z2+c*65536 from⟨by omega,by omega,q3⟩);have P4:=uh (show z3<1099511627776 /\ d<16777216 /\ z4=z3+d*1099511627776 from⟨by omega,by omega,q4⟩);clear q1 q2 q3 q4 hw m4 a2 hF;have U:True:=trivial;have V:True:=trivial;have Z:True:=trivial;have a0:True:=trivial;have T0:=(r_ (C_ w)).alloc (.cells #[yV a,iV b,iV c,iV d] 125);have a3:=T0.range1;have M:=uh T0;clear T0
 go_enter func131,ntmps131
 go_wp2_with fail
 refine(N.out _ (range_below G.out M.out.below)).mono ?_;rintro e w1 ⟨rfl,a1⟩;have T1:=(M.out.call a1).alloc (.cells #[uV 0] 36);have c0:=T1.cell2 0;have r:Hid (Turn [] w [(w1.heap.size,.cells #[uV ((0:Nat):Int)] 36),(w.heap.size,.cells #[yV a,iV b,iV c,iV d] 125)] (w1.alloc (.cells #[uV 0] 36))):=uh T1;clear T1 a1 M a3 N
 go_wp2_with (first
  | (go_at_call 177;have J:=U;refine(WH _ (range_below G.out r.out.below) _ _ a r.out 0 z1 (.inl ⟨rfl,P0.out⟩)).mono ?_;rintro e a5 ⟨⟨u0,rfl⟩,E⟩;have y:=uh E;clear r E U J;have r:=uh y.out;clear y;have c0:=r.out.cell2 0;have c1:=r.out.cell2 1;have c2:=r.out.cell2 2;have c3:=r.out.cell2 3;have cw:=r.out.cell1 0)
  | (go_at_call 177;have J:=V;refine(WH _ (range_below G.out r.out.below) _ _ b r.out 1 z2 (.inr (.inl ⟨rfl,P1.out⟩))).mono ?_;rintro e a6 ⟨⟨u1,rfl⟩,E⟩;have y:=uh E;clear r E V J;have r:=uh y.out;clear y;have c0:=r.out.cell2 0;have c1:=r.out.cell2 1;have c2:=r.out.cell2 2;have c3:=r.out.cell2 3;have cw:=r.out.cell1 0)
  | (go_at_call 177;have J:=Z;refine(WH _ (range_below G.out r.out.below) _ _ c r.out 3 z3 (.inr (.inr (.inl ⟨rfl,P3.out⟩)))).mono ?_;rintro e a7 ⟨⟨u3,rfl⟩,E⟩;have y:=uh E;clear r E Z J;have r:=uh y.out;clear y;have c0:=r.out.cell2 0;have c1:=r.out.cell2 1;have c2:=r.out.cell2 2;have c3:=r.out.cell2 3;have cw:=r.out.cell1 0)
  | (go_at_call 177;have J:=a0;refine(WH _ (range_below G.out r.out.below) _ _ d r.out 4 z4 (.inr (.inr (.inr ⟨rfl,P4.out⟩)))).mono ?_;rintro e a8 ⟨⟨u4,rfl⟩,E⟩;have y:=uh E;clear r E a0 J;have r:=uh y.out;clear y;have c0:=r.out.cell2 0;have c1:=r.out.cell2 1;have c2:=r.out.cell2 2;have c3:=r.out.cell2 3;have cw:=r.out.cell1 0)
  | fail)
 refine f_ (E_ rfl _ _ _) rfl ?_;exact⟨rfl,r.out.below⟩
structure TabAt (w:World)(t:Nat)(ao:Option Addr)(cap:Nat)(L:List Ty):Prop where
 c0:w.cell? (aD t 0)=some (.slice ao L.length cap)
 src:Src w ao L.length cap 3 (tys L)
theorem TabAt.below {w w':World}{t:Nat}{ao:Option Addr}{cap:Nat}{L:List Ty}(h:TabAt w t ao cap L)(r:Below w.heap.size w w'):TabAt w' t ao cap L:=
 ⟨(r.cell (p:=(aD t 0)) (c_ w _ h.c0)).trans h.c0,h.src.below r⟩
theorem jY (w:World)(L:List Ty)(tb:Nat)(ao:Option Addr)(cap:Nat)(hT:TabAt w tb ao cap L)(hL:L.length <= 1000)(G:Int):
  Calls prog 138 #[pt tb,iV G] w fun e w'=>e=.returned (.tuple #[K7 (tyAt L G),.bool (Kc L G).isSome]) /\ Below w.heap.size w w':=by
 have r:=JZ;have J:=(r_ (C_ w)).alloc zT;have V:(w.alloc zT).there w.heap.size 0 3:=J.there1;have a0:=J.range1;have U:=hT.below J.below;have d0:=U.c0;have Z:=U.src;unfold tyAt;clear hT U
 cases hg:Kc L G with
 | none=>
  have E:=TA hg;have N:=J.laid [yV 0,iV 0,uV 0] rfl;have y:=uh N;have M:=KH ⟨0,0,0⟩;clear hg J N Z;rcases E with E|E
  · have e1:decide (G<1)=true:=k_ E
    go_enter func138,ntmps138
    go_wp2_with (first
     | (show lW 79;refine J_ rfl 79 _ rfl w.heap.size 0 rfl [yV 0,iV 0,uV 0] _ a0 underlying79 rfl r ?_)
     | (show sW 79;refine h_ rfl 79 _ _ rfl _ 0 #[yV 0,iV 0,uV 0] rfl rfl V r M ?_)
     | fail)
    refine f_ (Gs results138 _ _ _ _ _ rfl y.out.range1 underlying79 rfl r) rfl ⟨rfl,y.out.below⟩
  · have e1:decide (G<1)=false:=b_ O
    have e2:decide ((L.length:Int)<G)=true:=k_ E;have e3:¬G<1:=O
    go_enter func138,ntmps138
    go_wp2_with (first
     | (show lW 79;refine J_ rfl 79 _ rfl w.heap.size 0 rfl [yV 0,iV 0,uV 0] _ a0 underlying79 rfl r ?_)
     | (show sW 79;refine h_ rfl 79 _ _ rfl _ 0 #[yV 0,iV 0,uV 0] rfl rfl V r M ?_)
     | fail)
    refine f_ (Gs results138 _ _ _ _ _ rfl y.out.range1 underlying79 rfl r) rfl ⟨rfl,y.out.below⟩
 | some t=>
  obtain⟨i,rfl,hi,a3⟩:=KZ hg;have a2:i <= 1000:=O;obtain⟨b,off,rfl,-⟩:=Z.form (by rw[M3];omega);have a1:=Z.ty hi;obtain⟨k,m,mk⟩:=t;have N:=J.laid (Kz ⟨k,m,mk⟩) rfl;have y:=uh N;have M:=KH ⟨k,m,mk⟩;have e1:decide (((i:Int)+1)<1)=false:=b_ O;have e2:decide ((L.length:Int)<(i:Int)+1)=false:=b_ O;have e3:(i:Int)<(L.length:Int):=O;have e4:¬((L.length:Int)<(i:Int)+1):=O;clear hg J N Z hi
  go_enter func138,ntmps138
  go_wp2_with (first
   | (show lW 79;refine J_ rfl 79 _ rfl b (off+i*3) rfl [yV k,iV m,uV mk] _ a1 underlying79 rfl r ?_)
   | (show sW 79;refine h_ rfl 79 _ _ rfl _ 0 #[yV k,iV m,uV mk] rfl rfl V r M ?_)
   | fail)
  refine f_ (Gs results138 _ _ _ _ _ rfl y.out.range1 underlying79 rfl r) rfl ⟨rfl,y.out.below⟩
theorem QT (w:World)(L:List Ty)(tb:Nat)(ao:Option Addr)(cap:Nat)(hT:TabAt w tb ao cap L)(hL:L.length <= 1000)(G:Int):
  Calls prog 84 #[pt tb,iV G] w fun e w'=>e=.returned (.tuple #[K7 (tyAt L G),iV (if (Kc L G).isSome then 0 else 3)]) /\ Below w.heap.size w w':=by
 have r:=JZ;have T1:=(r_ (C_ w)).alloc zT;have V:=uh (jY _ L tb ao cap (hT.below T1.below) hL G);have U:=uh T1
 have hz:(Kc L G).isSome=false -> tyAt L G=⟨0,0,0⟩:=fun h=>by
  unfold tyAt
  cases hg:Kc L G with
  | none=>rfl
  | some t=>rw[hg]at h;cases h
 generalize tyAt L G=t at*;generalize(Kc L G).isSome=bs at*;clear T1 hT;obtain⟨k,m,mk⟩:=t;have Z:=KH ⟨k,m,mk⟩
 cases bs
 · have a1:=hz rfl
   cases a1
   go_enter func84,ntmps84
   go_wp2_with fail
   refine V.out.mono ?_;rintro e w1 ⟨rfl,M⟩;have N:=(U.out.call M).alloc zT;have E:=uh (N.laid [yV 0,iV 0,uV 0] rfl);have y:(w1.alloc zT).there w1.heap.size 0 3:=N.there1;have J:=uh (E.out.laid2 [yV 0,iV 0,uV 0] rfl);clear N M U V
   go_wp2_with (first
    | (show sW 79;refine h_ rfl 79 _ _ rfl _ 0 #[yV 0,iV 0,uV 0] rfl rfl y r Z ?_;clear y)
    | (show sW 79;refine h_ rfl 79 _ _ rfl _ 0 #[yV 0,iV 0,uV 0] rfl rfl E.out.there2 r Z ?_)
    | fail)
   refine f_ (Gs results84 _ _ _ _ _ rfl J.out.range2 underlying79 rfl r) rfl ⟨rfl,J.out.below⟩
 · clear hz
   go_enter func84,ntmps84
   go_wp2_with fail
   refine V.out.mono ?_;rintro e w1 ⟨rfl,M⟩;have N:=(U.out.call M).alloc zT;have E:=uh (N.laid [yV k,iV m,uV mk] rfl);have a0:=E.out.range1;have y:(w1.alloc zT).there w1.heap.size 0 3:=N.there1;have J:=uh (E.out.laid2 [yV k,iV m,uV mk] rfl);clear N M U V
   go_wp2_with (first
    | (show sW 79;refine h_ rfl 79 _ _ rfl _ 0 #[yV k,iV m,uV mk] rfl rfl y r Z ?_;clear y)
    | (show lW 79;refine J_ rfl 79 _ rfl w1.heap.size 0 rfl [yV k,iV m,uV mk] _ a0 underlying79 rfl r ?_)
    | (show sW 79;refine h_ rfl 79 _ _ rfl _ 0 #[yV k,iV m,uV mk] rfl rfl E.out.there2 r Z ?_)
    | fail)
   refine f_ (Gs results84 _ _ _ _ _ rfl J.out.range2 underlying79 rfl r) rfl ⟨rfl,J.out.below⟩
theorem QS (w:World)(L:List Ty)(hT:∀t∈L,TyIn t)(hL:L.length <= 1000)(tb:Nat)(ao:Option Addr)(cap:Nat)(hS:TabAt w tb ao cap L)(N n:Int):
  Calls prog 132 #[pt tb,iV N,iV n] w fun e w'=>e=.returned (.tuple #[iV (GY L N n:Nat),iV (GH L N n)]) /\ Below w.heap.size w w':=by
 have J:=JZ;have y:=uh (QT w L tb ao cap hS hL N);unfold GY GH;unfold tyAt at y;clear hS
 cases U:Kc L N with
 | none=>
  rw[U]at y
  go_enter func132,ntmps132
  go_wp2_with fail
  refine y.out.mono ?_;rintro e w1 ⟨rfl,r⟩;have E:=(Ze (C_ w) r).alloc zT;have M:(w1.alloc zT).there w1.heap.size 0 3:=E.there1;have G:=uh (E.laid [yV 0,iV 0,uV 0] rfl);have ho:=KH ⟨0,0,0⟩;clear E r y
  go_wp2_with (first
   | (show sW 79;refine h_ rfl 79 _ _ rfl _ 0 #[yV 0,iV 0,uV 0] rfl rfl M J ho ?_)
   | fail)
  refine f_ (E_ rfl _ _ _) rfl ?_;exact⟨rfl,G.out.below⟩
 | some t=>
  rw[U]at y;obtain⟨i,rfl,hi,a1⟩:=KZ U;have V:=uh (fun W=>gC W t (hT t (q_ hi)) n);obtain⟨k,m,mk⟩:=t;obtain⟨s,Hs⟩:∃s:Nat,Hid ((if (Ty.mk k m mk).err n=0 then(((Ty.mk k m mk).size n.toNat:Nat):Int)else 0)=s /\ (if (Ty.mk k m mk).err n=0 then(Ty.mk k m mk).size n.toNat else 0)=s):=⟨_,uh ⟨by split<;>rfl,rfl⟩⟩;rw[Hs.out.1]at V;simp only[Hs.out.2];clear Hs;generalize(Ty.mk k m mk).err n=er at*;clear U hi a1 hT
  go_enter func132,ntmps132
  go_wp2_with fail
  refine y.out.mono ?_;rintro e w1 ⟨rfl,r⟩;simp only[Zc,Option.isSome_some,if_true];have E:=(Ze (C_ w) r).alloc zT;have M:(w1.alloc zT).there w1.heap.size 0 3:=E.there1;have T2:=E.laid (Kz ⟨k,m,mk⟩) rfl;have a2:=T2.range1;have G:=uh T2;have ho:=KH ⟨k,m,mk⟩;clear E T2 r y
  go_wp2_with (first
   | (show sW 79;refine h_ rfl 79 _ _ rfl _ 0 #[yV k,iV m,uV mk] rfl rfl M J ho ?_)
   | (show lW 79;refine J_ rfl 79 _ rfl w1.heap.size 0 rfl [yV k,iV m,uV mk] _ a2 underlying79 rfl J ?_)
   | (go_at_call 178;refine(V.out _).mono ?_;rintro e w3 ⟨rfl,Z⟩;have a0:=uh (G.out.call Z).below;clear Z)
   | fail)
  refine f_ (E_ rfl _ _ _) rfl ?_;exact⟨rfl,a0.out⟩
theorem FD (w:World)(L:List Ty)(hT:∀t∈L,TyIn t)(hL:L.length <= 1000)(tb:Nat)(ao:Option Addr)(cap:Nat)(hS:TabAt w tb ao cap L)(r n:Int):
  Calls prog 79 #[pt tb,iV r,iV n] w fun e w'=>e=.returned (.tuple #[.agg (KB L r n).toArray,iV (GH L r n)]) /\ Below w.heap.size w w':=by
 have M:=Gr;have V:=(r_ (C_ w)).alloc zH;have U:=uh (QS _ L hT hL tb ao cap (hS.below V.below) r n);have J:=uh V;unfold KB;generalize GY L r n=s at*;generalize GH L r n=er at*;clear V hS hT
 by_cases he:er=0
 · subst he
   rw[v_ rfl]
   go_enter func79,ntmps79
   go_wp2_with fail
   refine U.out.mono ?_;rintro e w1 ⟨rfl,E⟩;have G:=J.out.call E;have N:w1.there w.heap.size 0 4:=G.there1;have y:=uh (G.laid [yV 1,iV r,iV n,iV s] rfl);have Z:(#[yV 1,iV r,iV n,iV s]:Array Value).all (·.oneCell')=true:=Yn (cs:=[yV 1,iV r,iV n,iV s]) (by simp[Value.oneCell']);clear G E J U
   go_wp2_with (first
    | (show sW 125;refine h_ rfl 125 _ _ rfl _ 0 #[yV 1,iV r,iV n,iV s] rfl rfl N M Z ?_)
    | fail)
   refine f_ (Gs results79 _ _ _ _ _ rfl y.out.range1 underlying125 rfl M) rfl ⟨rfl,y.out.below⟩
 · rw[y_ he]
   go_enter func79,ntmps79
   go_wp2_with fail
   refine U.out.mono ?_;rintro e w1 ⟨rfl,E⟩;have G:=J.out.call E;have N:w1.there w.heap.size 0 4:=G.there1;have y:=uh (G.laid [yV 0,iV 0,iV 0,iV 0] rfl);have Z:=LA;clear G E J U
   go_wp2_with (first
    | (show sW 125;refine h_ rfl 125 _ _ rfl _ 0 #[yV 0,iV 0,iV 0,iV 0] rfl rfl N M Z ?_)
    | fail)
   refine f_ (Gs results79 _ _ _ _ _ rfl y.out.range1 underlying125 rfl M) rfl ⟨rfl,y.out.below⟩
theorem ZU (w:World)(hF:Fields w)(L:List Ty)(hT:∀t∈L,TyIn t)(hL:L.length <= 1000)(tb:Nat)(ao:Option Addr)(cap:Nat)(hS:TabAt w tb ao cap L)(h:Hd)(hi:HdIn h):
  Calls prog 85 #[pt tb,KM h] w fun e w'=>e=.returned (iV (Ka L h)) /\ Below w.heap.size w w':=by
 have Z:=Gr;have T1:=(r_ (C_ w)).alloc (.cells #[yV h.tag,iV h.typ,iV h.len,iV h.size] 125);have a1:=T1.range1;have G:=uh (Vv _ (range_below hF T1.below) h hi);have J:=uh (fun(w2:World) (hB:Below (w.alloc (.cells #[yV h.tag,iV h.typ,iV h.len,iV h.size] 125)).heap.size (w.alloc (.cells #[yV h.tag,iV h.typ,iV h.len,iV h.size] 125)) w2)=>FD w2 L hT hL tb ao cap ((hS.below ((r_ (C_ w)).alloc (.cells #[yV h.tag,iV h.typ,iV h.len,iV h.size] 125)).below).below hB) h.typ h.len);have N:=uh T1;clear T1 hS hT hF;unfold Ka
 by_cases hm:h.may
 · rw[v_ hm]at G
   rw[y_ (by simpa using hm)]
   by_cases ht:h.tag=1
   · rw[y_ (by simpa using ht)]
     have a7:=GP ⟨0,0,0,0⟩;unfold KB at J;generalize GH L h.typ h.len=er at*;generalize GY L h.typ h.len=s at*;obtain⟨tg,b,c,d⟩:=h;simp only at ht;subst ht;clear hm hi
     by_cases he:er=0
     · subst he
       simp only[if_true]at J;have ho:(#[yV 1,iV b,iV c,iV s]:Array Value).all (·.oneCell')=true:=Yn (cs:=[yV 1,iV b,iV c,iV s]) (by simp[Value.oneCell']);have a6:=fun w=>TK w 1 b c s 1 b c d
       by_cases hs:s=d
       · rw[v_ ⟨rfl,hs⟩]
         have a5:((s:Int) == (d:Int))=true:=(by rw[Qx];omega);subst hs
         go_enter func85,ntmps85
         go_wp2_with fail
         refine G.out.mono ?_;rintro e w2 ⟨rfl,r⟩;have y:=N.out.call r;have c0:=y.cell1 0;have c1:=y.cell1 1;have c2:=y.cell1 2;have M:=uh (J.out w2 r);have E:=uh y;clear y r N G J a1
         go_wp2_with fail
         refine M.out.mono ?_;rintro e w3 ⟨rfl,U⟩;have V:=(E.out.call U).alloc zH;have a2:(w3.alloc zH).there w3.heap.size 0 4:=V.there1;have T4:=V.laid [yV 1,iV b,iV c,iV s] rfl;have a3:=T4.range1;have a4:=T4.range2;have a0:=uh T4.below;clear V T4 U E M c0 c1 c2
         go_wp2_with (first
          | (show sW 125;refine h_ rfl 125 _ _ rfl _ 0 #[yV 1,iV b,iV c,iV s] rfl rfl a2 Z ho ?_)
          | (show lW 125;refine Xb 125 _ rfl (by rfl) w3.heap.size 0 rfl [yV 1,iV b,iV c,iV s] _ a3 underlying125 rfl Z ?_)
          | (show lW 125;refine Xb 125 _ rfl (by rfl) w.heap.size 0 rfl [yV 1,iV b,iV c,iV s] _ a4 underlying125 rfl Z ?_)
          | fail)
         go_ret;exact⟨rfl,a0.out⟩
       · rw[y_ (fun h=>hs h.2)]
         have a5:((s:Int) == (d:Int))=false:=(by rw[j_];omega);have a9:¬(s:Int)=(d:Int):=O;have aa:¬(s=d):=hs;simp only[a5,Bool.and_false,beq_self_eq_true]at a6;clear hs
         go_enter func85,ntmps85
         go_wp2_with fail
         refine G.out.mono ?_;rintro e w2 ⟨rfl,r⟩;have y:=N.out.call r;have c0:=y.cell1 0;have c1:=y.cell1 1;have c2:=y.cell1 2;have M:=uh (J.out w2 r);have E:=uh y;clear y r N G J a1
         go_wp2_with fail
         refine M.out.mono ?_;rintro e w3 ⟨rfl,U⟩;have V:=(E.out.call U).alloc zH;have a2:(w3.alloc zH).there w3.heap.size 0 4:=V.there1;have T4:=V.laid [yV 1,iV b,iV c,iV s] rfl;have a3:=T4.range1;have a4:=T4.range2;have a0:=uh T4.below;clear V T4 U E M c0 c1 c2
         go_wp2_with (first
          | (show sW 125;refine h_ rfl 125 _ _ rfl _ 0 #[yV 1,iV b,iV c,iV s] rfl rfl a2 Z ho ?_)
          | (show lW 125;refine Xb 125 _ rfl (by rfl) w3.heap.size 0 rfl [yV 1,iV b,iV c,iV s] _ a3 underlying125 rfl Z ?_)
          | (show lW 125;refine Xb 125 _ rfl (by rfl) w.heap.size 0 rfl [yV 1,iV b,iV c,iV d] _ a4 underlying125 rfl Z ?_)
          | fail)
         go_ret;exact⟨rfl,a0.out⟩
     · rw[y_ (fun h=>he h.1)]
       simp only[y_ he]at J
       go_enter func85,ntmps85
       go_wp2_with fail
       refine G.out.mono ?_;rintro e w2 ⟨rfl,r⟩;have y:=N.out.call r;have c0:=y.cell1 0;have c1:=y.cell1 1;have c2:=y.cell1 2;have M:=uh (J.out w2 r);have E:=uh y;clear y r N G J a1
       go_wp2_with fail
       refine M.out.mono ?_;rintro e w3 ⟨rfl,U⟩;have V:=(E.out.call U).alloc zH;have a2:(w3.alloc zH).there w3.heap.size 0 4:=V.there1;have a0:=uh (V.laid [yV 0,iV 0,iV 0,iV 0] rfl).below;clear V U E M c0 c1 c2
       go_wp2_with (first
        | (show sW 125;refine h_ rfl 125 _ _ rfl _ 0 #[yV 0,iV 0,iV 0,iV 0] rfl rfl a2 Z a7 ?_)
        | fail)
       go_ret;exact⟨rfl,a0.out⟩
   · rw[v_ ht]
     obtain⟨tg,b,c,d⟩:=h;have a8:¬(tg:Int)=1:=(by simp only at ht;omega);have ab:((tg:Int) != 1)=true:=(by rw[Qe];exact a8);clear hm ht hi
     go_enter func85,ntmps85
     go_wp2_with fail
     refine G.out.mono ?_;rintro e w2 ⟨rfl,r⟩;have y:=N.out.call r;have c0:=y.cell1 0;have E:=uh y.below;clear y r N G J a1
     go_wp2
     go_ret;exact⟨rfl,E.out⟩
 · rw[y_ hm]at G
   rw[v_ hm];obtain⟨tg,b,c,d⟩:=h;clear hm hi
   go_enter func85,ntmps85
   go_wp2_with fail
   refine G.out.mono ?_;rintro e w2 ⟨rfl,r⟩;have E:=uh (N.out.call r).below;clear r N G J a1
   go_wp2
   go_ret;exact⟨rfl,E.out⟩
theorem jM (w:World)(r n:Nat)(ht:r=2∨r=3)(h1:1 <= n)(h2:n<16777216):
  Calls prog 252 #[yV r,iV n] w fun e w'=>e=.returned (.tuple #[KM ⟨r,0,0,n⟩,iV 0]) /\ Below w.heap.size w w':=by
 have y:=Gr;have hm:(Hd.mk r 0 0 n).may:=⟨h1,h2,(by decide:(0:Nat)<16777216),.inr ⟨ht,rfl,rfl⟩⟩;have a0:HdIn ⟨r,0,0,n⟩:=⟨by simp only;omega,u_ _,u_ _,by simp only;omega⟩;have J:=((r_ (C_ w)).alloc zH).alloc zH;rw[Y_]at J;have G:((w.alloc zH).alloc zH).there (w.heap.size+1) 0 4:=J.there1;have M:=J.laid [yV r,iV ((0:Nat):Int),iV ((0:Nat):Int),iV n] rfl;have a1:=M.range1;have ho:(#[yV r,iV 0,iV 0,iV n]:Array Value).all (·.oneCell')=true:=GP ⟨r,0,0,n⟩;have V:=uh ((fun {W:World} {l:List Blk} (_:Turn [] w l W)=>Py W ⟨r,0,0,n⟩ a0) M);rw[k_ hm]at V;have N:=uh M;have e1:((r:Int) == 1)=false:=by rw[j_];omega
 have e2:¬(r:Int)=1:=O;clear J M hm a0 ht
 go_enter func252,ntmps252
 go_wp2_with (first
  | (show sW 125;refine h_ rfl 125 _ _ rfl _ 0 #[yV r,iV 0,iV 0,iV n] rfl rfl G y ho ?_;clear G)
  | (show lW 125;refine Xb 125 _ rfl (by rfl) (w.heap.size+1) 0 rfl [yV r,iV 0,iV 0,iV n] _ a1 underlying125 rfl y ?_;clear a1)
  | (go_at_call 172;refine V.out.mono ?_;rintro e w2 ⟨rfl,Z⟩;have E:=uh (N.out.call Z);clear N Z;have a2:w2.there w.heap.size 0 4:=E.out.there2;have a3:=E.out.range1;have U:=uh (E.out.laid2 [yV r,iV ((0:Nat):Int),iV ((0:Nat):Int),iV n] rfl))
  | (show lW 125;refine J_ rfl 125 _ rfl (w.heap.size+1) 0 rfl [yV r,iV 0,iV 0,iV n] _ a3 underlying125 rfl y ?_)
  | (show sW 125;refine h_ rfl 125 _ _ rfl _ 0 #[yV r,iV 0,iV 0,iV n] rfl rfl a2 y ho ?_)
  | fail)
 refine f_ (Gs results252 _ _ _ _ _ rfl U.out.range2 underlying125 rfl y) rfl ⟨rfl,U.out.below⟩
theorem jK (w:World)(hF:Fields w)(r n:Nat)(ht:r=2∨r=3)(h1:1 <= n)(h2:n<16777216):
  Calls prog 130 #[yV r,iV n] w fun e w'=>e=.returned (.tuple #[KM ⟨r,0,0,n⟩,iV 0]) /\ Below w.heap.size w w':=by
 have y:=Gr;have hm:(Hd.mk r 0 0 n).may:=⟨h1,h2,(by decide:(0:Nat)<16777216),.inr ⟨ht,rfl,rfl⟩⟩;have a0:HdIn ⟨r,0,0,n⟩:=⟨by simp only;omega,u_ _,u_ _,by simp only;omega⟩;have J:=((r_ (C_ w)).alloc zH).alloc zH;rw[Y_]at J;have G:((w.alloc zH).alloc zH).there (w.heap.size+1) 0 4:=J.there1;have M:=J.laid [yV r,iV ((0:Nat):Int),iV ((0:Nat):Int),iV n] rfl;have a1:=M.range1;have ho:(#[yV r,iV 0,iV 0,iV n]:Array Value).all (·.oneCell')=true:=GP ⟨r,0,0,n⟩;have V:=uh (Vv _ (range_below hF M.below) ⟨r,0,0,n⟩ a0);rw[v_ hm]at V;have N:=uh M;have e1:((r:Int) == 1)=false:=by rw[j_];omega
 have e2:¬(r:Int)=1:=O;clear J M hm a0 ht
 go_enter func130,ntmps130
 go_wp2_with (first
  | (show sW 125;refine h_ rfl 125 _ _ rfl _ 0 #[yV r,iV 0,iV 0,iV n] rfl rfl G y ho ?_;clear G)
  | (show lW 125;refine Xb 125 _ rfl (by rfl) (w.heap.size+1) 0 rfl [yV r,iV 0,iV 0,iV n] _ a1 underlying125 rfl y ?_;clear a1)
  | (go_at_call 139;refine V.out.mono ?_;rintro e w2 ⟨rfl,Z⟩;have E:=uh (N.out.call Z);clear N Z;have a2:w2.there w.heap.size 0 4:=E.out.there2;have a3:=E.out.range1;have U:=uh (E.out.laid2 [yV r,iV ((0:Nat):Int),iV ((0:Nat):Int),iV n] rfl))
  | (show lW 125;refine J_ rfl 125 _ rfl (w.heap.size+1) 0 rfl [yV r,iV 0,iV 0,iV n] _ a3 underlying125 rfl y ?_)
  | (show sW 125;refine h_ rfl 125 _ _ rfl _ 0 #[yV r,iV 0,iV 0,iV n] rfl rfl a2 y ho ?_)
  | fail)
 refine f_ (Gs results130 _ _ _ _ _ rfl U.out.range2 underlying125 rfl y) rfl ⟨rfl,U.out.below⟩
def FP (n:Int):Prop:= -9223372036854775808 <= n /\ n <= 9223372036854775807
def u64s (W:List Nat):List Value:=W.map fun n=>uV (n:Nat)
theorem LD (W:List Nat):(u64s W).length=W.length:=by simp[u64s]
theorem JG {W:List Nat}{i v:Nat}(h:W[i]?= some v):(u64s W)[i]?= some (uV v):=by simp[u64s,h]
theorem VR (W:List Nat)(i v:Nat):(u64s W).toArray.setIfInBounds i (uV v)=(u64s (W.set i v)).toArray:=by
 rw[Zq];unfold u64s;rw[List.map_set]
structure ArAt (w:World)(a aw:Nat)(W:List Nat):Prop where
 c0:w.cell? (aD a 0)=some (.slice (some (aD aw 0)) W.length W.length)
 ws:∀(i v:Nat),W[i]?= some v -> w.cell? (aD aw i)=some (uV v)
 few:W.length <= 65536
theorem ArAt.below {w w':World}{a r:Nat}{W:List Nat}(h:ArAt w a r W)(y:Below w.heap.size w w'):ArAt w' a r W:=
 ⟨(y.cell (p:=(aD a 0)) (c_ w _ h.c0)).trans h.c0,fun i v E=>(y.cell (p:=(aD r i)) (c_ w _ (h.ws i v E))).trans (h.ws i v E),h.few⟩
def G0 (a aw:Nat)(W:List Nat)(n:Int):List Blk:=[(aw,.cells (u64s W).toArray 36),(a,.cells #[.slice (some (aD aw 0)) W.length W.length,uV n] 132)]
theorem JQ {w:World}{a r:Nat}{W:List Nat}{n:Int}{L:List Blk}(h:Has w (G0 a r W n++L))(y:W.length <= 65536):ArAt w a r W:=by
 refine⟨h.cell (b:=a) (c:=#[.slice (some (aD r 0)) W.length W.length,uV n]) (e:=132) (f:=(0,0)) (by simp[G0]) 0,fun i v E=>?_,y⟩;rw[h.cell (b:=r) (c:=(u64s W).toArray) (e:=36) (f:=(0,0)) (by simp[G0]) i,Yp];exact JG E
theorem F2 (w:World){a r:Nat}{W:List Nat}(h:ArAt w a r W):Calls prog 123 #[pt a] w fun e w'=>e=.returned (iV W.length) /\ w'=w:=by
 have c0:=h.c0;clear h
 go_enter func123,ntmps123
 go_wp2
 go_ret;exact⟨rfl,rfl⟩
theorem D3 (w:World){a r:Nat}{W:List Nat}(h:ArAt w a r W):Calls prog 86 #[pt a] w fun e w'=>e=.returned (iV (W.length/2:Nat)) /\ w'=w:=by
 have y:=uh (F2 w h);have h2:((W.length:Int)).tdiv 2=((W.length/2:Nat):Int):=GC _ 2;have G:=h.few;clear h;obtain⟨z,E⟩:∃z:Nat,W.length/2=z:=⟨_,rfl⟩;rw[E]at h2 ⊢
 go_enter func86,ntmps86
 go_wp2_with (first
  | (go_at_call 123;refine y.out.mono ?_;rintro e w' ⟨rfl,rfl⟩)
  | fail)
 go_ret;refine⟨?_,rfl⟩
 first | rfl | (rw [← h2]; rfl) | (have : ((W.length : Int)) / 2 = (z : Int) := O
                                   rw[←this];rfl)
def RL (W:List Nat)(i n:Int):Prop:=0 <= i /\ 0 <= n /\ i+n <= W.length
instance (W:List Nat) (i n:Int):Decidable (RL W i n):=by unfold RL;infer_instance
theorem Q5 (w:World){a Z:Nat}{W:List Nat}(h:ArAt w a Z W)(i n:Int)(hi:FP i)(G:FP n):Calls prog 52 #[pt a,iV i,iV n] w fun e w'=>e=.returned (iV (if RL W i n then 0 else 2)) /\ w'=w:=by
 have c0:=h.c0;have hf:=h.few;obtain⟨a0,a1⟩:=hi;obtain⟨a2,a3⟩:=G;clear h;obtain⟨r,J⟩:∃r:Int,Hid (r=if RL W i n then 0 else 2):=⟨_,uh rfl⟩;rw[←J.out];have E:¬RL W i n -> r=2:=fun G=>by rw[J.out,y_ G]
 have y:RL W i n -> r=0:=fun G=>by rw[J.out,v_ G]
 clear J
 by_cases M:0 <= i
 · have k1:decide ((0:Int) <= i)=true:=k_ M
   by_cases N:0 <= n
   · have k2:decide ((0:Int) <= n)=true:=k_ N
     by_cases U:i <= W.length
     · have k3:decide (i <= (W.length:Int))=true:=k_ U
       by_cases V:n <= W.length-i
       · have k4:decide (n <= (W.length:Int)-i)=true:=k_ V
         obtain rfl:=y ⟨M,N,by omega⟩;clear E y
         go_enter func52,ntmps52
         go_wp2
         go_ret;exact⟨rfl,rfl⟩
       · have k4:decide (n <= (W.length:Int)-i)=false:=b_ V
         obtain rfl:=E (fun h=>by have:=h.2.2;omega);clear E y
         go_enter func52,ntmps52
         go_wp2
         go_ret;exact⟨rfl,rfl⟩
     · have k3:decide (i <= (W.length:Int))=false:=b_ U
       obtain rfl:=E (fun h=>by have:=h.2.2;omega);clear E y
       go_enter func52,ntmps52
       go_wp2
       go_ret;exact⟨rfl,rfl⟩
   · have k2:decide ((0:Int) <= n)=false:=b_ N
     obtain rfl:=E (fun h=>N h.2.1);clear E y
     go_enter func52,ntmps52
     go_wp2
     go_ret;exact⟨rfl,rfl⟩
 · have k1:decide ((0:Int) <= i)=false:=b_ M
   obtain rfl:=E (fun h=>M h.1);clear E y
   go_enter func52,ntmps52
   go_wp2
   go_ret;exact⟨rfl,rfl⟩
theorem FM (w:World){a E:Nat}{W:List Nat}(h:ArAt w a E W)(i v:Nat)(r:W[i]?= some v):Calls prog 136 #[pt a,iV i] w fun e w'=>e=.returned (.tuple #[uV v,iV 0]) /\ w'=w:=by
 have J:i<W.length:=(m_.1 r).1;have N:=h.few;have c0:=h.c0;have M:=h.ws i v r;have y:=uh (Q5 w h i 1 (by unfold FP;omega) (by unfold FP;omega));rw[v_ ⟨by omega,by omega,by omega⟩]at y;have G:(i:Int)<(W.length:Int):=O;clear h r
 go_enter func136,ntmps136
 go_wp2_with (first
  | (go_at_call 52;refine y.out.mono ?_;rintro e w' ⟨rfl,rfl⟩)
  | fail)
 refine f_ (E_ rfl _ _ _) rfl ?_;exact⟨rfl,rfl⟩
theorem VH {l L:List Blk}{w0:World}(w:World){a r:Nat}{W:List Nat}{n:Int}(T:Turn l w0 (G0 a r W n++L) w)(N:W.length <= 65536)(i v:Nat)(Z:i<W.length):
  Calls prog 16 #[pt a,iV i,uV v] w fun e w'=>e=.returned (iV 0) /\ ∃n':Int,Turn l w0 (G0 a r (W.set i v) n'++L) w':=by
 have E:=JQ T.has N;have c0:=E.c0;have U:=uh (Q5 w E i 1 (by unfold FP;omega) (by unfold FP;omega));rw[v_ ⟨by omega,by omega,by omega⟩]at U;have a0:(i:Int)<(W.length:Int):=O;have f1:w.frozen? (aD r i)=false:=T.has.free (b:=r) (c:=(u64s W).toArray) (e:=36) (by simp[G0]) i;obtain⟨J,G⟩:∃J,W[i]?= some J:=⟨W[i]'Z,a_ _⟩;have c1:=E.ws i J G
 have y:Turn l w0 (G0 a r (W.set i v) n++L) (w.setCell (aD r i) (uV v)):=by
  have h:=Jk (b:=r) (c:=(u64s W).toArray) (e:=36) (f:=(0,0)) T i (uV v);rw[VR]at h;unfold G0;rw[Qn];exact h
 have V:(w.setCell (aD r i) (uV v)).cell? (aD a 0)=_:=(JQ y.has (by rw[Qn];exact N)).c0;have d1:(w.setCell (aD r i) (uV v)).cell? (aD a 1)=some (uV n):=y.has.cell (b:=a) (c:=#[.slice (some (aD r 0)) (W.set i v).length (W.set i v).length,uV n]) (e:=132) (f:=(0,0)) (by simp[G0]) 1;have f2:(w.setCell (aD r i) (uV v)).frozen? (aD a 1)=false:=y.has.free (b:=a) (c:=#[.slice (some (aD r 0)) (W.set i v).length (W.set i v).length,uV n]) (e:=132) (by simp[G0]) 1;have M:=uh y;clear T y E G V
 go_enter func16,ntmps16
 go_wp2_with (first
  | (go_at_call 52;refine U.out.mono ?_;rintro e w' ⟨rfl,rfl⟩)
  | fail)
 go_ret;refine⟨rfl,IntKind.u64.wrap (n+1),?_⟩;exact((M.out.perm (l2:=(a,.cells #[.slice (some (aD r 0)) (W.set i v).length (W.set i v).length,uV n] 132)::(r,.cells (u64s (W.set i v)).toArray 36)::L) (.swap ..)).setCell 1 (uV (IntKind.u64.wrap (n+1)))).swap
theorem Turn.arSet {l L:List Blk}{w0 w:World}{a r:Nat}{W:List Nat}{n:Int}(T:Turn l w0 (G0 a r W n++L) w)(i v:Nat):Turn l w0 (G0 a r (W.set i v) n++L) (w.setCell (aD r i) (uV v)):=by
 have h:=Jk (b:=r) (c:=(u64s W).toArray) (e:=36) (f:=(0,0)) T i (uV v);rw[VR]at h;unfold G0;rw[Qn];exact h
theorem Turn.arCnt {l L:List Blk}{w0 w:World}{a r:Nat}{W:List Nat}{n:Int}(T:Turn l w0 (G0 a r W n++L) w)(m:Int):Turn l w0 (G0 a r W m++L) (w.setCell (aD a 1) (uV m)):=
 ((T.perm (l2:=(a,.cells #[.slice (some (aD r 0)) W.length W.length,uV n] 132)::(r,.cells (u64s W).toArray 36)::L) (.swap ..)).setCell 1 (uV m)).swap
theorem Nq {w:World}{a r:Nat}{W:List Nat}{n:Int}{L:List Blk}(h:Has w (G0 a r W n++L))(i:Nat):w.frozen? (aD r i)=false /\ w.frozen? (aD a i)=false /\ w.cell? (aD a 1)=some (uV n):=
 ⟨h.free (b:=r) (c:=(u64s W).toArray) (e:=36) (by simp[G0]) i,h.free (b:=a) (c:=#[.slice (some (aD r 0)) W.length W.length,uV n]) (e:=132) (by simp[G0]) i,
  h.cell (b:=a) (c:=#[.slice (some (aD r 0)) W.length W.length,uV n]) (e:=132) (f:=(0,0)) (by simp[G0]) 1⟩
theorem j2 {l L:List Blk}{w0:World}(w:World){a M:Nat}{W:List Nat}{n:Int}(T:Turn l w0 (G0 a M W n++L) w)(hf:W.length <= 65536)(i m:Nat)(hi:i+m <= W.length):
  Calls prog 134 #[pt a,iV i,iV m,uV 0] w fun e w'=>e=.returned (iV 0) /\ ∃n':Int,Turn l w0 (G0 a M (L5 W i m) n'++L) w':=by
 have r:=JQ T.has hf;have N:=uh (Q5 w r i m (by unfold FP;omega) (by unfold FP;omega));rw[v_ ⟨by omega,by omega,by omega⟩]at N;have V:=uh T;clear T r
 go_enter func134,ntmps134
 go_wp2_with (first
  | (go_at_call 52;refine N.out.mono ?_;rintro e w' ⟨rfl,rfl⟩)
  | fail)
 go_loopw [19] (fun E wr=>∃j:Nat,j <= m /\ E=iV j /\ Turn l w0 (G0 a M (L5 W i j) n++L) wr) (fun E _=>m-(intOf E).toNat)
 case atStart=>exact⟨0,u_ _,rfl,V.out⟩
 case round=>
  clear N V;obtain⟨j,hj,rfl,T⟩:=hrel;have G:(L5 W i j).length=W.length:=Lq ..;have r:=JQ T.has (by rw[G];exact hf);have c0:=r.c0;rw[G]at c0
  by_cases a2:j<m
  · have a0:(j:Int)<(m:Int):=O
    obtain⟨U,J⟩:∃U,(L5 W i j)[i+j]?= some U:=⟨(L5 W i j)[i+j]'O,a_ _⟩;have c1:=r.ws (i+j) U J;have f1:=(Nq T.has (i+j)).1;have Z:=T.arSet (i+j) 0;have y:=uh Z;have hb:(i:Int)+(j:Int)<(W.length:Int):=O;have a1:((i:Int)+(j:Int)).toNat=i+j:=O;clear T Z r J G
    go_wp2
    go_roundw
    case rel=>exact⟨j+1,by omega,by go_num,y.out⟩
    case measure=>simp[intOf];omega
  · obtain rfl:j=m:=O
    have c1:=(Nq T.has 1).2.2;have f1:=(Nq T.has 1).2.1;have y:=uh T;clear T r G
    go_wp2
    go_ret;exact⟨rfl,IntKind.u64.wrap (n+(j:Int)),y.out.arCnt _⟩
end
section
open Go Go.RowKit Go.IntWalk
@[simp] abbrev rN (a:Option Addr)(W:List Nat)(c:Nat)(l:Option Addr)(n k:Nat):Obj:=.cells #[.slice a W.length c,.slice l n k] 62
attribute [simp] zH zT bS
def JX (W:List Nat)(g:Int):Option Hd:=if 0 <= g /\ g<(W.length/2:Nat)then Jv (W.getD (2*g.toNat) 0)else none
def K0 (W:List Nat)(g:Int):Int:=if 0 <= g /\ g<(W.length/2:Nat)then(if (Jv (W.getD (2*g.toNat) 0)).isSome then 0 else 7)else 2
theorem Tu {W:List Nat}{g:Int}(h:¬(0 <= g /\ g<(W.length/2:Nat))):JX W g=none /\ K0 W g=2:=⟨y_ h,y_ h⟩
theorem LZ {W:List Nat}{g v:Nat}(h:g<W.length/2)(E:W[2*g]?= some v):JX W g=Jv v /\ K0 W g=if (Jv v).isSome then 0 else 7:=by
 have y:W.getD (2*(g:Int).toNat) 0=v:=by rw[Qs,M_,E];rfl
 have r:0 <= (g:Int) /\ (g:Int)<((W.length/2:Nat):Int):=⟨by omega,by exact_mod_cast h⟩;unfold JX K0;rw[y,v_ r,v_ r];exact⟨rfl,rfl⟩
theorem Wb (w:World)(hF:Fields w){a aw:Nat}{W:List Nat}(hA:ArAt w a aw W)(hu:∀v∈W,v<18446744073709551616)(g:Int):
  Calls prog 83 #[pt a,iV g] w fun e w'=>e=.returned (.tuple #[KM ((JX W g).getD AM),iV (K0 W g)]) /\ Below w.heap.size w w':=by
 have r:=Gr;have G:=(r_ (C_ w)).alloc zH;have a5:(w.alloc zH).there w.heap.size 0 4:=G.there1;have M:=uh (G.laid [yV 0,iV 0,iV 0,iV 0] rfl);have a4:=LA;have J:=hA.below G.below;have Hg:=uh (D3 _ J);have hf:=hA.few
 by_cases y:0 <= g /\ g<(W.length/2:Nat)
 · obtain⟨g,rfl⟩:∃q:Nat,g=q:=⟨g.toNat,by omega⟩
   have a3:g<W.length/2:=O;obtain⟨v,hv⟩:∃v,W[2*g]?= some v:=⟨W[2*g]'O,a_ _⟩;obtain⟨U,V⟩:=LZ a3 hv;rw[U,V];have hd:(Jv v).getD AM=N0 v:=rfl;rw[hd];have a8:=hu v (q_ hv);have Hl:=uh (FM _ J (2*g) v hv);rw[show((2*g:Nat):Int)=2*(g:Int)by omega]at Hl;have a9:g <= 65536:=O;have Hd:=uh (LG _ (range_below hF G.below) v a8);have k1:decide ((g:Int)<0)=false:=b_ O;obtain⟨z,Z⟩:∃z:Nat,W.length/2=z:=⟨_,rfl⟩;rw[Z]at Hg a3;have k2:decide ((z:Int) <= (g:Int))=false:=b_ O;have k3:¬(z:Int) <= (g:Int):=O;have a6:=uh G;generalize N0 v=hh at*;obtain⟨xa,xb,xc,xd⟩:=hh;have a7:=GP ⟨xa,xb,xc,xd⟩;obtain⟨er,N⟩:∃er:Int,Hid ((if (Jv v).isSome=true then(0:Int)else 7)=er):=⟨_,uh rfl⟩;rw[N.out]at Hd;rw[N.out];clear y U V hd hv hA J hF hu G M Z N
   go_enter func83,ntmps83
   go_wp2_with (first
    | (go_at_call 86;refine Hg.out.mono ?_;rintro e w' ⟨rfl,E⟩;rw[E];clear E w')
    | (go_at_call 136;refine Hl.out.mono ?_;rintro e w' ⟨rfl,E⟩;rw[E];clear E w')
    | (go_at_call 137;refine Hd.out.mono ?_;rintro e w5 ⟨rfl,a2⟩;have a0:=uh (a6.out.call a2);clear a2)
    | (show sW 125;refine h_ rfl 125 _ _ rfl _ 0 #[yV xa,iV xb,iV xc,iV xd] rfl rfl a0.out.there1 r a7 ?_;have a1:=uh (a0.out.laid [yV xa,iV xb,iV xc,iV xd] rfl))
    | fail)
   refine f_ (Gs results83 _ _ _ _ _ rfl a1.out.range1 underlying125 rfl r) rfl ⟨rfl,a1.out.below⟩
 · obtain⟨U,V⟩:=Tu y
   rw[U,V];obtain⟨z,Z⟩:∃z:Nat,W.length/2=z:=⟨_,rfl⟩;rw[Z]at Hg y;clear U V hA J hF hu G Z
   by_cases hg:g<0
   · have k1:decide (g<0)=true:=k_ hg
     clear y
     go_enter func83,ntmps83
     go_wp2_with (first
      | (show sW 125;refine h_ rfl 125 _ _ rfl _ 0 #[yV 0,iV 0,iV 0,iV 0] rfl rfl a5 r a4 ?_)
      | fail)
     refine f_ (Gs results83 _ _ _ _ _ rfl M.out.range1 underlying125 rfl r) rfl ⟨rfl,M.out.below⟩
   · have k1:decide (g<0)=false:=b_ hg
     have k2:decide ((z:Int) <= g)=true:=k_ O;have k3:(z:Int) <= g:=O;clear y
     go_enter func83,ntmps83
     go_wp2_with (first
      | (go_at_call 86;refine Hg.out.mono ?_;rintro e w' ⟨rfl,E⟩;rw[E];clear E w')
      | (show sW 125;refine h_ rfl 125 _ _ rfl _ 0 #[yV 0,iV 0,iV 0,iV 0] rfl rfl a5 r a4 ?_)
      | fail)
     refine f_ (Gs results83 _ _ _ _ _ rfl M.out.range1 underlying125 rfl r) rfl ⟨rfl,M.out.below⟩
theorem CR (w:World){W:List Nat}(ao:Option Addr)(cap:Nat)(hS:Src w ao W.length cap 1 (u64s W))(hf:W.length <= 65536)(hu:∀v∈W,v<18446744073709551616)(g:Int):
  Calls prog 124 #[.slice ao W.length cap,iV g] w fun e w'=>e=.returned (.tuple #[KM ((JX W g).getD AM),iV (K0 W g)]) /\ Below w.heap.size w w':=by
 have r:=Gr;have E:=(r_ (C_ w)).alloc zH;have a5:(w.alloc zH).there w.heap.size 0 4:=E.there1;have G:=uh (E.laid [yV 0,iV 0,iV 0,iV 0] rfl);have a4:=LA;have h2:((W.length:Int)).tdiv 2=((W.length/2:Nat):Int):=GC _ 2;have a1:(W.length:Int)/2=((W.length/2:Nat):Int):=O
 by_cases y:0 <= g /\ g<(W.length/2:Nat)
 · obtain⟨g,rfl⟩:∃q:Nat,g=q:=⟨g.toNat,by omega⟩
   have a3:g<W.length/2:=O;obtain⟨v,U⟩:∃v,W[2*g]?= some v:=⟨W[2*g]'O,a_ _⟩;obtain⟨M,N⟩:=LZ a3 U;rw[M,N];have hd:(Jv v).getD AM=N0 v:=rfl;rw[hd];have a8:=hu v (q_ U);obtain⟨b,off,rfl,hc⟩:=hS.form (by rw[LD];omega);have c1:=(E.below.cell (p:=(aD b (off+2*g))) (c_ w _ (hc _ _ (JG U)))).trans (hc _ _ (JG U));have Hd:=uh (fun W=>jP W v a8);have k1:decide ((g:Int)<0)=false:=b_ O;have k5:(2*(g:Int)).toNat=2*g:=O;have k6:2*(g:Int)<(W.length:Int):=O;obtain⟨z,V⟩:∃z:Nat,W.length/2=z:=⟨_,rfl⟩;rw[V]at h2 a1 a3;have k2:decide ((z:Int) <= (g:Int))=false:=b_ O;have k3:¬(z:Int) <= (g:Int):=O;have a6:=uh E;generalize N0 v=hh at*;obtain⟨xa,xb,xc,xd⟩:=hh;have a7:=GP ⟨xa,xb,xc,xd⟩;obtain⟨er,J⟩:∃er:Int,Hid ((if (Jv v).isSome=true then(0:Int)else 7)=er):=⟨_,uh rfl⟩;rw[J.out]at Hd;rw[J.out];clear y M N hd U hS hu E G V J hc
   go_enter func124,ntmps124
   go_wp2_with (first
    | (go_at_call 171;refine(Hd.out _).mono ?_;rintro e w5 ⟨rfl,a2⟩;have Z:=uh (a6.out.call a2);clear a2)
    | (show sW 125;refine h_ rfl 125 _ _ rfl _ 0 #[yV xa,iV xb,iV xc,iV xd] rfl rfl Z.out.there1 r a7 ?_;have a0:=uh (Z.out.laid [yV xa,iV xb,iV xc,iV xd] rfl))
    | fail)
   refine f_ (Gs results124 _ _ _ _ _ rfl a0.out.range1 underlying125 rfl r) rfl ⟨rfl,a0.out.below⟩
 · obtain⟨M,N⟩:=Tu y
   rw[M,N];obtain⟨z,V⟩:∃z:Nat,W.length/2=z:=⟨_,rfl⟩;rw[V]at h2 a1 y;clear M N hS hu E V
   by_cases hg:g<0
   · have k1:decide (g<0)=true:=k_ hg
     clear y
     go_enter func124,ntmps124
     go_wp2_with (first
      | (show sW 125;refine h_ rfl 125 _ _ rfl _ 0 #[yV 0,iV 0,iV 0,iV 0] rfl rfl a5 r a4 ?_)
      | fail)
     refine f_ (Gs results124 _ _ _ _ _ rfl G.out.range1 underlying125 rfl r) rfl ⟨rfl,G.out.below⟩
   · have k1:decide (g<0)=false:=b_ hg
     have k2:decide ((z:Int) <= g)=true:=k_ O;have k3:(z:Int) <= g:=O;clear y
     go_enter func124,ntmps124
     go_wp2_with (first
      | (show sW 125;refine h_ rfl 125 _ _ rfl _ 0 #[yV 0,iV 0,iV 0,iV 0] rfl rfl a5 r a4 ?_)
      | fail)
     refine f_ (Gs results124 _ _ _ _ _ rfl G.out.range1 underlying125 rfl r) rfl ⟨rfl,G.out.below⟩
end
section
open Go Go.RowKit Go.IntWalk
def objq (L:List Ty)(W:List Nat)(g:Int):Option Hd:=match JX W g with
 | none=>none
 | some h=>if h.tag=1 /\ Ka L h=0 /\ g.toNat+h.size <= W.length/2 then some h else none
abbrev G4 (a:Nat)(g:Int)(h:Hd)(t:Ty):List Value:=[pt a,iV g,yV h.tag,iV h.typ,iV h.len,iV h.size,yV t.kind,iV t.words,uV t.mask]
theorem M8 {h:Hd}(r:h.may):HdIn h:=by
 obtain⟨y,E,G,J⟩:=r;exact⟨by omega,by omega,by omega,by omega⟩
theorem L8 {W:List Nat}{g:Int}{h:Hd}(r:JX W g=some h):h.may /\ 0 <= g /\ g<(W.length/2:Nat) /\ K0 W g=0:=by
 unfold JX at r
 split at r
 · rename_i hc
   refine⟨(WY r).1,hc.1,hc.2,?_⟩;unfold K0;rw[v_ hc,r]
   rfl
 ·cases r
theorem LF {W:List Nat}{g:Int}(r:JX W g=none):K0 W g≠0:=by
 unfold JX at r;unfold K0
 split at r
 · rename_i hc
   rw[v_ hc,r]
   decide
 · rename_i hc
   rw[y_ hc]
   decide
theorem QE (w:World)(hF:Fields w){a aw:Nat}{W:List Nat}(hA:ArAt w a aw W)(hu:∀v∈W,v<18446744073709551616)(L:List Ty)(ae:∀t∈L,TyIn t)(hL:L.length <= 1000)(tb:Nat)(ao:Option Addr)(cap:Nat)(hT:TabAt w tb ao cap L)(g:Int):
  Calls prog 26 #[pt a,pt tb,iV g] w fun e w'=>match objq L W g with
   | some h=>∃vb,e=.returned (.tuple #[pt vb,iV 0]) /\ Turn [] w [(vb,.cells (G4 a g h (tyAt L h.typ)).toArray 179)] w'
   | none=>∃er:Int,e=.returned (.tuple #[.pointer none,iV er]) /\ er≠0 /\ Below w.heap.size w w':=by
 have a3:=Gr;have ag:=JZ;have a1:=uh (Wb w hF hA hu g);have aa:=uh (fun W' (hB:Below w.heap.size w W')=>D3 W' (hA.below hB));have aB:=hA.few;have ay:=LA
 cases hh:JX W g with
 | none=>
  have ax:=LF hh;have hq:objq L W g=none:=by unfold objq;rw[hh]
  rw[hq];simp only;rw[hh]at a1;generalize K0 W g=er at*;clear hF hA hu hT hh hq aa ae
  go_enter func26,ntmps26
  go_wp2_with fail
  refine a1.out.mono ?_;rintro e w1 ⟨rfl,a2⟩;simp only[Jj];have T2:=(Ze (C_ w) a2).alloc zH;have ab:(w1.alloc zH).there w1.heap.size 0 4:=T2.there1;have a6:=uh (T2.laid [yV 0,iV 0,iV 0,iV 0] rfl);clear T2 a2 a1
  go_wp2_with (first
   | (show sW 125;refine h_ rfl 125 _ _ rfl _ 0 #[yV 0,iV 0,iV 0,iV 0] rfl rfl ab a3 ay ?_)
   | fail)
  refine f_ (E_ rfl _ _ _) rfl ?_;exact⟨er,rfl,ax,a6.out.below⟩
 | some h=>
  obtain⟨hm,aq,au,ak⟩:=L8 hh;obtain⟨g,rfl⟩:∃q:Nat,g=q:=⟨g.toNat,by omega⟩;have hq:objq L W g=if h.tag=1 /\ Ka L h=0 /\ g+h.size <= W.length/2 then some h else none:=by unfold objq;rw[hh];simp
  rw[hq];rw[hh,ak]at a1;have a9:=uh (fun W' (hB:Below w.heap.size w W')=>ZU W' (range_below hF hB) L ae hL tb ao cap (hT.below hB) h (M8 hm));have a4:=uh (fun W' (hB:Below w.heap.size w W')=>QT W' L tb ao cap (hT.below hB) hL h.typ);have av:g<W.length/2:=O;obtain⟨z,hz⟩:∃z:Nat,W.length/2=z:=⟨_,rfl⟩;rw[hz]at hq aa av ⊢;have aH:z <= 65536:=O;have ac:Hid (tyAt L h.typ=tyAt L h.typ):=uh rfl;clear ac;generalize ac:tyAt L h.typ=t at a4;generalize(if (Kc L h.typ).isSome=true then(0:Int)else 3)=aC at a4;generalize aF:Ka L h=fe at*;obtain⟨xa,N,U,J⟩:=h;simp only
  have aE:xa <= 3 /\ J<16777216:=by
   obtain⟨m1,m2,m3,m4⟩:=hm;simp only at m1 m2 m3 m4;omega
  obtain⟨k,m,mk⟩:=t
  refine(show ∀Qp:Ending -> World -> Prop,Hid (xa=1 /\ fe=0 /\ g+J <= z -> ∀vb w',Turn [] w [(vb,.cells (G4 a g ⟨xa,N,U,J⟩ ⟨k,m,mk⟩).toArray 179)] w' -> Qp (.returned (.tuple #[pt vb,iV 0])) w') ->
    Hid (¬(xa=1 /\ fe=0 /\ g+J <= z) -> ∀w',Below w.heap.size w w' -> Qp (.returned (.tuple #[.pointer none,iV 8])) w') ->
    Calls prog 26 #[pt a,pt tb,iV g] w Qp from ?_) _
    (uh (fun hc vb w' T=>by rw[v_ hc];simp only;exact⟨vb,rfl,by rw[ac];exact T⟩)) (uh (fun hc w' hB=>by rw[y_ hc];exact⟨8,rfl,by decide,hB⟩))
  clear ac hq;intro Qp HY HN;have an:=GP ⟨xa,N,U,J⟩;have am:=KH ⟨k,m,mk⟩;simp only at an am;clear hF hA hu hT hh ak hm ae aq au hz
  go_enter func26,ntmps26
  go_wp2_with fail
  refine a1.out.mono ?_;rintro e w1 ⟨rfl,a2⟩;simp only[Zc];have T2:=((Ze (C_ w) a2).alloc zH).laid [yV xa,iV N,iV U,iV J] rfl;have ab:(w1.alloc zH).there w1.heap.size 0 4:=((Ze (C_ w) a2).alloc zH).there1;have c1:=T2.cell1 1;have a6:=uh T2;clear T2 a2 a1
  go_wp2_with (first
   | (show sW 125;refine h_ rfl 125 _ _ rfl _ 0 #[yV xa,iV N,iV U,iV J] rfl rfl ab a3 an ?_;clear ab)
   | fail)
  refine(a4.out _ a6.out.below).mono ?_;rintro e w2 ⟨rfl,aj⟩;have T3:=(a6.out.call aj).alloc zT;have ah:(w2.alloc zT).there w2.heap.size 0 3:=T3.there1;have T4:=T3.laid [yV k,iV m,uV mk] rfl;have a0:=T4.range1;have a8:=T4.range2;have V:=uh T4;clear T3 T4 aj a6 a4 c1
  go_upto_region 5 with(first
   | (show sW 79;refine h_ rfl 79 _ _ rfl _ 0 #[yV k,iV m,uV mk] rfl rfl ah ag am ?_;clear ah)
   | fail)
  by_cases ht:xa=1
  · subst ht
    by_cases af:fe=0
    · subst af
      have k1:IntKind.i64.wrap ((z:Int)-(g:Int))=(z:Int)-(g:Int):=i64_in _ O
      by_cases hs:g+J <= z
      · have k2:decide (((z:Int)-(g:Int))<(J:Int))=false:=b_ O
        have ap:=uh (HY.out ⟨rfl,rfl,hs⟩);clear HY HN hs
        go_wp2_with fail
        refine J1 (fun W=>Turn [] w [(w2.heap.size,.cells #[yV k,iV m,uV mk] 79),(w1.heap.size,.cells #[yV 1,iV N,iV U,iV J] 125)] W.drew) V.out.drew fun W E=>?_;clear V a8 a0;refine F_ ?_;refine rG (S:=fun W'=>Turn [] w [(w2.heap.size,.cells #[yV k,iV m,uV mk] 79),(w1.heap.size,.cells #[yV 1,iV N,iV U,iV J] 125)] W') 18 ?_;refine G2 0 28 E ?_;refine N8 1 29 rfl rfl (by rfl) kr kr kr (fun _ _ _ _ h=>h) E (by(intro w' y;have hc:w'.cell? (aD w1.heap.size 0)=some (yV 1):=y.cell2 0;clear y;go_simp;try rfl)) ?_;simp only[G7,G6];refine G2 2 30 E ?_;refine G2 3 31 E ?_;refine G2 4 32 E ?_;refine XM 5 33 E (fun w' y=>Xa 125 _ rfl w1.heap.size 0 rfl [yV 1,iV N,iV U,iV J] _ y.range2 underlying125 rfl a3) ?_;refine G5 6 (fun K M=>?_)
        go_simp
        refine(a9.out _ E.below).mono ?_;rintro e W3 ⟨rfl,Z⟩;have r:=E.call Z;refine M.out _ _ r fun _=>?_;clear M K E Z;simp only[Gb,G7,G6];refine G2 7 35 r ?_;refine G2 8 36 r ?_;refine G2 9 37 r ?_;refine G2 10 38 r ?_;refine N8 11 39 rfl rfl (by rfl) kr kr kr (fun _ _ _ _ h=>h) r (by(intro w' y;have hc:w'.cell? (aD w1.heap.size 3)=some (iV J):=y.cell2 3;clear y;go_simp;try rfl)) ?_;simp only[G7,G6];refine G2 12 40 r ?_;refine G2 14 42 r ?_;refine G5 13 (fun K M=>?_)
        go_simp
        refine(aa.out _ r.below).mono ?_;rintro e W4 ⟨rfl,rfl⟩;have G:=r;refine M.out _ _ G fun _=>?_;clear M K;simp only[Gb,G7,G6];refine G2 15 43 G ?_;refine G2 16 44 G ?_;refine G2 17 45 G ?_;refine P_ kr ?_ _;refine z_ ?_;have a8:=G.range2;have a0:=G.range1;have a7:=uh G;clear G
        go_wp2_with (first
         | (show lW 125;refine J_ rfl 125 _ rfl w1.heap.size 0 rfl [yV 1,iV N,iV U,iV J] _ a8 underlying125 rfl a3 ?_)
         | (show lW 79;refine J_ rfl 79 _ rfl w2.heap.size 0 rfl [yV k,iV m,uV mk] _ a0 underlying79 rfl ag ?_)
         | fail)
        exact ap.out _ _ ((a7.out.alloc _).sub (List.Sublist.cons_cons _ (List.nil_sublist _)))
      · have k2:decide (((z:Int)-(g:Int))<(J:Int))=true:=k_ O
        have k3:((z:Int)-(g:Int))<(J:Int):=O;have a5:=uh (HN.out (fun h=>hs h.2.2));clear HY HN hs
        go_wp2_with fail
        refine J1 (fun W=>Turn [] w [(w2.heap.size,.cells #[yV k,iV m,uV mk] 79),(w1.heap.size,.cells #[yV 1,iV N,iV U,iV J] 125)] W.drew) V.out.drew fun W E=>?_;clear V a8 a0;refine F_ ?_;refine rG (S:=fun W'=>Turn [] w [(w2.heap.size,.cells #[yV k,iV m,uV mk] 79),(w1.heap.size,.cells #[yV 1,iV N,iV U,iV J] 125)] W') 18 ?_;refine G2 0 28 E ?_;refine N8 1 29 rfl rfl (by rfl) kr kr kr (fun _ _ _ _ h=>h) E (by(intro w' y;have hc:w'.cell? (aD w1.heap.size 0)=some (yV 1):=y.cell2 0;clear y;go_simp;try rfl)) ?_;simp only[G7,G6];refine G2 2 30 E ?_;refine G2 3 31 E ?_;refine G2 4 32 E ?_;refine XM 5 33 E (fun w' y=>Xa 125 _ rfl w1.heap.size 0 rfl [yV 1,iV N,iV U,iV J] _ y.range2 underlying125 rfl a3) ?_;refine G5 6 (fun K M=>?_)
        go_simp
        refine(a9.out _ E.below).mono ?_;rintro e W3 ⟨rfl,Z⟩;have r:=E.call Z;refine M.out _ _ r fun _=>?_;clear M K E Z;simp only[Gb,G7,G6];refine G2 7 35 r ?_;refine G2 8 36 r ?_;refine G2 9 37 r ?_;refine G2 10 38 r ?_;refine N8 11 39 rfl rfl (by rfl) kr kr kr (fun _ _ _ _ h=>h) r (by(intro w' y;have hc:w'.cell? (aD w1.heap.size 3)=some (iV J):=y.cell2 3;clear y;go_simp;try rfl)) ?_;simp only[G7,G6];refine G2 12 40 r ?_;refine G2 14 42 r ?_;refine G5 13 (fun K M=>?_)
        go_simp
        refine(aa.out _ r.below).mono ?_;rintro e W4 ⟨rfl,rfl⟩;have G:=r;refine M.out _ _ G fun _=>?_;clear M K;simp only[Gb,G7,G6];refine G2 15 43 G ?_;refine G2 16 44 G ?_;refine G2 17 45 G ?_;refine P_ kr ?_ _;refine z_ ?_;have a7:=uh G;clear G
        go_wp2
        exact a5.out _ a7.out.below
    · have aA:(fe != 0)=true:=by rw[Qe];exact af
      have a5:=uh (HN.out (fun h=>af h.2.1));clear HY HN
      go_wp2_with fail
      refine J1 (fun W=>Turn [] w [(w2.heap.size,.cells #[yV k,iV m,uV mk] 79),(w1.heap.size,.cells #[yV 1,iV N,iV U,iV J] 125)] W.drew) V.out.drew fun W E=>?_;clear V a8 a0;refine F_ ?_;refine rG (S:=fun W'=>Turn [] w [(w2.heap.size,.cells #[yV k,iV m,uV mk] 79),(w1.heap.size,.cells #[yV 1,iV N,iV U,iV J] 125)] W') 18 ?_;refine G2 0 28 E ?_;refine N8 1 29 rfl rfl (by rfl) kr kr kr (fun _ _ _ _ h=>h) E (by(intro w' y;have hc:w'.cell? (aD w1.heap.size 0)=some (yV 1):=y.cell2 0;clear y;go_simp;try rfl)) ?_;simp only[G7,G6];refine G2 2 30 E ?_;refine G2 3 31 E ?_;refine G2 4 32 E ?_;refine XM 5 33 E (fun w' y=>Xa 125 _ rfl w1.heap.size 0 rfl [yV 1,iV N,iV U,iV J] _ y.range2 underlying125 rfl a3) ?_;refine G5 6 (fun K M=>?_)
      go_simp
      refine(a9.out _ E.below).mono ?_;rintro e W3 ⟨rfl,Z⟩;have r:=E.call Z;refine M.out _ _ r fun _=>?_;clear M K E Z;simp only[Gb,G7,G6];refine G2 7 35 r ?_;refine G2 8 36 r ?_;refine G2 9 37 r ?_;refine FY 10 38 r ?_;refine FY 11 39 r ?_;refine FY 12 40 r ?_;refine FY 13 41 r ?_;refine FY 14 42 r ?_;refine FY 15 43 r ?_;refine FY 16 44 r ?_;refine G2 17 45 r ?_;refine P_ kr ?_ _;refine z_ ?_;have a7:=uh r;clear r
      go_wp2
      exact a5.out _ a7.out.below
  · have az:¬(xa:Int)=1:=O
    have aG:((xa:Int) != 1)=true:=(by rw[Qe];exact az);have a5:=uh (HN.out (fun h=>ht h.1));have c0:=V.out.cell2 0;clear HY HN
    go_quiet (fail)
    go_wp2
    exact a5.out _ (V.out.drewN _).below
abbrev LN (w:World)(vb a:Nat)(g:Int)(h:Hd)(t:Ty):Prop:=w.rangeAt vb 0 (G4 a g h t)
theorem LN.c {w:World}{r a:Nat}{g:Int}{h:Hd}{t:Ty}(y:LN w r a g h t){i:Nat}{v:Value}(h1:(G4 a g h t)[i]?= some v):w.cell? (aD r i)=some v:=by
 have:=y i v h1
 rwa [Q_]at this
theorem Fe (w:World){N a:Nat}{g:Int}{h:Hd}{t:Ty}(hv:LN w N a g h t):Calls prog 207 #[pt N] w fun e w'=>e=.returned (KM h) /\ Below w.heap.size w w':=by
 have J:=Gr;obtain⟨r,y,E,G⟩:=h;have M:=(r_ (C_ w)).alloc zH;have V:=range_below hv M.below;have a1:(w.alloc zH).there w.heap.size 0 4:=M.there1;have U:=uh (M.laid [yV r,iV y,iV E,iV G] rfl);have a0:=GP ⟨r,y,E,G⟩
 have hr:(w.alloc zH).rangeAt N 2 [yV r,iV y,iV E,iV G]:=fun j v Z=>by
  have:=V (2+j) v (by rw[show G4 a g ⟨r,y,E,G⟩ t=[pt a,iV g]++([yV r,iV y,iV E,iV G]++Kz t)from rfl,Qg (by simp),show(2+j)-([pt a,iV g]:List Value).length=j by simp,Qz (m_.1 Z).1,Z])
  rwa [Q_]at this
 clear hv V M
 go_enter func207,ntmps207
 go_wp2_with (first
  | (show lW 125;refine J_ rfl 125 _ rfl N 2 rfl [yV r,iV y,iV E,iV G] _ hr underlying125 rfl J ?_)
  | (show sW 125;refine h_ rfl 125 _ _ rfl _ 0 #[yV r,iV y,iV E,iV G] rfl rfl a1 J a0 ?_)
  | fail)
 refine f_ (Wp results207 _ _ _ _ _ rfl U.out.range1 underlying125 rfl J) rfl ⟨rfl,U.out.below⟩
theorem FX (w:World){J a:Nat}{g:Int}{h:Hd}{t:Ty}(G:LN w J a g h t)(ht:TyIn t)(he:t.err h.len=0):Calls prog 140 #[pt J] w fun e w'=>e=.returned (iV (t.slots h.len:Nat)) /\ Below w.heap.size w w':=by
 have a1:=uh (fun W=>PC W t ht h.len);rw[he,v_ rfl,Qs]at a1;have a3:=JZ;have d4:=G.c (i:=4) rfl;have d6:=G.c (i:=6) rfl;have d7:=G.c (i:=7) rfl;have d8:=G.c (i:=8) rfl;have HT:=uh (r_ (C_ w));generalize t.slots h.len=sl at*;obtain⟨U,V,M,Z⟩:=h;obtain⟨k,m,mk⟩:=t;clear ht he
 go_enter func140,ntmps140
 go_wp2_with fail
 refine J1 (fun W=>Below w.heap.size w W.drew /\ W.drew.rangeAt J 0 (G4 a g ⟨U,V,M,Z⟩ ⟨k,m,mk⟩)) ⟨HT.out.drew.below,G⟩ fun W hW=>?_;obtain⟨a2,r⟩:=hW;have a0:=uh a2;clear a2 G HT d4 d6 d7 d8;refine F_ ?_;refine rG (S:=fun W'=>W'.rangeAt J 0 (G4 a g ⟨U,V,M,Z⟩ ⟨k,m,mk⟩)) 15 ?_;refine G2 0 8 r ?_;refine G2 1 9 r ?_;refine G2 2 10 r ?_;refine XM 3 11 r (fun w' E=>Xa 79 _ rfl J 6 rfl [yV k,iV m,uV mk] _ (fun j v hj=>by have:=E (6+j) v (by rw[show G4 a g ⟨U,V,M,Z⟩ ⟨k,m,mk⟩=[pt a,iV g,yV U,iV V,iV M,iV Z]++[yV k,iV m,uV mk]from rfl,Qg (by simp),show(6+j)-([pt a,iV g,yV U,iV V,iV M,iV Z]:List Value).length=j by simp];exact hj);rwa [Q_]at this) underlying79 rfl a3) ?_
 refine G2 4 12 r ?_;refine G2 5 13 r ?_;refine G2 6 14 r ?_;refine G2 7 15 r ?_;refine N8 8 16 rfl rfl (by rfl) kr kr kr (fun _ _ _ _ h=>h) r (by(intro w' E;have hc:w'.cell? (aD J 4)=some (iV M):=E 4 _ rfl;clear E;go_simp;try rfl)) ?_;simp only[G7,G6];refine G5 9 (fun K hK=>?_)
 go_simp
 refine(a1.out _).mono ?_;rintro e W3 ⟨rfl,N⟩;have y:=range_below r N;have a4:=uh (a0.out.trans (N.mono a0.out.size));refine hK.out _ _ y fun _=>?_;clear hK K r N;simp only[Gb,G7,G6];refine G2 10 7 y ?_;refine G2 11 18 y ?_;refine G2 12 19 y ?_;refine G2 13 3 y ?_;refine G2 14 4 y ?_;refine P_ kr ?_ _;refine z_ ?_;clear y
 go_wp2
 go_ret;exact⟨rfl,a4.out⟩
theorem Fc (w:World){vb a g:Nat}{h:Hd}{t:Ty}(E:LN w vb a g h t)(V:TyIn t)(y:t.err h.len=0)(hg:g <= 65536)(s:Nat)(hs:s<t.slots h.len):Calls prog 87 #[pt vb,iV s] w fun e w'=>e=.returned (.tuple #[iV (2*g+1+s:Nat),iV 0]) /\ Below w.heap.size w w':=by
 have N:=uh (FX w E V y);have M:=uh (fun G (hB:Below w.heap.size w G)=>LN.c (range_below E hB) (i:=1) rfl);obtain⟨U,h0,hn,-⟩:=L3.1 y;have a0:=GJ U (n:=h.len) O;have HT:=uh (r_ (C_ w));generalize t.slots h.len=Z at*;have k1:decide ((s:Int)<0)=false:=b_ O;have k2:decide ((Z:Int) <= (s:Int))=false:=b_ O;have k3:¬(Z:Int) <= (s:Int):=O;clear E V y U h0 hn
 go_enter func87,ntmps87
 go_wp2_with (first
  | (go_at_call 140;refine N.out.mono ?_;rintro e G ⟨rfl,r⟩;have J:=uh (HT.out.call r);have d1:=M.out G r;clear r)
  | fail)
 refine f_ (E_ rfl _ _ _) rfl ?_;refine⟨?_,J.out.below⟩;rw[show((2*g+1+s:Nat):Int)=2*(g:Int)+1+(s:Int)by omega]
 rfl
theorem Fd (w:World){vb a aw g:Nat}{W:List Nat}{h:Hd}{t:Ty}(V:ArAt w a aw W)(J:LN w vb a g h t)(ht:TyIn t)(Z:t.err h.len=0)(hg:g <= 65536)(s v:Nat)(hs:s<t.slots h.len)(hw:W[2*g+1+s]?= some v):
  Calls prog 214 #[pt vb,iV s] w fun e w'=>e=.returned (.tuple #[uV v,iV 0]) /\ Below w.heap.size w w':=by
 have U:=uh (Fc w J ht Z hg s hs);have M:=uh (fun r (G:Below w.heap.size w r)=>LN.c (range_below J G) (i:=0) rfl);have Hl:=uh (fun r (G:Below w.heap.size w r)=>FM r (V.below G) (2*g+1+s) v hw);generalize 2*g+1+s=q at*;clear V J ht Z hw hs
 go_enter func214,ntmps214
 go_wp2_with (first
  | (go_at_call 87;refine U.out.mono ?_;rintro e r ⟨rfl,y⟩;have d0:=M.out r y;have N:=uh (Hl.out r y);have HB:=uh y;clear y)
  | (go_at_call 136;refine N.out.mono ?_;rintro e w3 ⟨rfl,E⟩;rw[E];clear E w3)
  | fail)
 refine f_ (E_ rfl _ _ _) rfl ?_;exact⟨rfl,HB.out⟩
theorem XK {l L:List Blk}{w0:World}(w:World){vb a aw g:Nat}{W:List Nat}{n:Int}{h:Hd}{t:Ty}(T:Turn l w0 (G0 a aw W n++L) w)(hf:W.length <= 65536)(J:LN w vb a g h t)(ht:TyIn t)(he:t.err h.len=0)(hg:g <= 65536)(s v:Nat)(hs:s<t.slots h.len)(hw:2*g+1+s<W.length):
  Calls prog 27 #[pt vb,iV s,uV v] w fun e w'=>e=.returned (iV 0) /\ ∃M:Int,Turn l w0 (G0 a aw (W.set (2*g+1+s) v) M++L) w':=by
 have a0:=uh (Fc w J ht he hg s hs);have U:=uh (fun r (G:Below w.heap.size w r)=>LN.c (range_below J G) (i:=0) rfl);have Z:=uh (fun r (G:Below w.heap.size w r)=>VH r (T.call G) hf (2*g+1+s) v hw);generalize 2*g+1+s=q at*;clear T J ht he hw hs
 go_enter func27,ntmps27
 go_wp2_with (first
  | (go_at_call 87;refine a0.out.mono ?_;rintro e r ⟨rfl,y⟩;have d0:=U.out r y;have V:=uh (Z.out r y);clear y)
  | (go_at_call 16;refine V.out.mono ?_;rintro e w3 ⟨rfl,M,E⟩;have N:=uh E;clear E)
  | fail)
 go_ret;exact⟨rfl,M,N.out⟩
end
end Go.Proofs.YtoaofpohakaliaaGreatDoor
