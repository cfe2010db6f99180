/-
  A part of a proof: texts packed by a program of mine (Sq2, Tr1, Tr2, Tr3, Sz14, Vr1, Vr2, Tr4, Tr5, Ob1, Ob2, Gp1, Cl1, Gp2).
  Conditions: those that each theorem states.
-/
import Derived.OwnWalkIn
import Derived.Lib.SliceRun
import Derived.Scope
import Derived.Test.YtbecgkejdacidaaGreatDoorQa5
namespace Go.Proofs.YtbecgkejdacidaaGreatDoor
section
open Go Go.RowKit Go.Shelf Go.IntWalk
attribute [local go_sem] Oper.semAt_some
set_option maxRecDepth 100000 in
set_option maxHeartbeats 3200000 in
theorem wcells_g (n : Nat) (hn : 2 ≤ n) (wb : World) (a aw tb : Nat) (W : List Nat) (tao : Option Addr) (tcap : Nat) (L : List Ty) (hA : WkAt wb a aw tb W tao tcap L) (hf : W.length ≤ 65536) (hu : ∀ v ∈ W, v < 18446744073709551616) (hTy : ∀ t ∈ L, TyIn t) (hL : L.length ≤ 1000)
  (cs : List Ce) (hC : Chain L W 0 cs (W.length / 2)) (Bs Bt : Nat) (D : World → Nat → Prop) (G : World → Prop) (hGD : ∀ A, G A → ∀ b, D A b → b < A.heap.size ∧ b ≠ Bs ∧ b ≠ Bt) (hDD : ∀ A B b, G A → Below A.heap.size A B → D B b → D A b) (w : World) (hw : Below wb.heap.size wb w) (hBs : w.heap[Bs]? = some (.cells #[.pointer (some ⟨a, 0, none⟩)] 112)) (hBt : w.heap[Bt]? = some (.cells #[.pointer (some ⟨tb, 0, none⟩)] 119)) :
  SeqG Fence.wide n Tryz.prog 243 #[.pointer (some ⟨Bs, 0, none⟩), .pointer (some ⟨Bt, 0, none⟩)] ceArgs (KpD wb.heap.size D) (fun pre x => ∃ post, cs = pre ++ x :: post) (fun xs => xs = cs) G w := fun l J W0 hW hJ hG hY h0 => by
 have hB0 : W0.heap[Bs]? = some (.cells #[.pointer (some ⟨a, 0, none⟩)] 112) := (hW.block Bs (lt_of_block hBs)).trans hBs
 have hT0 : W0.heap[Bt]? = some (.cells #[.pointer (some ⟨tb, 0, none⟩)] 119) := (hW.block Bt (lt_of_block hBt)).trans hBt
 have hw0 : Below wb.heap.size wb W0 := hw.trans (hW.mono hw.size)
 have HA0 := uh hw.size
 have hW0 := hW.size
 have hFl : Fence.wide.fn 243 := trivial
 have hf1 : Fence.wide.fn 63 := trivial
 have hf2 : Fence.wide.fn 126 := trivial
 have hf3 : Fence.wide.fn 128 := trivial
 refine callsIn_of_wp Tryz.func243 rfl hFl ?_ rfl
 simp only [Tryz.ntmps243, List.size_toArray, List.length_cons, List.length_nil, Nat.reduceAdd, Nat.reduceSub, Array.replicate_succ, Array.replicate_zero, List.push_toArray, List.append_toArray, List.nil_append, List.cons_append]
 have h1 : 1 ≤ n := by omega
 have h2 : 1 ≤ n - 1 := by omega
 have HY := uh hY
 have HJ := uh hJ
 have hszH := sz_head
 have Hln := uh (alen W0 (hA.below hw0).ar)
 have Hhd := uh (fun w' (hB : Below wb.heap.size wb w') (g : Int) => shead w' (hA.below hB).fields (hA.below hB).ar hu g)
 have Hft := uh (fun w' (hB : Below wb.heap.size wb w') h hi => hfits w' (hA.below hB).fields L hTy hL tb tao tcap (hA.below hB).tab h hi)
 have HA := uh hA
 have HC := uh hC
 have hlen := hC.len
 have hdiv : ((W.length : Int)).tdiv 2 = ((W.length / 2 : Nat) : Int) := tdiv_nat _ 2
 have hdiv2 : (W.length : Int) / 2 = ((W.length / 2 : Nat) : Int) := by omega
 obtain ⟨z, hz⟩ : ∃ z : Nat, W.length / 2 = z := ⟨_, rfl⟩
 have hzb : z ≤ 32768 := by omega
 rw [hz] at HC hlen hdiv hdiv2
 have Hw0 := uh hw0
 have HB0 := uh hB0
 have HT0 := uh hT0
 have HG := uh hG
 have q1 : W0.cell? ⟨Bs, 0, none⟩ = some (.pointer (some ⟨a, 0, none⟩)) := (Has.one hB0).cell (List.mem_cons_self ..) 0
 clear hY hJ hG hW hw hBs hBt hB0 hT0 hw0 hA hu hTy hC hz
 gi_wp2_with (first
  | (gi_at_call 63; refine (callsIn_wide.2 Hln.out).mono ?_; rintro e w' ⟨rfl, hw⟩; rw [hw]; clear hw w')
  | fail)
 clear q1 Hln hdiv hdiv2
 gi_loopw [5] (fun v5 wr => ∃ (pre post : List Ce) (g : Nat), cs = pre ++ post ∧ v5 = .int .i64 g ∧ Chain L W g post z ∧ J pre wr ∧ Below wb.heap.size wb wr ∧ wr.heap[Bs]? = some (.cells #[.pointer (some ⟨a, 0, none⟩)] 112) ∧ wr.heap[Bt]? = some (.cells #[.pointer (some ⟨tb, 0, none⟩)] 119) ∧ w.heap.size ≤ wr.heap.size) (fun v5 _ => z + 1 - (intOf v5).toNat)
 case atStart => exact ⟨[], cs, 0, rfl, by go_num, HC.out, h0, Hw0.out, HB0.out, HT0.out, hW0⟩
 case round =>
  clear HC h0 Hw0 HB0 HT0
  obtain ⟨pre, post, g, hcs, rfl, hch, hJw, hwr, hBw, hTw, hwl⟩ := hrel
  have hbx : wr.cell? ⟨Bs, 0, none⟩ = some (.pointer (some ⟨a, 0, none⟩)) := (Has.one hBw).cell (List.mem_cons_self ..) 0
  have htx : wr.cell? ⟨Bt, 0, none⟩ = some (.pointer (some ⟨tb, 0, none⟩)) := (Has.one hTw).cell (List.mem_cons_self ..) 0
  cases post with
  | nil =>
   obtain rfl : g = z := hch
   rw [List.append_nil] at hcs
   have HX := uh (⟨hcs.symm, hJw⟩ : pre = cs ∧ J pre wr)
   have hnl : ¬ (g : Int) < (g : Int) := by omega
   clear hJw hcs hwr hBw hTw
   gi_wp2_with fail
   go_end0
   exact ⟨⟨_, rfl⟩, by have h := HX.out.2; rw [HX.out.1] at h; exact h⟩
  | cons c post =>
   obtain ⟨cg, h⟩ := c
   obtain ⟨hcg, hst, hnext⟩ := hch
   simp only at hcg hst hnext
   subst hcg
   have hpos := hst.pos
   have hroom : cg + h.size ≤ z := hnext.le
   obtain ⟨e1, e2, e3, e4⟩ := stands_head hst
   have hmay := hst.2.1.1
   have Hh2 := uh (Hhd.out wr hwr cg)
   rw [e1, e2] at Hh2
   simp only [Option.getD_some] at Hh2
   have HF1 := uh (fun w' (hB : Below wr.heap.size wr w') => Hft.out w' (hwr.trans (hB.mono (Nat.le_trans HA0.out hwl))) h (may_in hmay))
   rw [e3] at HF1
   have HY2 := uh (fun W1 => HY.out pre (cg, h) W1 ⟨post, hcs⟩)
   unfold ceArgs at HY2
   obtain ⟨xa, xb, xc, xd⟩ := h
   simp only at hpos hroom HY2
   have hoX := hd_one ⟨xa, xb, xc, xd⟩
   simp only at hoX
   have k1 : IntKind.i64.wrap ((z : Int) - (cg : Int)) = (z : Int) - (cg : Int) := i64_in _ (by omega)
   have k2 : decide (((z : Int) - (cg : Int)) < (xd : Int)) = false := decide_eq_false (by omega)
   have k3 : ¬ ((z : Int) - (cg : Int)) < (xd : Int) := by omega
   have k4 : (cg : Int) < (z : Int) := by omega
   have Hnext := uh hnext
   have Hcs := uh hcs
   have HJw := uh hJw
   have hT0 := uh (Turn.refl (Has.nil wr))
   have HS := uh (fun w' b4 (V : Turn [] wr [(b4, .cells #[.int .u8 xa, .int .i64 xb, .int .i64 xc, .int .i64 xd] 79)] w') =>
    (⟨(V.below.cell (p := ⟨Bs, 0, none⟩) (World.block_lt_of_cell? wr _ hbx)).trans hbx, (V.below.cell (p := ⟨Bt, 0, none⟩) (World.block_lt_of_cell? wr _ htx)).trans htx, V.range1⟩ : w'.cell? ⟨Bs, 0, none⟩ = some (.pointer (some ⟨a, 0, none⟩)) ∧ w'.cell? ⟨Bt, 0, none⟩ = some (.pointer (some ⟨tb, 0, none⟩)) ∧ w'.rangeAt b4 0 [.int .u8 xa, .int .i64 xb, .int .i64 xc, .int .i64 xd]))
   have hGr := HG.out pre wr hJw
   have HN8 := uh (fun w8 w' b4 (hj : J (pre ++ [(cg, ⟨xa, xb, xc, xd⟩)]) w8) (k : KpD wb.heap.size D w' w8) (V : Turn [] wr [(b4, .cells #[.int .u8 xa, .int .i64 xb, .int .i64 xc, .int .i64 xd] 79)] w') =>
    (⟨hj, (hwr.trans (V.below.mono (Nat.le_trans HA0.out hwl))).trans k.below, k.same Bs _ ((V.below.block Bs (lt_of_block hBw)).trans hBw) rfl (fun hd => (hGD wr hGr Bs (hDD wr w' Bs hGr V.below hd)).2.1 rfl), k.same Bt _ ((V.below.block Bt (lt_of_block hTw)).trans hTw) rfl (fun hd => (hGD wr hGr Bt (hDD wr w' Bt hGr V.below hd)).2.2 rfl), Nat.le_trans hwl (Nat.le_trans V.size k.size)⟩ : J (pre ++ [(cg, ⟨xa, xb, xc, xd⟩)]) w8 ∧ Below wb.heap.size wb w8 ∧ w8.heap[Bs]? = some (.cells #[.pointer (some ⟨a, 0, none⟩)] 112) ∧ w8.heap[Bt]? = some (.cells #[.pointer (some ⟨tb, 0, none⟩)] 119) ∧ w.heap.size ≤ w8.heap.size))
   have HS2 := uh (fun w8 w' b4 (k : KpD wb.heap.size D w' w8) (V : Turn [] wr [(b4, .cells #[.int .u8 xa, .int .i64 xb, .int .i64 xc, .int .i64 xd] 79)] w') => by
    have h9 : wr.heap.size ≤ b4 := (V.new b4 (by simp [keys])).resolve_left (by simp [keys])
    have h8 := k.same b4 _ (V.has.own _ _ (List.mem_cons_self ..)) rfl (fun hd => by have := (hGD wr hGr b4 (hDD wr w' b4 hGr V.below hd)).1; omega)
    exact ((Has.one h8).range (List.mem_cons_self ..) : w8.rangeAt b4 0 [.int .u8 xa, .int .i64 xb, .int .i64 xc, .int .i64 xd]))
   clear hGr hJw hcs hwr hBw hTw hnext hst e1 e2 e3 e4 hmay HY
   gi_wp2_with (first
    | (gi_at_call 126; refine (callsIn_wide.2 Hh2.out).mono ?_; rintro e w1 ⟨rfl, hB1⟩; have T2 := (hT0.out.call hB1).alloc (.cells #[.int .u8 0, .int .i64 0, .int .i64 0, .int .i64 0] 79); have hth : (w1.alloc (.cells #[.int .u8 0, .int .i64 0, .int .i64 0, .int .i64 0] 79)).there w1.heap.size 0 4 := T2.there1; have HT2 := uh (T2.laid [.int .u8 xa, .int .i64 xb, .int .i64 xc, .int .i64 xd] rfl); clear hB1 T2)
    | (show wpListIn _ _ _ _ _ (⟨_, Op.store 79 _ _, _, _, _, _⟩ :: _) _ _; refine wpListIn_by (follows_wide _ _) rfl (by intro c h; cases h) (wp_store_mid 79 _ _ rfl _ 0 #[.int .u8 xa, .int .i64 xb, .int .i64 xc, .int .i64 xd] rfl rfl hth hszH hoX ?_); clear hth; generalize (w1.alloc (.cells #[.int .u8 0, .int .i64 0, .int .i64 0, .int .i64 0] 79)).setCells w1.heap.size 0 [.int .u8 xa, .int .i64 xb, .int .i64 xc, .int .i64 xd] = w5 at *; generalize w1.heap.size = b4 at *; have HT5 := uh HT2.out; have hS5 := HS.out _ _ HT5.out; have hS5b := hS5.2.1; have hr5 := hS5.2.2; have HF2 := uh (HF1.out _ HT5.out.below); clear HT2 hbx htx Hh2 hT0 hS5)
    | (show wpListIn _ _ _ _ _ (⟨_, Op.load 79 _, _, _, _, _⟩ :: _) _ _; first | refine wpListIn_byG (follows_wide _ _) (by rfl) (by intro c h; cases h) (wp_load_mid 79 _ rfl b4 0 rfl [.int .u8 xa, .int .i64 xb, .int .i64 xc, .int .i64 xd] _ hr5 Tryz.underlying79 rfl hszH ?_) | refine wpListIn_byG (follows_wide _ _) (by rfl) (by intro c h; cases h) (wp_load_mid 79 _ rfl b4 0 rfl [.int .u8 xa, .int .i64 xb, .int .i64 xc, .int .i64 xd] _ hr6 Tryz.underlying79 rfl hszH ?_))
    | (gi_at_call 128; refine (callsIn_wide.2 HF2.out).mono ?_; rintro e w6 ⟨rfl, hB6⟩; have HT6 := uh (HT5.out.call hB6); have hr6 := (HS.out _ _ HT6.out).2.2; have hc6 := hr6 3 _ rfl; obtain ⟨fn, tmps, assign, body, hy, hR⟩ := HY2.out _ (HJ.out pre wr _ none HJw.out (below_grownBy HT6.out.below) (fun r e => by cases e)); have HR := uh hR; clear hR hB6 HF2 HT5 hr5 hS5b)
    | fail)
   refine HR.out.mono ?_
   rintro e w8 ⟨rfl, hJ8, hk8⟩
   · have HN := uh (HN8.out _ _ _ hJ8 hk8 HT6.out)
     have hr8 := HS2.out _ _ _ hk8 HT6.out
     have hc8 := hr8 3 _ rfl
     clear hJ8 hk8 hr8 hr6 hc6 HT6 HS HS2 HN8 HR hy HY2 HF1
     gi_wp2_with fail
     go_roundw
     case rel => exact ⟨pre ++ [(cg, ⟨xa, xb, xc, xd⟩)], post, cg + xd, by rw [Hcs.out]; simp, by go_num, Hnext.out, HN.out.1, HN.out.2.1, HN.out.2.2.1, HN.out.2.2.2.1, HN.out.2.2.2.2⟩
     case measure => simp [intOf]; omega
end
section
open Go Go.RowKit Go.Shelf
def ResE (g : Nat) (A : World) (b : Nat) : Prop := b = g ∨ ∃ c f t k cap, A.heap[g]? = some (.cells c t f) ∧ c[3]? = some (.slice (some ⟨b, 0, none⟩) k cap)
def ResEG (g Bs Bt : Nat) (A : World) : Prop := ∀ b, ResE g A b → b < A.heap.size ∧ b ≠ Bs ∧ b ≠ Bt
theorem ResE.old {g Bs Bt : Nat} {A B : World} {b : Nat} (hg : ResEG g Bs Bt A) (hB : Below A.heap.size A B) (h : ResE g B b) : ResE g A b := by
 rcases h with h | ⟨c, f, t, k, cap, h, h2⟩
 · exact .inl h
 · refine .inr ⟨c, f, t, k, cap, ?_, h2⟩
   rw [← hB.block g (hg g (.inl rfl)).1]
   exact h
theorem ResE.put {g : Nat} {W : World} {l b : Nat} (hl : g < l) (o' : Obj) (h : ResE g (W.putObj l o') b) : ResE g W b := by
 rcases h with h | ⟨c, f, t, k, cap, h, h2⟩
 · exact .inl h
 · refine .inr ⟨c, f, t, k, cap, ?_, h2⟩
   rw [World.putObj_heap_other (by omega)] at h
   exact h
theorem resE_of {e tg : TypeId} {size n cap : Nat} {xs : List Value} {ao : Option Addr} {lr : List Blk} {g m p Bs Bt : Nat} {gc : Array Value} {f : Nat × Nat} {ob op os ot : Obj} {w W : World} (h : Row e size ao n cap xs lr) (hg : gc[3]? = some (.slice ao n cap))
  (T : Turn [] w ((g, .cells gc tg f) :: (m, ob) :: (lr ++ [(p, op), (Bs, os), (Bt, ot)])) W) : ResEG g Bs Bt W := by
 intro b hb
 have hnd := T.has.nd
 rcases hb with rfl | ⟨c, f', t, k, cap', hb, hc⟩
 · refine ⟨T.has.lt (by simp [keys]), ?_, ?_⟩
   · rintro rfl; simp [keys] at hnd
   · rintro rfl; simp [keys] at hnd
 · rw [T.has.own g _ (List.mem_cons_self ..)] at hb
   simp only [Option.some.injEq, Obj.cells.injEq] at hb
   obtain ⟨rfl, -, -⟩ := hb
   rw [hg] at hc
   simp only [Option.some.injEq, Value.slice.injEq] at hc
   obtain ⟨rfl, -, -⟩ := hc
   rcases h.2.2.2 with ⟨h2, -⟩ | ⟨q, cur, h2, rfl, -⟩
   · cases h2
   · cases h2
     refine ⟨T.has.lt (by simp [keys]), ?_, ?_⟩
     · rintro rfl; simp [keys] at hnd
     · rintro rfl; simp [keys] at hnd
theorem KpD.of2 {n₀ : Nat} {D : World → Nat → Prop} {L L' : List Blk} {A B : World} (h : Turn L A L' B) (hH : Has A L) (hn : n₀ ≤ A.heap.size) (hL : ∀ x ∈ L, n₀ ≤ x.1 ∧ (D A x.1 ∨ x.2.isCells = false)) (hO : ∀ b, b < A.heap.size → D B b → D A b) : KpD n₀ D A B :=
 ⟨⟨h.os, h.tape, h.output, h.size, fun b hb => h.same b (Nat.lt_of_lt_of_le hb hn) (fun hm => by obtain ⟨o, ho⟩ := mem_keys.1 hm; have := (hL _ ho).1; simp only at this; omega)⟩,
  h.size, fun b o h1 h2 h3 => (h.same b (lt_of_block h1) (fun hm => by
   obtain ⟨o', ho⟩ := mem_keys.1 hm
   rcases (hL _ ho).2 with h4 | h4
   · exact h3 h4
   · have h5 := hH.own b o' ho
     rw [h1] at h5
     cases h5
     simp only at h4
     rw [h2] at h4
     cases h4)).trans h1, hO⟩
theorem KpD.resE {n₀ g m : Nat} {e tg : TypeId} {size n cap n' cap' : Nat} {xs xs' : List Value} {ao ao' : Option Addr} {lr lr' Y : List Blk} {gc gc' : Array Value} {ob ob' : Obj} {A B : World} (h1 : Row e size ao n cap xs lr) (h2 : Row e size ao' n' cap' xs' lr') (hob : ob.isCells = false)
  (hg : gc[3]? = some (.slice ao n cap)) (hg' : gc'[3]? = some (.slice ao' n' cap'))
  (K : Turn ((g, .cells gc tg) :: (m, ob) :: lr) A ((g, .cells gc' tg) :: (m, ob') :: (lr' ++ Y)) B) (hH : Has A ((g, .cells gc tg) :: (m, ob) :: lr)) (hn : ∀ b ∈ keys ((g, .cells gc tg) :: (m, ob) :: lr), n₀ ≤ b) : KpD n₀ (ResE g) A B := by
 have hlt := hH.lt (b := g) (by simp [keys])
 have hgn := hn g (by simp [keys])
 have hown : ∀ b ∈ keys lr, ResE g A b := by
  intro b hb
  rcases h1.2.2.2 with ⟨-, -, rfl⟩ | ⟨q, cur, rfl, rfl, -⟩
  · cases hb
  · have : b = q := by simpa [keys] using hb
    subst this
    exact .inr ⟨gc, (0, 0), tg, n, cap, hH.own g _ (by simp), hg⟩
 refine KpD.of2 K hH (by omega) (fun x hx => ⟨hn x.1 (mem_keys.2 ⟨x.2, hx⟩), ?_⟩) (fun b hb hd => ?_)
 · rcases List.mem_cons.1 hx with rfl | hx
   · exact .inl (.inl rfl)
   rcases List.mem_cons.1 hx with rfl | hx
   · exact .inr hob
   · exact .inl (hown x.1 (mem_keys.2 ⟨x.2, hx⟩))
 · rcases hd with hd | ⟨c, f, t, k, cp, hd, hc⟩
   · exact .inl hd
   · rw [K.has.own g _ (List.mem_cons_self ..)] at hd
     simp only [Option.some.injEq, Obj.cells.injEq] at hd
     obtain ⟨rfl, -, -⟩ := hd
     rw [hg'] at hc
     simp only [Option.some.injEq, Value.slice.injEq] at hc
     obtain ⟨rfl, -, -⟩ := hc
     rcases h2.2.2.2 with ⟨h3, -⟩ | ⟨q, cur, h3, rfl, -⟩
     · cases h3
     · cases h3
       rcases K.new b (by simp [keys]) with h4 | h4
       · have hnd := K.has.nd
         simp only [keys, List.map_cons, List.mem_cons] at h4
         rcases h4 with h4 | h4 | h4
         · exact .inl h4
         · rw [h4] at hnd
           simp [keys] at hnd
         · exact hown b h4
       · omega
theorem Turn.keepsFrom {L L' : List Blk} {W W' : World} {B : Nat} (h : Turn L W L' W') (hH : Has W L) (hc : ∀ x ∈ L, x.2.isCells = true ∨ x.1 < B) : KeepsFrom B W W' :=
 ⟨h.size, fun k o hb hk ho => (h.same k (lt_of_block hk) (fun hm => by
  obtain ⟨o', ho'⟩ := mem_keys.1 hm
  have h1 := hH.own k o' ho'
  rw [hk] at h1
  cases h1
  rcases hc _ ho' with h2 | h2
  · rw [ho] at h2
    cases h2
  · exact absurd h2 (Nat.not_lt.2 hb))).trans hk⟩
section
variable {P : Program} {w : World} {ops : Array Oper} {o : Oper} {a : Act} {K : Act → World → Prop} {Q : Exit → Act → World → Prop} {q : IntKind} {mp : List (Int × Value)} {b : Nat} {ob : Obj}
theorem step_mupdate {E : Prop} (hgd : o.guard = none) (m x v : Operand) (t : TypeId) (hop : o.op = Op.mapUpdate t m x v) (kt e : TypeId) (ht : P.underlying t = some (.map kt e)) (hk : P.underlying kt = some (.int q))
  (hm : a.eval m = .map (some b)) (hb : w.heap[b]? = some ob) (hmo : MapObj q mp ob) (k : Int) (hx : a.eval x = .int q k) (u : Value) (hv : a.eval v = u)
  (hK : ∀ o', MapObj q (mput mp k u) o' → K (a.put o.dst undef) { w with heap := w.heap.setIfInBounds b o' }) : if Region.wanted o (yielded ops a.tmps) = true then Oper.wp P o a w K Q else E := by
 have hw : Region.wanted o (yielded ops a.tmps) = true := by simp [Region.wanted, hgd]
 rw [if_pos hw]
 obtain ⟨o', ho', hrun⟩ := run_mupdate hb hmo ht hk k u
 unfold Oper.wp
 simp only [execOp, hop, hm, hx, hv, hrun, Sem.run_bind, Result.andThen_ok, Sem.run_pure]
 exact hK o' ho'
end
def mpOf (l : List Nat) : List (Int × Value) := l.foldl (fun (m : List (Int × Value)) (g : Nat) => mput m (g : Int) (.bool true)) []
theorem mpOf_snoc (l : List Nat) (g : Nat) : mpOf (l ++ [g]) = mput (mpOf l) (g : Int) (.bool true) := by unfold mpOf; rw [List.foldl_append]; rfl
theorem mpOf_fold : ∀ (l : List Nat) (m : List (Int × Value)) (k : Nat), mget (l.foldl (fun (m : List (Int × Value)) (g : Nat) => mput m (g : Int) (.bool true)) m) (k : Int) = if k ∈ l then some (.bool true) else mget m (k : Int)
 | [], m, k => by simp
 | g :: l, m, k => by
  rw [List.foldl_cons, mpOf_fold l, mget_put]
  by_cases h : k ∈ l
  · rw [if_pos h, if_pos (by simp [h])]
  · rw [if_neg h]
    by_cases hk : k = g
    · subst hk
      rw [if_pos rfl, if_pos (by simp)]
    · rw [if_neg (by omega), if_neg (by simp [h, hk])]
theorem mpOf_get (l : List Nat) (k : Nat) : mget (mpOf l) (k : Int) = if k ∈ l then some (.bool true) else none := mpOf_fold l [] k
theorem mapObj_cells {q : IntKind} {m : List (Int × Value)} {o : Obj} (h : MapObj q m o) : o.isCells = false := by
 obtain ⟨es, c, rfl, -⟩ := h
 rfl
theorem ats_snoc (pre : List Ce) (x : Ce) : ats (pre ++ [x]) = ats pre ++ if x.2.tag = 1 then [x.1] else [] := by
 have h := ats_next (cs := pre ++ [x]) (i := pre.length) (c := x) (by simp)
 rw [List.take_of_length_le (by simp), List.take_left'] at h
 · exact h
 · rfl
theorem ats_len (cs : List Ce) : (ats cs).length ≤ cs.length := by
 unfold ats objs
 rw [List.length_map]
 exact List.length_filter_le ..
end
section
open Go Go.RowKit Go.Shelf Go.IntWalk
attribute [local go_sem] Oper.semAt_some
theorem wpIn_abs {F : Fence} {n : Nat} {P : Program} {c : Code} {Q : Exit → Act → World → Prop} {a : Act} {w : World} (I : World → Prop) (h0 : I w) (h : ∀ W, I W → c.wpIn F n P Q a W) : c.wpIn F n P Q a w := h w h0
theorem endOf_snoc2 (pre : List Ce) (x : Ce) : endOf 0 (pre ++ [x]) = x.1 + x.2.size := endOf_snoc pre x 0
set_option maxRecDepth 100000 in
set_option maxHeartbeats 12800000 in
theorem wthrough (w : World) (a aw tb : Nat) {W : List Nat} (tao : Option Addr) (tcap : Nat) (L : List Ty) (hA : WkAt w a aw tb W tao tcap L) (hf : W.length ≤ 65536) (hu : ∀ v ∈ W, v < 18446744073709551616) (hTy : ∀ t ∈ L, TyIn t) (hL : L.length ≤ 1000)
  (cs : List Ce) (hC : Chain L W 0 cs (W.length / 2)) :
  Calls Tryz.prog 146 #[.pointer (some ⟨a, 0, none⟩), .pointer (some ⟨tb, 0, none⟩)] w fun e w' => ∃ (g m : Nat) (ob : Obj) (ao : Option Addr) (cap : Nat) (lr : List Blk), e = .returned (.pointer (some ⟨g, 0, none⟩)) ∧ MapObj .i64 (mpOf (ats cs)) ob ∧ Row 3 1 ao (ats cs).length cap (nats (ats cs)) lr ∧
   Turn [] w ((g, .cells #[.pointer (some ⟨a, 0, none⟩), .pointer (some ⟨tb, 0, none⟩), .map (some m), .slice ao (ats cs).length cap, .int .i64 (endOf 0 cs : Nat)] 334) :: (m, ob) :: lr) w' := by
 refine (callsIn_wide (n := 6)).1 ?_
 have h3 : Fence.wide.fn 146 := trivial
 have h6 : Fence.wide.fn 201 := trivial
 have h7 : Fence.wide.fn 243 := trivial
 have hro : Fence.wide.round = none := rfl
 have h1 : 1 ≤ 6 := by omega
 have hlen := hC.len
 have hcl : cs.length ≤ 32768 := by omega
 have Hend := uh (fun x (hx : x ∈ cs) => (hC.mem x hx).2.1)
 refine callsIn_of_wp_marks Tryz.func146 rfl h3 ?_ hro
 simp only [Tryz.ntmps146, List.size_toArray, List.length_cons, List.length_nil, Nat.reduceAdd, Nat.reduceSub, Array.replicate_succ, Array.replicate_zero, List.push_toArray, List.append_toArray, List.nil_append, List.cons_append]
 have HIt := uh (fun Bs Bt D G hGD hDD w0 hw hBs hBt => wcells_g (6 - 1) (by omega) w a aw tb W tao tcap L hA hf hu hTy hL cs hC Bs Bt D G hGD hDD w0 hw hBs hBt)
 have hT0 := uh (Turn.refl (Has.nil w))
 have hmm := @run_makeMap Tryz.prog
 clear hA hC hu hTy hlen
 gi_wp2_with (first
  | (gi_at_call 201; refine (wcells_in (6 - 1) a tb _).mono ?_; rintro e w' ⟨rfl, hw⟩; rw [hw]; clear hw w')
  | fail)
 obtain ⟨n4, hn4⟩ : ∃ n4, w.heap.size = n4 := ⟨_, rfl⟩
 have T5 := ((((hT0.out.alloc (.map #[] 0)).alloc (.cells #[.pointer (some ⟨a, 0, none⟩), .pointer (some ⟨tb, 0, none⟩), .map (some w.heap.size), .slice none 0 0, .int .i64 0] 334)).alloc (.cells #[.pointer (some ⟨w.heap.size + 1, 0, none⟩)] 260)).alloc (.cells #[.pointer (some ⟨a, 0, none⟩)] 112)).alloc (.cells #[.pointer (some ⟨tb, 0, none⟩)] 119)
 simp only [World.size_alloc] at T5
 have hsz0 : (((((w.alloc (.map #[] 0)).alloc (.cells #[.pointer (some ⟨a, 0, none⟩), .pointer (some ⟨tb, 0, none⟩), .map (some w.heap.size), .slice none 0 0, .int .i64 0] 334)).alloc (.cells #[.pointer (some ⟨w.heap.size + 1, 0, none⟩)] 260)).alloc (.cells #[.pointer (some ⟨a, 0, none⟩)] 112)).alloc (.cells #[.pointer (some ⟨tb, 0, none⟩)] 119)).heap.size = w.heap.size + 1 + 1 + 1 + 1 + 1 := by simp
 generalize ((((w.alloc (.map #[] 0)).alloc (.cells #[.pointer (some ⟨a, 0, none⟩), .pointer (some ⟨tb, 0, none⟩), .map (some w.heap.size), .slice none 0 0, .int .i64 0] 334)).alloc (.cells #[.pointer (some ⟨w.heap.size + 1, 0, none⟩)] 260)).alloc (.cells #[.pointer (some ⟨a, 0, none⟩)] 112)).alloc (.cells #[.pointer (some ⟨tb, 0, none⟩)] 119) = W0 at T5 hsz0 ⊢
 have R8 : Below w.heap.size w W0 := T5.below
 rw [hn4] at T5 hsz0 ⊢
 clear hT0 hmm
 have T8 : Turn [] w ((n4 + 1, .cells #[.pointer (some ⟨a, 0, none⟩), .pointer (some ⟨tb, 0, none⟩), .map (some n4), .slice none 0 0, .int .i64 0] 334) :: (n4, .map #[] 0) :: ([] ++ [(n4 + 1 + 1, .cells #[.pointer (some ⟨n4 + 1, 0, none⟩)] 260), (n4 + 1 + 1 + 1, .cells #[.pointer (some ⟨a, 0, none⟩)] 112), (n4 + 1 + 1 + 1 + 1, .cells #[.pointer (some ⟨tb, 0, none⟩)] 119)])) W0 := T5.perm (perm_of fun c => by simp; omega)
 clear T5
 have hBs : W0.heap[n4 + 1 + 1 + 1]? = some (.cells #[.pointer (some ⟨a, 0, none⟩)] 112) := T8.has.own _ _ (by simp)
 have hBt : W0.heap[n4 + 1 + 1 + 1 + 1]? = some (.cells #[.pointer (some ⟨tb, 0, none⟩)] 119) := T8.has.own _ _ (by simp)
 have hw0W : w.heap.size ≤ W0.heap.size := R8.size
 have hAc : ∀ (lr : List Blk) (ob : Obj) (gc : Array Value), (∀ x ∈ lr, x.2.isCells = true) → ∀ x ∈ ((n4 + 1, .cells gc 334) : Blk) :: (n4, ob) :: (lr ++ [(n4 + 1 + 1, .cells #[.pointer (some ⟨n4 + 1, 0, none⟩)] 260), (n4 + 1 + 1 + 1, .cells #[.pointer (some ⟨a, 0, none⟩)] 112), (n4 + 1 + 1 + 1 + 1, .cells #[.pointer (some ⟨tb, 0, none⟩)] 119)]), x.2.isCells = true ∨ x.1 < W0.heap.size := fun lr ob gc hl x hx => by
  simp only [List.mem_cons, List.mem_append, List.not_mem_nil, or_false] at hx
  rcases hx with rfl | rfl | hx | rfl | rfl | rfl
  · exact .inl rfl
  · exact .inr (by show n4 < W0.heap.size; omega)
  · exact .inl (hl x hx)
  · exact .inl rfl
  · exact .inl rfl
  · exact .inl rfl
 apply wpIn_rangeFunc_g (β := Nat) hro h1 (gf := 243) (lb := #[.pointer (some ⟨n4 + 1 + 1 + 1, 0, none⟩), .pointer (some ⟨n4 + 1 + 1 + 1 + 1, 0, none⟩)]) rfl h7 (enters_of Tryz.func243 (by kernel_rfl) rfl)
  (HIt.out (n4 + 1 + 1 + 1) (n4 + 1 + 1 + 1 + 1) (ResE (n4 + 1)) (ResEG (n4 + 1) (n4 + 1 + 1 + 1) (n4 + 1 + 1 + 1 + 1)) (fun A h => h) (fun A B b hg hB => ResE.old hg hB) W0 R8 hBs hBt)
  (fun h k => h.t k) (KpD.b (by omega) (fun W l o' hl b => ResE.put (by omega) o')) (Below.refl _ _) (fun _ => rfl)
  (fun pre W' => ∃ ao cap lr ob, MapObj .i64 (mpOf (ats pre)) ob ∧ Row 3 1 ao (ats pre).length cap (nats (ats pre)) lr ∧ pre.length ≤ 32768 ∧ Turn [] w ((n4 + 1, .cells #[.pointer (some ⟨a, 0, none⟩), .pointer (some ⟨tb, 0, none⟩), .map (some n4), .slice ao (ats pre).length cap, .int .i64 (endOf 0 pre : Nat)] 334) :: (n4, ob) :: (lr ++ [(n4 + 1 + 1, .cells #[.pointer (some ⟨n4 + 1, 0, none⟩)] 260), (n4 + 1 + 1 + 1, .cells #[.pointer (some ⟨a, 0, none⟩)] 112), (n4 + 1 + 1 + 1 + 1, .cells #[.pointer (some ⟨tb, 0, none⟩)] 119)])) W')
  (fun x nb pre W' => ∃ ao cap lr ob, MapObj .i64 (mpOf (ats pre)) ob ∧ Row 3 1 ao (ats pre).length cap (nats (ats pre)) lr ∧ pre.length + 1 ≤ 32768 ∧ Turn [] w ((nb, ceObj x) :: (n4 + 1, .cells #[.pointer (some ⟨a, 0, none⟩), .pointer (some ⟨tb, 0, none⟩), .map (some n4), .slice ao (ats pre).length cap, .int .i64 (endOf 0 pre : Nat)] 334) :: (n4, ob) :: (lr ++ [(n4 + 1 + 1, .cells #[.pointer (some ⟨n4 + 1, 0, none⟩)] 260), (n4 + 1 + 1 + 1, .cells #[.pointer (some ⟨a, 0, none⟩)] 112), (n4 + 1 + 1 + 1 + 1, .cells #[.pointer (some ⟨tb, 0, none⟩)] 119)])) W')
  (fun s A D row ⟨ao, cap, lr, ob, e0, e1, e2, hT⟩ hg hr => ⟨ao, cap, lr, ob, e0, e1, e2, hT.grownC hw0W (hAc lr ob _ e1.cells) hg hr⟩)
  (fun x nb s A D row ⟨ao, cap, lr, ob, e0, e1, e2, hT⟩ hg hr => ⟨ao, cap, lr, ob, e0, e1, e2, hT.grownC hw0W (by
    intro y hy
    rcases List.mem_cons.1 hy with rfl | hy
    · exact .inl rfl
    · exact hAc lr ob _ e1.cells y hy) hg hr⟩)
  ⟨none, 0, [], _, MapObj.new .i64, Row.nil _ _, by simp, T8⟩
  (fun pre W' ⟨ao, cap, lr, ob, e0, e1, e2, hT⟩ => resE_of e1 rfl hT)
 case hassign =>
  rintro l1 pre x W2 ⟨post, hnx⟩ ⟨ao, cap, lr, ob, e0, e1, e2, hT⟩
  have hpl : pre.length + 1 ≤ 32768 := by rw [hnx, List.length_append, List.length_cons] at hcl; omega
  have T2 := hT.alloc (.cells #[.int .i64 0, .int .u8 0, .int .i64 0, .int .i64 0, .int .i64 0] 81)
  have hth : (W2.alloc (.cells #[.int .i64 0, .int .u8 0, .int .i64 0, .int .i64 0, .int .i64 0] 81)).there W2.heap.size 0 5 := T2.there1
  have HT2 := uh (T2.laid [.int .i64 x.1, .int .u8 x.2.tag, .int .i64 x.2.typ, .int .i64 x.2.len, .int .i64 x.2.size] rfl)
  have HX := uh (((Turn.refl (Has.nil W2)).alloc (.cells #[.int .i64 0, .int .u8 0, .int .i64 0, .int .i64 0, .int .i64 0] 81)).laid [.int .i64 x.1, .int .u8 x.2.tag, .int .i64 x.2.typ, .int .i64 x.2.len, .int .i64 x.2.size] rfl)
  have hszC := sz_cell
  have hoC := ce_one x
  have hGb := resE_of e1 rfl hT
  have hE := uh (⟨e0, e1⟩ : MapObj .i64 (mpOf (ats pre)) ob ∧ Row 3 1 ao (ats pre).length cap (nats (ats pre)) lr)
  have hw2 := hT.size
  unfold ceArgs
  clear T2 hnx hT e1 e0
  gi_wp2_with (first
   | (show wpListIn _ _ _ _ _ (⟨_, Op.store 81 _ _, _, _, _, _⟩ :: _) _ _; refine wpListIn_by (follows_round _ _ _) rfl (by intro c h; cases h) (wp_store_mid 81 _ _ rfl _ 0 #[.int .i64 x.1, .int .u8 x.2.tag, .int .i64 x.2.typ, .int .i64 x.2.len, .int .i64 x.2.size] rfl rfl hth hszC hoC ?_); clear hth)
   | fail)
  have HK := uh (⟨((KeepsOthers.alloc _ _).trans (keepsOthers_setCells _ _ _)).from _, KpD.of HX.out (by omega) (fun b hb => by cases hb) (fun b hb hd => ResE.old hGb HX.out.below hd)⟩ :
   KeepsFrom W0.heap.size W2 ((W2.alloc (.cells #[.int .i64 0, .int .u8 0, .int .i64 0, .int .i64 0, .int .i64 0] 81)).setCells W2.heap.size 0 [.int .i64 x.1, .int .u8 x.2.tag, .int .i64 x.2.typ, .int .i64 x.2.len, .int .i64 x.2.size]) ∧ KpD w.heap.size (ResE (n4 + 1)) W2 ((W2.alloc (.cells #[.int .i64 0, .int .u8 0, .int .i64 0, .int .i64 0, .int .i64 0] 81)).setCells W2.heap.size 0 [.int .i64 x.1, .int .u8 x.2.tag, .int .i64 x.2.typ, .int .i64 x.2.len, .int .i64 x.2.size]))
  clear HX hoC hGb
  generalize (W2.alloc (.cells #[.int .i64 0, .int .u8 0, .int .i64 0, .int .i64 0, .int .i64 0] 81)).setCells W2.heap.size 0 [.int .i64 x.1, .int .u8 x.2.tag, .int .i64 x.2.typ, .int .i64 x.2.len, .int .i64 x.2.size] = W3 at *
  generalize W2.heap.size = nb at *
  exact ⟨HK.out.1, HK.out.2, nb, rfl, ao, cap, lr, ob, hE.out.1, hE.out.2, hpl, HT2.out⟩
 case hbody =>
  rintro l1 pre x nb W2 ⟨post, hnx⟩ ⟨ao, cap, lr, ob, e0, e1, e2, hT⟩
  have hxe : x.1 + x.2.size ≤ 32768 := by have := Hend.out x (by rw [hnx]; simp); omega
  have hal := ats_len pre
  -- what this client turns: L0; what lies beside it: R0
  have hT0 : Turn [] w (((n4 + 1, .cells #[.pointer (some ⟨a, 0, none⟩), .pointer (some ⟨tb, 0, none⟩), .map (some n4), .slice ao (ats pre).length cap, .int .i64 (endOf 0 pre : Nat)] 334) :: (n4, ob) :: lr) ++ ((nb, ceObj x) :: [(n4 + 1 + 1, .cells #[.pointer (some ⟨n4 + 1, 0, none⟩)] 260), (n4 + 1 + 1 + 1, .cells #[.pointer (some ⟨a, 0, none⟩)] 112), (n4 + 1 + 1 + 1 + 1, .cells #[.pointer (some ⟨tb, 0, none⟩)] 119)])) W2 := hT.perm (perm_of fun c => by simp; omega)
  have hH0 : Has W2 ((n4 + 1, .cells #[.pointer (some ⟨a, 0, none⟩), .pointer (some ⟨tb, 0, none⟩), .map (some n4), .slice ao (ats pre).length cap, .int .i64 (endOf 0 pre : Nat)] 334) :: (n4, ob) :: lr) := hT0.has.left
  have HTK := uh (fun w' (L1 : List Blk) (K : Turn ((n4 + 1, .cells #[.pointer (some ⟨a, 0, none⟩), .pointer (some ⟨tb, 0, none⟩), .map (some n4), .slice ao (ats pre).length cap, .int .i64 (endOf 0 pre : Nat)] 334) :: (n4, ob) :: lr) W2 L1 w') => hT0.trans (K.more hT0.has))
  have HH0 := uh hH0
  have hn0 : ∀ b ∈ keys ((n4 + 1, .cells #[.pointer (some ⟨a, 0, none⟩), .pointer (some ⟨tb, 0, none⟩), .map (some n4), .slice ao (ats pre).length cap, .int .i64 (endOf 0 pre : Nat)] 334) :: (n4, ob) :: lr), w.heap.size ≤ b := fun b hb => (hT0.new b (by rw [keys_append, List.mem_append]; exact .inl hb)).resolve_left (by simp [keys])
  have HFin := uh (fun w' (ao' : Option Addr) (n' cap' : Nat) (xs' : List Value) (en : Int) (ob' : Obj) (lr' Z : List Blk) (h2 : Row 3 1 ao' n' cap' xs' lr') (K : Turn ((n4 + 1, .cells #[.pointer (some ⟨a, 0, none⟩), .pointer (some ⟨tb, 0, none⟩), .map (some n4), .slice ao (ats pre).length cap, .int .i64 (endOf 0 pre : Nat)] 334) :: (n4, ob) :: lr) W2 ((n4 + 1, .cells #[.pointer (some ⟨a, 0, none⟩), .pointer (some ⟨tb, 0, none⟩), .map (some n4), .slice ao' n' cap', .int .i64 en] 334) :: (n4, ob') :: (lr' ++ Z)) w') =>
   (⟨Turn.keepsFrom K hH0 (fun y hy => by
       rcases List.mem_cons.1 hy with rfl | hy
       · exact .inl rfl
       rcases List.mem_cons.1 hy with rfl | hy
       · exact .inr (by show n4 < W0.heap.size; omega)
       · exact .inl (e1.cells y hy)), KpD.resE e1 h2 (mapObj_cells e0) rfl rfl K hH0 hn0⟩ : KeepsFrom W0.heap.size W2 w' ∧ KpD w.heap.size (ResE (n4 + 1)) W2 w'))
  have HS := uh (fun w' (ao' : Option Addr) (n' cap' : Nat) (en : Int) (Z : List Blk) (K : Turn ((n4 + 1, .cells #[.pointer (some ⟨a, 0, none⟩), .pointer (some ⟨tb, 0, none⟩), .map (some n4), .slice ao (ats pre).length cap, .int .i64 (endOf 0 pre : Nat)] 334) :: (n4, ob) :: lr) W2 ((n4 + 1, .cells #[.pointer (some ⟨a, 0, none⟩), .pointer (some ⟨tb, 0, none⟩), .map (some n4), .slice ao' n' cap', .int .i64 en] 334) :: Z) w') => by
   have T := HTK.out w' _ K
   have hxr := T.has.range (b := nb) (c := #[.int .i64 x.1, .int .u8 x.2.tag, .int .i64 x.2.typ, .int .i64 x.2.len, .int .i64 x.2.size]) (e := 81) (f := (0, 0)) (by simp [ceObj])
   exact (⟨T.has.cell (b := n4 + 1 + 1) (c := #[.pointer (some ⟨n4 + 1, 0, none⟩)]) (e := 260) (f := (0, 0)) (by simp) 0, K.cell1 2, K.cell1 3, hxr⟩ :
    w'.cell? ⟨n4 + 1 + 1, 0, none⟩ = some (.pointer (some ⟨n4 + 1, 0, none⟩)) ∧ w'.cell? ⟨n4 + 1, 2, none⟩ = some (.map (some n4)) ∧ w'.cell? ⟨n4 + 1, 3, none⟩ = some (.slice ao' n' cap') ∧ w'.rangeAt nb 0 [.int .i64 x.1, .int .u8 x.2.tag, .int .i64 x.2.typ, .int .i64 x.2.len, .int .i64 x.2.size]))
  have HE0 := uh e0
  have HE1 := uh e1
  have HSn := uh (ats_snoc pre x)
  have HEn := uh (endOf_snoc2 pre x)
  have hK0 := Turn.refl hH0
  have hS0 := HS.out W2 _ _ _ _ _ hK0
  have q1 := hS0.2.2.2 1 _ rfl
  have h63 : (ats pre).length + 1 ≤ maxLen := by unfold maxLen; omega
  have hby : ((ats pre).length + 1) * 8 ≤ 140737488355328 := by omega
  clear e0 e1 hT hT0 hH0 hn0 hnx
  by_cases ht : x.2.tag = 1
  · rw [if_pos ht] at HSn
    have k1 : ((x.2.tag : Int) == 1) = true := by rw [beq_iff_eq]; omega
    have k2 : (x.2.tag == 1) = true := by rw [beq_iff_eq]; exact ht
    have HK0 := uh hK0.drew
    clear hK0 ht hS0
    gi_wp2_with fail
    clear q1
    have hS1 := HS.out _ _ _ _ _ _ HK0.out
    refine wpIn_region_round (S := fun W' => W'.cell? ⟨n4 + 1 + 1, 0, none⟩ = some (.pointer (some ⟨n4 + 1, 0, none⟩)) ∧ W'.cell? ⟨n4 + 1, 2, none⟩ = some (.map (some n4)) ∧ W'.cell? ⟨n4 + 1, 3, none⟩ = some (.slice ao (ats pre).length cap) ∧ W'.rangeAt nb 0 [.int .i64 x.1, .int .u8 x.2.tag, .int .i64 x.2.typ, .int .i64 x.2.len, .int .i64 x.2.size]) 7 [false, false, false, false, false, false, false] rfl rfl (by kernel_rfl) (by rfl) (by rintro ⟨a, w, h⟩; exact h) ?_
    refine tkB 0 20 hS1 (fun w hSw => hSw.1) ?_
    refine tkA 1 21 hS1 ?_
    refine tkA 2 22 hS1 ?_
    refine tkB 3 23 hS1 (fun w hSw => hSw.2.1) ?_
    refine tkA 4 24 hS1 ?_
    refine tkB 5 25 hS1 (fun w hSw => hSw.2.2.2 0 _ rfl) ?_
    refine rdyA 6 (fun K hK => ?_)
    refine step_mupdate (q := .i64) rfl _ _ _ 332 rfl 3 4 Tryz.underlying332 Tryz.underlying3 rfl (HK0.out.has.own n4 ob (by simp)) HE0.out (x.1 : Int) rfl (.bool true) rfl ?_
    intro ob' hob'
    have K2 := (HK0.out.swap.setBlk ob').swap
    have hS2 := HS.out _ _ _ _ _ _ K2
    have HK2 := uh K2
    have Hob := uh hob'
    refine hK.out _ _ hS2 fun _ => ?_
    clear hK K K2 hob' hS1 HK0
    simp only [st0, st1, st2]
    refine wpAnyH_done (by kernel_rfl) ?_ _
    clear hS2
    gi_wp2_with fail
    refine wpIn_abs (fun W' => Turn ((n4 + 1, .cells #[.pointer (some ⟨a, 0, none⟩), .pointer (some ⟨tb, 0, none⟩), .map (some n4), .slice ao (ats pre).length cap, .int .i64 (endOf 0 pre : Nat)] 334) :: (n4, ob) :: lr) W2 ((n4 + 1, .cells #[.pointer (some ⟨a, 0, none⟩), .pointer (some ⟨tb, 0, none⟩), .map (some n4), .slice ao (ats pre).length cap, .int .i64 (endOf 0 pre : Nat)] 334) :: (n4, ob') :: lr) W'.drew) HK2.out.drew fun W3 K3 => ?_
    clear HK2
    refine wpIn_region_round (S := fun W' => W'.cell? ⟨n4 + 1 + 1, 0, none⟩ = some (.pointer (some ⟨n4 + 1, 0, none⟩)) ∧ W'.rangeAt nb 0 [.int .i64 x.1, .int .u8 x.2.tag, .int .i64 x.2.typ, .int .i64 x.2.len, .int .i64 x.2.size]) 12 [false, false, false, false, false, false, false, false, false, false, false, false] rfl rfl (by kernel_rfl) (by rfl) (by rintro ⟨a, w, h⟩; exact h) ?_
    generalize W3.drew = W5 at *
    have HK3 := uh K3
    have hS3 := HS.out _ _ _ _ _ _ K3
    have q3 := hS3.2.2.1
    have hS3b : W5.cell? ⟨n4 + 1 + 1, 0, none⟩ = some (.pointer (some ⟨n4 + 1, 0, none⟩)) ∧ W5.rangeAt nb 0 [.int .i64 x.1, .int .u8 x.2.tag, .int .i64 x.2.typ, .int .i64 x.2.len, .int .i64 x.2.size] := ⟨hS3.1, hS3.2.2.2⟩
    have K4 := K3.alloc (.cells #[.int .i64 x.1] 3)
    have hS4 := HS.out _ _ _ _ _ _ (K4.perm (l2 := (n4 + 1, .cells #[.pointer (some ⟨a, 0, none⟩), .pointer (some ⟨tb, 0, none⟩), .map (some n4), .slice ao (ats pre).length cap, .int .i64 (endOf 0 pre : Nat)] 334) :: ((n4, ob') :: (lr ++ [(W5.heap.size, (.cells #[.int .i64 x.1] 3))]))) (perm_of fun c => by simp; omega))
    have q4 := hS4.2.2.1
    have hS4b := (⟨hS4.1, hS4.2.2.2⟩ : (fun W' => W'.cell? ⟨n4 + 1 + 1, 0, none⟩ = some (.pointer (some ⟨n4 + 1, 0, none⟩)) ∧ W'.rangeAt nb 0 [.int .i64 x.1, .int .u8 x.2.tag, .int .i64 x.2.typ, .int .i64 x.2.len, .int .i64 x.2.size]) (W5.alloc (.cells #[.int .i64 x.1] 3)))
    have HK4 := uh K4
    clear K3 K4 hS3 hS4
    refine tkB 0 26 hS3b (fun w hSw => hSw.1) ?_
    refine tkB 1 27 hS3b (fun w hSw => hSw.1) ?_
    refine tkA 2 28 hS3b ?_
    refine tkA 3 29 hS3b ?_
    refine tkA 5 31 hS3b ?_
    refine tkB 6 32 hS3b (fun w hSw => hSw.2 0 _ rfl) ?_
    refine wpAnyH_ready (rs := [4, 7]) (by kernel_rfl) (by simp) (AllReadyH.cons rfl (fun K hK => ?_) (AllReadyH.cons rfl (fun K hK => ?_) AllReadyH.nil))
    · go_simp
      refine hK.out _ _ hS3b fun _ => ?_
      clear hK K
      simp only [st0, st1, st2]
      refine rdyA 7 (fun K hK => ?_)
      go_simp
      refine hK.out _ _ hS4b fun _ => ?_
      clear hK K
      simp only [st0, st1, st2]
      refine rdyA 8 (fun K hK => ?_)
      refine step_append_row rfl _ _ rfl el_int rfl HE1.out (R := [(W5.heap.size, (.cells #[.int .i64 x.1] 3)), (n4 + 1, .cells #[.pointer (some ⟨a, 0, none⟩), .pointer (some ⟨tb, 0, none⟩), .map (some n4), .slice ao (ats pre).length cap, .int .i64 (endOf 0 pre : Nat)] 334), (n4, ob')]) (HK4.out.perm (perm_of fun c => by simp; omega)).has rfl (news := [.int .i64 x.1]) rfl (news_of (heap_alloc_new _ _)) (by simp [Value.oneCell']) h63 hby ?_
      intro a9 p9 l9 w4 hr9 V4 hno
      have K5 := ((HK4.out.perm (perm_of fun c => by simp; omega)).trans V4).perm (l2 := (n4 + 1, .cells #[.pointer (some ⟨a, 0, none⟩), .pointer (some ⟨tb, 0, none⟩), .map (some n4), .slice ao (ats pre).length cap, .int .i64 (endOf 0 pre : Nat)] 334) :: ((n4, ob') :: (l9 ++ [(W5.heap.size, (.cells #[.int .i64 x.1] 3))]))) (perm_of fun c => by simp; omega)
      have hS5 := HS.out _ _ _ _ _ _ K5
      have Hr9 := uh hr9
      have hq5 := K5.cell1 3
      have hf5 := K5.free1 3
      have hS5b : w4.cell? ⟨n4 + 1 + 1, 0, none⟩ = some (.pointer (some ⟨n4 + 1, 0, none⟩)) ∧ w4.rangeAt nb 0 [.int .i64 x.1, .int .u8 x.2.tag, .int .i64 x.2.typ, .int .i64 x.2.len, .int .i64 x.2.size] := ⟨hS5.1, hS5.2.2.2⟩
      have K6 : Turn ((n4 + 1, .cells #[.pointer (some ⟨a, 0, none⟩), .pointer (some ⟨tb, 0, none⟩), .map (some n4), .slice ao (ats pre).length cap, .int .i64 (endOf 0 pre : Nat)] 334) :: (n4, ob) :: lr) W2 ((n4 + 1, .cells #[.pointer (some ⟨a, 0, none⟩), .pointer (some ⟨tb, 0, none⟩), .map (some n4), .slice a9 ((ats pre).length + 1) p9, .int .i64 (endOf 0 pre : Nat)] 334) :: ((n4, ob') :: (l9 ++ [(W5.heap.size, (.cells #[.int .i64 x.1] 3))]))) _ := K5.setCell 3 (.slice a9 ((ats pre).length + 1) p9)
      have hS6 := HS.out _ _ _ _ _ _ K6
      have hS6b := (⟨hS6.1, hS6.2.2.2⟩ : (fun W' => W'.cell? ⟨n4 + 1 + 1, 0, none⟩ = some (.pointer (some ⟨n4 + 1, 0, none⟩)) ∧ W'.rangeAt nb 0 [.int .i64 x.1, .int .u8 x.2.tag, .int .i64 x.2.typ, .int .i64 x.2.len, .int .i64 x.2.size]) (w4.setCell ⟨n4 + 1, 3, none⟩ (.slice a9 ((ats pre).length + 1) p9)))
      have HK6 := uh K6
      refine hK.out _ _ hS5b fun _ => ?_
      clear hK K V4 hno hr9 HK4 hS5 K5 hS6 K6
      simp only [st0, st1, st2]
      refine tkA 9 35 hS5b ?_
      refine tkA 10 36 hS5b ?_
      clear hS5b
      refine rdyA 11 (fun K hK => ?_)
      go_simp
      refine hK.out _ _ hS6b fun _ => ?_
      clear hK K hq5 hf5
      generalize w4.setCell ⟨n4 + 1, 3, none⟩ (.slice a9 ((ats pre).length + 1) p9) = w7 at *
      simp only [st0, st1, st2]
      refine wpAnyH_done (by kernel_rfl) ?_ _
      have hS7 := HS.out _ _ _ _ _ _ HK6.out
      have p1 := hS7.1
      have p2 := hS7.2.2.2 0 _ rfl
      have p3 := hS7.2.2.2 4 _ rfl
      have p4 := HK6.out.cell1 4
      have p5 := HK6.out.free1 4
      have HK7 := uh (HK6.out.setCell 4 (.int .i64 (x.1 + x.2.size)))
      clear hS7 hS6b HK6
      gi_wp2_with fail
      have hkk := HFin.out _ a9 ((ats pre).length + 1) p9 _ _ ob' l9 [(W5.heap.size, (.cells #[.int .i64 x.1] 3))] Hr9.out HK7.out
      have hT9 := HTK.out _ _ HK7.out
      have hl1 : (ats (pre ++ [x])).length = (ats pre).length + 1 := by rw [HSn.out]; simp
      refine ⟨hkk.1, hkk.2, a9, p9, l9, ob', by rw [HSn.out, mpOf_snoc]; exact Hob.out, ?_, by simp; omega, ?_⟩
      · rw [hl1, HSn.out, nats_append]
        exact Hr9.out
      · rw [hl1, HEn.out]
        exact (hT9.perm (l2 := [(W5.heap.size, (.cells #[.int .i64 x.1] 3)), (nb, ceObj x)] ++ ((n4 + 1, .cells #[.pointer (some ⟨a, 0, none⟩), .pointer (some ⟨tb, 0, none⟩), .map (some n4), .slice a9 ((ats pre).length + 1) p9, .int .i64 ((x.1 + x.2.size : Nat) : Int)] 334) :: (n4, ob') :: (l9 ++ [(n4 + 1 + 1, .cells #[.pointer (some ⟨n4 + 1, 0, none⟩)] 260), (n4 + 1 + 1 + 1, .cells #[.pointer (some ⟨a, 0, none⟩)] 112), (n4 + 1 + 1 + 1 + 1, .cells #[.pointer (some ⟨tb, 0, none⟩)] 119)]))) (perm_of fun c => by simp; omega)).drop
    · go_simp
      refine hK.out _ _ hS4b fun _ => ?_
      clear hK K
      simp only [st0, st1, st2]
      refine rdyA 4 (fun K hK => ?_)
      go_simp
      refine hK.out _ _ hS4b fun _ => ?_
      clear hK K
      simp only [st0, st1, st2]
      refine rdyA 8 (fun K hK => ?_)
      refine step_append_row rfl _ _ rfl el_int rfl HE1.out (R := [(W5.heap.size, (.cells #[.int .i64 x.1] 3)), (n4 + 1, .cells #[.pointer (some ⟨a, 0, none⟩), .pointer (some ⟨tb, 0, none⟩), .map (some n4), .slice ao (ats pre).length cap, .int .i64 (endOf 0 pre : Nat)] 334), (n4, ob')]) (HK4.out.perm (perm_of fun c => by simp; omega)).has rfl (news := [.int .i64 x.1]) rfl (news_of (heap_alloc_new _ _)) (by simp [Value.oneCell']) h63 hby ?_
      intro a9 p9 l9 w4 hr9 V4 hno
      have K5 := ((HK4.out.perm (perm_of fun c => by simp; omega)).trans V4).perm (l2 := (n4 + 1, .cells #[.pointer (some ⟨a, 0, none⟩), .pointer (some ⟨tb, 0, none⟩), .map (some n4), .slice ao (ats pre).length cap, .int .i64 (endOf 0 pre : Nat)] 334) :: ((n4, ob') :: (l9 ++ [(W5.heap.size, (.cells #[.int .i64 x.1] 3))]))) (perm_of fun c => by simp; omega)
      have hS5 := HS.out _ _ _ _ _ _ K5
      have Hr9 := uh hr9
      have hq5 := K5.cell1 3
      have hf5 := K5.free1 3
      have hS5b : w4.cell? ⟨n4 + 1 + 1, 0, none⟩ = some (.pointer (some ⟨n4 + 1, 0, none⟩)) ∧ w4.rangeAt nb 0 [.int .i64 x.1, .int .u8 x.2.tag, .int .i64 x.2.typ, .int .i64 x.2.len, .int .i64 x.2.size] := ⟨hS5.1, hS5.2.2.2⟩
      have K6 : Turn ((n4 + 1, .cells #[.pointer (some ⟨a, 0, none⟩), .pointer (some ⟨tb, 0, none⟩), .map (some n4), .slice ao (ats pre).length cap, .int .i64 (endOf 0 pre : Nat)] 334) :: (n4, ob) :: lr) W2 ((n4 + 1, .cells #[.pointer (some ⟨a, 0, none⟩), .pointer (some ⟨tb, 0, none⟩), .map (some n4), .slice a9 ((ats pre).length + 1) p9, .int .i64 (endOf 0 pre : Nat)] 334) :: ((n4, ob') :: (l9 ++ [(W5.heap.size, (.cells #[.int .i64 x.1] 3))]))) _ := K5.setCell 3 (.slice a9 ((ats pre).length + 1) p9)
      have hS6 := HS.out _ _ _ _ _ _ K6
      have hS6b := (⟨hS6.1, hS6.2.2.2⟩ : (fun W' => W'.cell? ⟨n4 + 1 + 1, 0, none⟩ = some (.pointer (some ⟨n4 + 1, 0, none⟩)) ∧ W'.rangeAt nb 0 [.int .i64 x.1, .int .u8 x.2.tag, .int .i64 x.2.typ, .int .i64 x.2.len, .int .i64 x.2.size]) (w4.setCell ⟨n4 + 1, 3, none⟩ (.slice a9 ((ats pre).length + 1) p9)))
      have HK6 := uh K6
      refine hK.out _ _ hS5b fun _ => ?_
      clear hK K V4 hno hr9 HK4 hS5 K5 hS6 K6
      simp only [st0, st1, st2]
      refine tkA 9 35 hS5b ?_
      refine tkA 10 36 hS5b ?_
      clear hS5b
      refine rdyA 11 (fun K hK => ?_)
      go_simp
      refine hK.out _ _ hS6b fun _ => ?_
      clear hK K hq5 hf5
      generalize w4.setCell ⟨n4 + 1, 3, none⟩ (.slice a9 ((ats pre).length + 1) p9) = w7 at *
      simp only [st0, st1, st2]
      refine wpAnyH_done (by kernel_rfl) ?_ _
      have hS7 := HS.out _ _ _ _ _ _ HK6.out
      have p1 := hS7.1
      have p2 := hS7.2.2.2 0 _ rfl
      have p3 := hS7.2.2.2 4 _ rfl
      have p4 := HK6.out.cell1 4
      have p5 := HK6.out.free1 4
      have HK7 := uh (HK6.out.setCell 4 (.int .i64 (x.1 + x.2.size)))
      clear hS7 hS6b HK6
      gi_wp2_with fail
      have hkk := HFin.out _ a9 ((ats pre).length + 1) p9 _ _ ob' l9 [(W5.heap.size, (.cells #[.int .i64 x.1] 3))] Hr9.out HK7.out
      have hT9 := HTK.out _ _ HK7.out
      have hl1 : (ats (pre ++ [x])).length = (ats pre).length + 1 := by rw [HSn.out]; simp
      refine ⟨hkk.1, hkk.2, a9, p9, l9, ob', by rw [HSn.out, mpOf_snoc]; exact Hob.out, ?_, by simp; omega, ?_⟩
      · rw [hl1, HSn.out, nats_append]
        exact Hr9.out
      · rw [hl1, HEn.out]
        exact (hT9.perm (l2 := [(W5.heap.size, (.cells #[.int .i64 x.1] 3)), (nb, ceObj x)] ++ ((n4 + 1, .cells #[.pointer (some ⟨a, 0, none⟩), .pointer (some ⟨tb, 0, none⟩), .map (some n4), .slice a9 ((ats pre).length + 1) p9, .int .i64 ((x.1 + x.2.size : Nat) : Int)] 334) :: (n4, ob') :: (l9 ++ [(n4 + 1 + 1, .cells #[.pointer (some ⟨n4 + 1, 0, none⟩)] 260), (n4 + 1 + 1 + 1, .cells #[.pointer (some ⟨a, 0, none⟩)] 112), (n4 + 1 + 1 + 1 + 1, .cells #[.pointer (some ⟨tb, 0, none⟩)] 119)]))) (perm_of fun c => by simp; omega)).drop
  · rw [if_neg ht, List.append_nil] at HSn
    have k1 : ((x.2.tag : Int) == 1) = false := by rw [beq_eq_false_iff_ne]; omega
    have k2 : (x.2.tag == 1) = false := by rw [beq_eq_false_iff_ne]; exact ht
    have p1 := hS0.1
    have p2 := hS0.2.2.2 0 _ rfl
    have p3 := hS0.2.2.2 4 _ rfl
    have p4 := hK0.cell1 4
    have p5 := hK0.free1 4
    have HK7 := uh (hK0.setCell 4 (.int .i64 (x.1 + x.2.size)))
    clear hK0 ht hS0
    gi_wp2_with fail
    have hkk := HFin.out _ ao (ats pre).length cap _ _ ob lr [] HE1.out (by rw [List.append_nil]; exact HK7.out)
    have hT9 := HTK.out _ _ HK7.out
    refine ⟨hkk.1, hkk.2, ao, cap, lr, ob, by rw [HSn.out]; exact HE0.out, by rw [HSn.out]; exact HE1.out, by simp; omega, ?_⟩
    rw [HSn.out, HEn.out]
    exact (hT9.perm (l2 := [(nb, ceObj x)] ++ ((n4 + 1, .cells #[.pointer (some ⟨a, 0, none⟩), .pointer (some ⟨tb, 0, none⟩), .map (some n4), .slice ao (ats pre).length cap, .int .i64 ((x.1 + x.2.size : Nat) : Int)] 334) :: (n4, ob) :: (lr ++ [(n4 + 1 + 1, .cells #[.pointer (some ⟨n4 + 1, 0, none⟩)] 260), (n4 + 1 + 1 + 1, .cells #[.pointer (some ⟨a, 0, none⟩)] 112), (n4 + 1 + 1 + 1 + 1, .cells #[.pointer (some ⟨tb, 0, none⟩)] 119)]))) (perm_of fun c => by simp; omega)).drop
 case hdone =>
  rintro D xs W2 hD rfl ⟨ao, cap, lr, ob, e0, e1, e2, hT⟩ hK
  have q0 : W2.cell? ⟨n4 + 1 + 1, 0, none⟩ = some (.pointer (some ⟨n4 + 1, 0, none⟩)) := hT.has.cell (b := n4 + 1 + 1) (c := #[.pointer (some ⟨n4 + 1, 0, none⟩)]) (e := 260) (f := (0, 0)) (by simp) 0
  have HT10 := uh (hT.grownC (B := W0.heap.size) hw0W (hAc lr ob _ e1.cells) (grownBy_putObj' W2 D (.deferred none)) (fun r e => by cases e; exact ⟨hD, _, hK, rfl⟩))
  have HE := uh (⟨e0, e1⟩ : MapObj .i64 (mpOf (ats xs)) ob ∧ Row 3 1 ao (ats xs).length cap (nats (ats xs)) lr)
  clear hT e0 e1
  gi_wp2_with fail
  refine ⟨by simp, .inl ⟨_, _, rfl, run_takeDeferred hK, ?_⟩⟩
  refine ⟨.pointer (some ⟨n4 + 1, 0, none⟩), ?_, n4 + 1, n4, ob, ao, cap, lr, rfl, HE.out.1, HE.out.2, (HT10.out.perm (l2 := [(n4 + 1 + 1, .cells #[.pointer (some ⟨n4 + 1, 0, none⟩)] 260), (n4 + 1 + 1 + 1, .cells #[.pointer (some ⟨a, 0, none⟩)] 112), (n4 + 1 + 1 + 1 + 1, .cells #[.pointer (some ⟨tb, 0, none⟩)] 119)] ++ ((n4 + 1, .cells #[.pointer (some ⟨a, 0, none⟩), .pointer (some ⟨tb, 0, none⟩), .map (some n4), .slice ao (ats xs).length cap, .int .i64 (endOf 0 xs : Nat)] 334) :: (n4, ob) :: lr)) (perm_of fun c => by simp; omega)).drop⟩
  simp [results, Tryz.results146, go_sem]
end
section
open Go Go.RowKit Go.IntWalk
section
variable {P : Program} {w : World} {ops : Array Oper} {rest : List Oper} {o : Oper} {a : Act} {Q : Exit → Act → World → Prop} {q : IntKind} {mp : List (Int × Value)} {b : Nat} {ob : Obj}
theorem wpList_mlookup_g (hw : Region.wanted o (yielded ops a.tmps) = true) (m x : Operand) (t : TypeId) (ok : Bool) (hop : o.op = Op.lookup t m x ok) (kt e : TypeId) (ht : P.underlying t = some (.map kt e)) (hk : P.underlying kt = some (.int q)) (z : Value) (hz : (zeroValue e).run P w = .ok z w)
  (hm : a.eval m = .map (some b)) (hb : w.heap[b]? = some ob) (hmo : MapObj q mp ob) (k : Int) (hx : a.eval x = .int q k)
  (hK : wpList P ops Q rest (a.put o.dst (let v := (mget mp k).getD z; if ok then .tuple #[v, .bool (mget mp k).isSome] else v)) w) : wpList P ops Q (o :: rest) a w := by
 refine wpList_wanted hw fun K' hK' => ?_
 have hrun := run_mlookup hb hmo ht hk hz k ok
 unfold Oper.wp
 simp only [execOp, hop, hm, hx, hrun, Sem.run_bind, Result.andThen_ok, Sem.run_pure]
 exact hK' _ _ hK
end
theorem sword (w : World) (v : Nat) (hv : v < 18446744073709551616) : Calls Tryz.prog 209 #[.int .u64 v] w fun e w' => e = .returned (.tuple #[.int .i64 (if 1048576 ≤ v ∧ v < 1114112 then ((v - 1048576 : Nat) : Int) else 0), .bool (decide (1048576 ≤ v ∧ v < 1114112))]) ∧ w' = w := by
 by_cases h1 : v < 1048576
 · have k1 : decide ((v : Int) < 1048576) = true := decide_eq_true (by omega)
   have k2 : decide (v < 1048576) = true := decide_eq_true h1
   have hn : ¬ (1048576 ≤ v ∧ v < 1114112) := by omega
   rw [if_neg hn, decide_eq_false hn]
   clear hn h1
   go_enter Tryz.func209, Tryz.ntmps209
   go_wp2
   refine bodyPost_ret (results_tmp2 rfl _ _ _) rfl ?_
   exact ⟨rfl, rfl⟩
 · have k1 : decide ((v : Int) < 1048576) = false := decide_eq_false (by omega)
   have k2 : decide (v < 1048576) = false := decide_eq_false h1
   have hw : IntKind.u64.wrap ((v : Int) - 1048576) = ((v - 1048576 : Nat) : Int) := by rw [IntKind.wrap_u64]; omega
   by_cases h2 : v < 1114112
   · have hn : 1048576 ≤ v ∧ v < 1114112 := by omega
     rw [if_pos hn, decide_eq_true hn]
     obtain ⟨u, hu⟩ : ∃ u, v - 1048576 = u := ⟨_, rfl⟩
     have hus : u < 65536 := by omega
     have k3 : decide ((65536 : Int) ≤ (u : Int)) = false := decide_eq_false (by omega)
     have k4 : decide (65536 ≤ u) = false := decide_eq_false (by omega)
     have hcv : IntKind.i64.wrap (u : Int) = (u : Int) := i64_in _ (by omega)
     rw [hu] at hw ⊢
     clear hu hn h1 h2
     go_enter Tryz.func209, Tryz.ntmps209
     go_wp2
     refine bodyPost_ret (results_tmp2 rfl _ _ _) rfl ?_
     exact ⟨rfl, rfl⟩
   · have hn : ¬ (1048576 ≤ v ∧ v < 1114112) := by omega
     rw [if_neg hn, decide_eq_false hn]
     obtain ⟨u, hu⟩ : ∃ u, v - 1048576 = u := ⟨_, rfl⟩
     have k3 : decide ((65536 : Int) ≤ (u : Int)) = true := decide_eq_true (by omega)
     have k4 : decide (65536 ≤ u) = true := decide_eq_true (by omega)
     rw [hu] at hw
     clear hu hn h1 h2
     go_enter Tryz.func209, Tryz.ntmps209
     go_wp2
     refine bodyPost_ret (results_tmp2 rfl _ _ _) rfl ?_
     exact ⟨rfl, rfl⟩
def tgt (A : List Nat) (v : Nat) : Int := if 1048576 ≤ v ∧ v < 1114112 ∧ v % 2 = 0 ∧ (v - 1048576) / 2 ∈ A then (((v - 1048576) / 2 : Nat) : Int) else -1
set_option maxRecDepth 100000 in
set_option maxHeartbeats 1600000 in
theorem wtarget (w : World) (g m : Nat) (ob : Obj) (A : List Nat) (hc : w.cell? ⟨g, 2, none⟩ = some (.map (some m))) (hb : w.heap[m]? = some ob) (hmo : MapObj .i64 (mpOf A) ob) (v : Nat) (hv : v < 18446744073709551616) :
  Calls Tryz.prog 203 #[.pointer (some ⟨g, 0, none⟩), .int .u64 v] w fun e w' => e = .returned (.int .i64 (tgt A v)) ∧ w' = w := by
 have HW := uh (sword w v hv)
 have HB := uh hb
 have HM := uh hmo
 have hz : ∀ w, (zeroValue 4).run Tryz.prog w = .ok (.bool false) w := fun _ => by kernel_rfl
 clear hb hmo
 by_cases h1 : 1048576 ≤ v ∧ v < 1114112
 · rw [if_pos h1, decide_eq_true h1] at HW
   obtain ⟨u, hu⟩ : ∃ u, v - 1048576 = u := ⟨_, rfl⟩
   have hus : u < 65536 := by omega
   have hm2 : ((u : Int)).tmod 2 = ((u % 2 : Nat) : Int) := tmod_nat _ 2
   have hm3 : ((u : Int)) % 2 = ((u % 2 : Nat) : Int) := by omega
   have hd2 : ((u : Int)).tdiv 2 = ((u / 2 : Nat) : Int) := tdiv_nat _ 2
   have hd3 : ((u : Int)) / 2 = ((u / 2 : Nat) : Int) := by omega
   by_cases h2 : u % 2 = 0
   · obtain ⟨d, hd⟩ : ∃ d, u / 2 = d := ⟨_, rfl⟩
     by_cases h3 : d ∈ A
     · have ht : tgt A v = (d : Int) := by unfold tgt; rw [hu, hd, if_pos ⟨h1.1, h1.2, by omega, h3⟩]
       have HG := uh (mpOf_get A d)
       rw [if_pos h3] at HG
       rw [ht]
       rw [hu] at HW
       rw [hd] at hd2 hd3
       rw [h2] at hm2 hm3
       clear ht hd hu h1 h3 h2
       go_enter Tryz.func203, Tryz.ntmps203
       go_wp2_with fail
       refine HW.out.mono ?_
       rintro e w2 ⟨rfl, hw⟩
       subst hw
       go_wp2_with (first
        | (show wpList _ _ _ (⟨_, Op.lookup 332 _ _ _, _, _, _, _⟩ :: _) _ _; refine wpList_mlookup_g (q := .i64) (by rfl) _ _ 332 false rfl 3 4 Tryz.underlying332 Tryz.underlying3 (.bool false) (hz _) rfl HB.out HM.out (d : Int) rfl ?_; rw [HG.out]; simp only [Option.getD_some])
        | fail)
       go_ret
       exact ⟨rfl, rfl⟩
     · have ht : tgt A v = -1 := by unfold tgt; rw [hu, hd, if_neg (fun h => h3 h.2.2.2)]
       have HG := uh (mpOf_get A d)
       rw [if_neg h3] at HG
       rw [ht]
       rw [hu] at HW
       rw [hd] at hd2 hd3
       rw [h2] at hm2 hm3
       clear ht hd hu h1 h3 h2
       go_enter Tryz.func203, Tryz.ntmps203
       go_wp2_with fail
       refine HW.out.mono ?_
       rintro e w2 ⟨rfl, hw⟩
       subst hw
       go_wp2_with (first
        | (show wpList _ _ _ (⟨_, Op.lookup 332 _ _ _, _, _, _, _⟩ :: _) _ _; refine wpList_mlookup_g (q := .i64) (by rfl) _ _ 332 false rfl 3 4 Tryz.underlying332 Tryz.underlying3 (.bool false) (hz _) rfl HB.out HM.out (d : Int) rfl ?_; rw [HG.out]; simp only [Option.getD_none])
        | fail)
       go_ret
       exact ⟨rfl, rfl⟩
   · have ht : tgt A v = -1 := by unfold tgt; rw [if_neg (fun h => by omega)]
     have hm1 : u % 2 = 1 := by omega
     rw [ht]
     rw [hu] at HW
     rw [hm1] at hm2 hm3
     clear ht hu h1 h2 hm1
     go_enter Tryz.func203, Tryz.ntmps203
     go_wp2_with fail
     refine HW.out.mono ?_
     rintro e w2 ⟨rfl, hw⟩
     subst hw
     go_wp2_with fail
     go_ret
     exact ⟨rfl, rfl⟩
 · rw [if_neg h1, decide_eq_false h1] at HW
   have ht : tgt A v = -1 := by unfold tgt; rw [if_neg (fun h => h1 ⟨h.1, h.2.1⟩)]
   rw [ht]
   clear ht h1
   go_enter Tryz.func203, Tryz.ntmps203
   go_wp2_with fail
   refine HW.out.mono ?_
   rintro e w2 ⟨rfl, hw⟩
   subst hw
   go_wp2_with fail
   go_ret
   exact ⟨rfl, rfl⟩
end
section
open Go Go.RowKit Go.Shelf Go.IntWalk
attribute [local go_sem] Oper.semAt_some
set_option maxRecDepth 100000 in
set_option maxHeartbeats 6400000 in
theorem scells_g (n : Nat) (hn : 2 ≤ n) (wb : World) (sb a aw tb : Nat) (W : List Nat) (tao : Option Addr) (tcap : Nat) (L : List Ty) (hA : SpAt wb sb a aw tb W tao tcap L) (hf : W.length ≤ 65536) (hu : ∀ v ∈ W, v < 18446744073709551616) (hTy : ∀ t ∈ L, TyIn t) (hL : L.length ≤ 1000)
  (cs : List Ce) (hC : Chain L W 0 cs (W.length / 2)) (Bs : Nat) (D : World → Nat → Prop) (G : World → Prop) (hGD : ∀ A, G A → ∀ b, D A b → b < A.heap.size ∧ b ≠ Bs) (hDD : ∀ A B b, G A → Below A.heap.size A B → D B b → D A b) (w : World) (hw : Below wb.heap.size wb w) (hBs : w.heap[Bs]? = some (.cells #[.pointer (some ⟨sb, 0, none⟩)] 26)) :
  SeqG Fence.wide n Tryz.prog 149 #[.pointer (some ⟨Bs, 0, none⟩)] ceArgs (KpD wb.heap.size D) (fun pre x => ∃ post, cs = pre ++ x :: post) (fun xs => xs = cs) G w := fun l J W0 hW hJ hG hY h0 => by
 have hBl : Bs < w.heap.size := lt_of_block hBs
 have hB0 : W0.heap[Bs]? = some (.cells #[.pointer (some ⟨sb, 0, none⟩)] 26) := (hW.block Bs hBl).trans hBs
 have hw0 : Below wb.heap.size wb W0 := hw.trans (hW.mono hw.size)
 have hW0 := hW.size
 have HA0 := uh hw.size
 have HA0 := uh hw.size
 have HA0 := uh hw.size
 have HA0 := uh hw.size
 have hFl : Fence.wide.fn 149 := trivial
 have hf1 : Fence.wide.fn 13 := trivial
 have hf2 : Fence.wide.fn 126 := trivial
 have hf3 : Fence.wide.fn 128 := trivial
 refine callsIn_of_wp Tryz.func149 rfl hFl ?_ rfl
 simp only [Tryz.ntmps149, List.size_toArray, List.length_cons, List.length_nil, Nat.reduceAdd, Nat.reduceSub, Array.replicate_succ, Array.replicate_zero, List.push_toArray, List.append_toArray, List.nil_append, List.cons_append]
 have h1 : 1 ≤ n := by omega
 have hro : Fence.wide.round = none := rfl
 have h2 : 1 ≤ n - 1 := by omega
 have HY := uh hY
 have HJ := uh hJ
 have hszH := sz_head
 have Hgr := uh (fun w' (hB : Below wb.heap.size wb w') => sgran w' (hA.below hB).c0 (hA.below hB).ar hf)
 have Hhd := uh (fun w' (hB : Below wb.heap.size wb w') (g : Int) => shead w' (hA.below hB).fields (hA.below hB).ar hu g)
 have Hft := uh (fun w' (hB : Below wb.heap.size wb w') h hi => hfits w' (hA.below hB).fields L hTy hL tb tao tcap (hA.below hB).tab h hi)
 have HA := uh hA
 have HC := uh hC
 have hlen := hC.len
 obtain ⟨z, hz⟩ : ∃ z : Nat, W.length / 2 = z := ⟨_, rfl⟩
 have hzb : z ≤ 32768 := by omega
 rw [hz] at Hgr HC hlen
 have Hw0 := uh hw0
 have HB0 := uh hB0
 have HG := uh hG
 clear hY hJ hG hW hw hBs hB0 hw0 hA hu hTy hC
 gi_wp2_with fail
 gi_loopw [3] (fun v3 wr => ∃ (pre post : List Ce) (g : Nat), cs = pre ++ post ∧ v3 = .int .i64 g ∧ Chain L W g post z ∧ J pre wr ∧ Below wb.heap.size wb wr ∧ wr.heap[Bs]? = some (.cells #[.pointer (some ⟨sb, 0, none⟩)] 26) ∧ w.heap.size ≤ wr.heap.size) (fun v3 _ => z + 1 - (intOf v3).toNat)
 case atStart => exact ⟨[], cs, 0, rfl, by go_num, HC.out, h0, Hw0.out, HB0.out, hW0⟩
 case round =>
  clear HC h0 Hw0 HB0
  obtain ⟨pre, post, g, hcs, rfl, hch, hJw, hwr, hBw, hwl⟩ := hrel
  have hH1 : Has wr [(Bs, .cells #[.pointer (some ⟨sb, 0, none⟩)] 26)] := Has.one hBw
  have hbx : wr.cell? ⟨Bs, 0, none⟩ = some (.pointer (some ⟨sb, 0, none⟩)) := hH1.cell (List.mem_cons_self ..) 0
  have hsp := HA.out.below hwr
  have q0 := hsp.c0
  cases post with
  | nil =>
   obtain rfl : g = z := hch
   rw [List.append_nil] at hcs
   have HX := uh (⟨hcs.symm, hJw⟩ : pre = cs ∧ J pre wr)
   have Hg := uh (Hgr.out wr hwr)
   have hnl : ¬ (g : Int) < (g : Int) := by omega
   clear hJw hsp hH1 hcs hwr hBw
   gi_wp2_with (gi_at_call 13; refine (callsIn_wide.2 Hg.out).mono ?_; rintro e w' ⟨rfl, hw⟩; rw [hw]; clear hw w')
   go_end0
   exact ⟨⟨_, rfl⟩, pre, HX.out.1, HX.out.2⟩
  | cons c post =>
   obtain ⟨cg, h⟩ := c
   obtain ⟨hcg, hst, hnext⟩ := hch
   simp only at hcg hst hnext
   subst hcg
   have hpos := hst.pos
   have hroom : cg + h.size ≤ z := hnext.le
   obtain ⟨e1, e2, e3, e4⟩ := stands_head hst
   have hmay := hst.2.1.1
   have Hh2 := uh (Hhd.out wr hwr cg)
   rw [e1, e2] at Hh2
   simp only [Option.getD_some] at Hh2
   have HF1 := uh (fun w' (hB : Below wr.heap.size wr w') => Hft.out w' (hwr.trans (hB.mono (Nat.le_trans HA0.out hwl))) h (may_in hmay))
   rw [e3] at HF1
   have HY2 := uh (fun W1 => HY.out pre (cg, h) W1 ⟨post, hcs⟩)
   unfold ceArgs at HY2
   have Hgr2 := uh (fun w' X (V : Turn [] wr X w') => Hgr.out w' (hwr.trans (V.below.mono (Nat.le_trans HA0.out hwl))))
   obtain ⟨xa, xb, xc, xd⟩ := h
   simp only at hpos hroom HY2
   have hoX := hd_one ⟨xa, xb, xc, xd⟩
   simp only at hoX
   have k1 : IntKind.i64.wrap ((z : Int) - (cg : Int)) = (z : Int) - (cg : Int) := i64_in _ (by omega)
   have k2 : decide (((z : Int) - (cg : Int)) < (xd : Int)) = false := decide_eq_false (by omega)
   have k3 : ¬ ((z : Int) - (cg : Int)) < (xd : Int) := by omega
   have k4 : (cg : Int) < (z : Int) := by omega
   have Hnext := uh hnext
   have Hcs := uh hcs
   have HJw := uh hJw
   have Hg := uh (Hgr.out wr hwr)
   have hT0 := uh (Turn.refl (Has.nil wr))
   have HS := uh (fun w' b4 (V : Turn [] wr [(b4, .cells #[.int .u8 xa, .int .i64 xb, .int .i64 xc, .int .i64 xd] 79)] w') =>
    (⟨(V.below.cell (p := ⟨Bs, 0, none⟩) (World.block_lt_of_cell? wr _ hbx)).trans hbx, (V.below.cell (p := ⟨sb, 1, none⟩) (World.block_lt_of_cell? wr _ hsp.c1)).trans hsp.c1, V.range1⟩ : w'.cell? ⟨Bs, 0, none⟩ = some (.pointer (some ⟨sb, 0, none⟩)) ∧ w'.cell? ⟨sb, 1, none⟩ = some (.pointer (some ⟨tb, 0, none⟩)) ∧ w'.rangeAt b4 0 [.int .u8 xa, .int .i64 xb, .int .i64 xc, .int .i64 xd]))
   have hsbl : sb < wb.heap.size := World.block_lt_of_cell? wb _ HA.out.c0
   have hGr := HG.out pre wr hJw
   have HS2 := uh (fun w8 w' b4 (k : KpD wb.heap.size D w' w8) (V : Turn [] wr [(b4, .cells #[.int .u8 xa, .int .i64 xb, .int .i64 xc, .int .i64 xd] 79)] w') => by
    have h := HS.out w' b4 V
    have h9 : wr.heap.size ≤ b4 := (V.new b4 (by simp [keys])).resolve_left (by simp [keys])
    have h8 := k.same b4 _ (V.has.own _ _ (List.mem_cons_self ..)) rfl (fun hd => by have := (hGD wr hGr b4 (hDD wr w' b4 hGr V.below hd)).1; omega)
    have h7 := k.same Bs _ ((V.below.block Bs (lt_of_block hBw)).trans hBw) rfl (fun hd => (hGD wr hGr Bs (hDD wr w' Bs hGr V.below hd)).2 rfl)
    exact (⟨(Has.one h7).cell (List.mem_cons_self ..) 0, (k.below.cell (p := ⟨sb, 1, none⟩) hsbl).trans h.2.1, (Has.one h8).range (List.mem_cons_self ..)⟩ : w8.cell? ⟨Bs, 0, none⟩ = some (.pointer (some ⟨sb, 0, none⟩)) ∧ w8.cell? ⟨sb, 1, none⟩ = some (.pointer (some ⟨tb, 0, none⟩)) ∧ w8.rangeAt b4 0 [.int .u8 xa, .int .i64 xb, .int .i64 xc, .int .i64 xd]))
   have HN8 := uh (fun w8 w' b4 (hj : J (pre ++ [(cg, ⟨xa, xb, xc, xd⟩)]) w8) (k : KpD wb.heap.size D w' w8) (V : Turn [] wr [(b4, .cells #[.int .u8 xa, .int .i64 xb, .int .i64 xc, .int .i64 xd] 79)] w') =>
    (⟨hj, (hwr.trans (V.below.mono (Nat.le_trans HA0.out hwl))).trans k.below, k.same Bs _ ((V.below.block Bs (lt_of_block hBw)).trans hBw) rfl (fun hd => (hGD wr hGr Bs (hDD wr w' Bs hGr V.below hd)).2 rfl), Nat.le_trans hwl (Nat.le_trans V.size k.size)⟩ : J (pre ++ [(cg, ⟨xa, xb, xc, xd⟩)]) w8 ∧ Below wb.heap.size wb w8 ∧ w8.heap[Bs]? = some (.cells #[.pointer (some ⟨sb, 0, none⟩)] 26) ∧ w.heap.size ≤ w8.heap.size))
   clear hGr hJw hsp hH1 hcs hwr hBw hnext hst e1 e2 e3 e4 hmay HY
   gi_wp2_with (first
    | (gi_at_call 13; refine (callsIn_wide.2 Hg.out).mono ?_; rintro e w' ⟨rfl, hw⟩; rw [hw]; clear hw w')
    | (gi_at_call 126; refine (callsIn_wide.2 Hh2.out).mono ?_; rintro e w1 ⟨rfl, hB1⟩; have T2 := (hT0.out.call hB1).alloc (.cells #[.int .u8 0, .int .i64 0, .int .i64 0, .int .i64 0] 79); have hth : (w1.alloc (.cells #[.int .u8 0, .int .i64 0, .int .i64 0, .int .i64 0] 79)).there w1.heap.size 0 4 := T2.there1; have HT2 := uh (T2.laid [.int .u8 xa, .int .i64 xb, .int .i64 xc, .int .i64 xd] rfl); clear hB1 T2)
    | (show wpListIn _ _ _ _ _ (⟨_, Op.store 79 _ _, _, _, _, _⟩ :: _) _ _; refine wpListIn_by (follows_wide _ _) rfl (by intro c h; cases h) (wp_store_mid 79 _ _ rfl _ 0 #[.int .u8 xa, .int .i64 xb, .int .i64 xc, .int .i64 xd] rfl rfl hth hszH hoX ?_); clear hth)
    | fail)
   generalize (w1.alloc (.cells #[.int .u8 0, .int .i64 0, .int .i64 0, .int .i64 0] 79)).setCells w1.heap.size 0 [.int .u8 xa, .int .i64 xb, .int .i64 xc, .int .i64 xd] = w5 at *
   generalize w1.heap.size = b4 at *
   have HT5 := uh HT2.out.drew
   have hS5 := HS.out _ _ HT5.out
   have HF2 := uh (HF1.out _ HT5.out.below)
   have HY3 := HY2
   clear HT2 q0 hbx Hg Hh2 hT0
   refine wpIn_region_noPanic ?_
   refine wpIn_region_listedHI (S := fun W' => W'.cell? ⟨Bs, 0, none⟩ = some (.pointer (some ⟨sb, 0, none⟩)) ∧ W'.cell? ⟨sb, 1, none⟩ = some (.pointer (some ⟨tb, 0, none⟩)) ∧ W'.rangeAt b4 0 [.int .u8 xa, .int .i64 xb, .int .i64 xc, .int .i64 xd]) 28 [false, false, false, false, false, false, false, false, false, false, false, false, false, false, false, false, false, false, false, false, false, false, false, false, false, false, false, false] rfl rfl (by kernel_rfl) ?_
   refine takeGI 0 19 hro rfl rfl (by rfl) (by kernel_rfl) (by kernel_rfl) (by kernel_rfl) (fun _ _ _ _ h => h) hS5 (fun _ => rfl) (by (intro w hSw; clear hSw; go_simp; try rfl)) ?_
   simp only [st1, st2]
   refine takeGI 1 20 hro rfl rfl (by rfl) (by kernel_rfl) (by kernel_rfl) (by kernel_rfl) (fun _ _ _ _ h => h) hS5 (fun _ => rfl) (by (intro w hSw; clear hSw; go_simp; try rfl)) ?_
   simp only [st1, st2]
   refine takeGI 2 21 hro rfl rfl (by rfl) (by kernel_rfl) (by kernel_rfl) (by kernel_rfl) (fun _ _ _ _ h => h) hS5 (fun _ => rfl) (by (intro w hSw; clear hSw; go_simp; try rfl)) ?_
   simp only [st1, st2]
   refine takeGI 3 22 hro rfl rfl (by rfl) (by kernel_rfl) (by kernel_rfl) (by kernel_rfl) (fun _ _ _ _ h => h) hS5 (fun _ => rfl) (by (intro w hSw; have hc := hSw.1; clear hSw; go_simp; try rfl)) ?_
   simp only [st1, st2]
   refine takeGI 4 23 hro rfl rfl (by rfl) (by kernel_rfl) (by kernel_rfl) (by kernel_rfl) (fun _ _ _ _ h => h) hS5 (fun _ => rfl) (by (intro w hSw; clear hSw; go_simp; try rfl)) ?_
   simp only [st1, st2]
   refine takeGI 5 24 hro rfl rfl (by rfl) (by kernel_rfl) (by kernel_rfl) (by kernel_rfl) (fun _ _ _ _ h => h) hS5 (fun _ => rfl) (by (intro w hSw; clear hSw; go_simp; try rfl)) ?_
   simp only [st1, st2]
   refine takeGI 6 25 hro rfl rfl (by rfl) (by kernel_rfl) (by kernel_rfl) (by kernel_rfl) (fun _ _ _ _ h => h) hS5 (fun _ => rfl) (by (intro w hSw; have hc := hSw.2.1; clear hSw; go_simp; try rfl)) ?_
   simp only [st1, st2]
   refine takeGI 7 26 hro rfl rfl (by rfl) (by kernel_rfl) (by kernel_rfl) (by kernel_rfl) (fun _ _ _ _ h => h) hS5 (fun _ => rfl) (fun w' hSw => load_mid_run 79 _ rfl b4 0 rfl [.int .u8 xa, .int .i64 xb, .int .i64 xc, .int .i64 xd] _ hSw.2.2 Tryz.underlying79 rfl hszH) ?_
   simp only [st1, st2]
   refine wpAnyHI_call (i := 8) (by kernel_rfl) rfl (fun K hK => ?_)
   go_simp
   refine (callsIn_wide.2 HF2.out).mono ?_
   rintro e w6 ⟨rfl, hB6⟩
   have HT6 := uh (HT5.out.call hB6)
   have hS6 := HS.out _ _ HT6.out
   clear hB6 HF2 HT5 hS5
   refine hK.out _ _ hS6 ?_
   clear hK K
   simp only [st0, st1, st2]
   refine takeGI 9 28 hro rfl rfl (by rfl) (by kernel_rfl) (by kernel_rfl) (by kernel_rfl) (fun _ _ _ _ h => h) hS6 (fun _ => rfl) (by (intro w hSw; clear hSw; go_simp; try rfl)) ?_
   simp only [st1, st2]
   refine takeGI 10 29 hro rfl rfl (by rfl) (by kernel_rfl) (by kernel_rfl) (by kernel_rfl) (fun _ _ _ _ h => h) hS6 (fun _ => rfl) (by (intro w hSw; clear hSw; go_simp; try rfl)) ?_
   simp only [st1, st2]
   refine takeGI 11 30 hro rfl rfl (by rfl) (by kernel_rfl) (by kernel_rfl) (by kernel_rfl) (fun _ _ _ _ h => h) hS6 (fun _ => rfl) (by (intro w hSw; clear hSw; go_simp; try rfl)) ?_
   simp only [st1, st2]
   refine takeGI 12 31 hro rfl rfl (by rfl) (by kernel_rfl) (by kernel_rfl) (by kernel_rfl) (fun _ _ _ _ h => h) hS6 (fun _ => rfl) (by (intro w hSw; clear hSw; go_simp; try rfl)) ?_
   simp only [st1, st2]
   refine takeGI 13 32 hro rfl rfl (by rfl) (by kernel_rfl) (by kernel_rfl) (by kernel_rfl) (fun _ _ _ _ h => h) hS6 (fun _ => rfl) (by (intro w hSw; have hc := hSw.2.2 3 _ rfl; clear hSw; go_simp; try rfl)) ?_
   simp only [st1, st2]
   refine takeGI 14 33 hro rfl rfl (by rfl) (by kernel_rfl) (by kernel_rfl) (by kernel_rfl) (fun _ _ _ _ h => h) hS6 (fun _ => rfl) (by (intro w hSw; have hc := hSw.1; clear hSw; go_simp; try rfl)) ?_
   simp only [st1, st2]
   refine takeGI 16 35 hro rfl rfl (by rfl) (by kernel_rfl) (by kernel_rfl) (by kernel_rfl) (fun _ _ _ _ h => h) hS6 (fun _ => rfl) (by (intro w hSw; clear hSw; go_simp; try rfl)) ?_
   simp only [st1, st2]
   refine wpAnyHI_call (i := 15) (by kernel_rfl) rfl (fun K hK => ?_)
   go_simp
   refine (callsIn_wide.2 (Hgr2.out _ _ HT6.out)).mono ?_
   rintro e w7 ⟨rfl, hw7⟩
   subst hw7
   refine hK.out _ _ hS6 ?_
   clear hK K
   simp only [st0, st1, st2]
   refine takeGI 17 36 hro rfl rfl (by rfl) (by kernel_rfl) (by kernel_rfl) (by kernel_rfl) (fun _ _ _ _ h => h) hS6 (fun _ => rfl) (by (intro w hSw; clear hSw; go_simp; try rfl)) ?_
   simp only [st1, st2]
   refine takeGI 18 37 hro rfl rfl (by rfl) (by kernel_rfl) (by kernel_rfl) (by kernel_rfl) (fun _ _ _ _ h => h) hS6 (fun _ => rfl) (by (intro w hSw; clear hSw; go_simp; try rfl)) ?_
   simp only [st1, st2]
   refine takeGI 19 38 hro rfl rfl (by rfl) (by kernel_rfl) (by kernel_rfl) (by kernel_rfl) (fun _ _ _ _ h => h) hS6 (fun _ => rfl) (by (intro w hSw; clear hSw; go_simp; try rfl)) ?_
   simp only [st1, st2]
   refine takeGI 20 39 hro rfl rfl (by rfl) (by kernel_rfl) (by kernel_rfl) (by kernel_rfl) (fun _ _ _ _ h => h) hS6 (fun _ => rfl) (by (intro w hSw; clear hSw; go_simp; try rfl)) ?_
   simp only [st1, st2]
   refine takeGI 21 40 hro rfl rfl (by rfl) (by kernel_rfl) (by kernel_rfl) (by kernel_rfl) (fun _ _ _ _ h => h) hS6 (fun _ => rfl) (by (intro w hSw; clear hSw; go_simp; try rfl)) ?_
   simp only [st1, st2]
   refine takeGI 22 41 hro rfl rfl (by rfl) (by kernel_rfl) (by kernel_rfl) (by kernel_rfl) (fun _ _ _ _ h => h) hS6 (fun _ => rfl) (by (intro w hSw; clear hSw; go_simp; try rfl)) ?_
   simp only [st1, st2]
   refine takeGI 23 42 hro rfl rfl (by rfl) (by kernel_rfl) (by kernel_rfl) (by kernel_rfl) (fun _ _ _ _ h => h) hS6 (fun _ => rfl) (fun w' hSw => load_mid_run 79 _ rfl b4 0 rfl [.int .u8 xa, .int .i64 xb, .int .i64 xc, .int .i64 xd] _ hSw.2.2 Tryz.underlying79 rfl hszH) ?_
   simp only [st1, st2]
   refine takeGI 24 43 hro rfl rfl (by rfl) (by kernel_rfl) (by kernel_rfl) (by kernel_rfl) (fun _ _ _ _ h => h) hS6 (fun _ => rfl) (by (intro w hSw; clear hSw; go_simp; try rfl)) ?_
   simp only [st1, st2]
   obtain ⟨fn, tmps, assign, body, hy, hR⟩ := HY3.out _ (HJ.out pre wr _ none HJw.out (below_grownBy HT6.out.below) (fun r e => by cases e))
   have HR := uh hR
   clear hR
   refine wpAnyHI_call (i := 25) (by kernel_rfl) rfl (fun K hK => ?_)
   go_simp
   refine HR.out.mono ?_
   rintro e w8 ⟨rfl, hJ8, hk8⟩
   · have hS8 := HS2.out _ _ _ hk8 HT6.out
     refine hK.out _ _ hS8 ?_
     clear hK K
     simp only [st0, st1, st2]
     refine takeGI 26 45 hro rfl rfl (by rfl) (by kernel_rfl) (by kernel_rfl) (by kernel_rfl) (fun _ _ _ _ h => h) hS8 (fun _ => rfl) (by (intro w hSw; clear hSw; go_simp; try rfl)) ?_
     simp only [st1, st2]
     refine takeGI 27 46 hro rfl rfl (by rfl) (by kernel_rfl) (by kernel_rfl) (by kernel_rfl) (fun _ _ _ _ h => h) hS8 (fun _ => rfl) (by (intro w hSw; clear hSw; go_simp; try rfl)) ?_
     simp only [st1, st2]
     refine wpAnyHI_done (by kernel_rfl) ?_ _
     refine NoPanic.normal ?_
     have hc4 := hS8.2.2 3 _ rfl
     have HN := uh (HN8.out _ _ _ hJ8 hk8 HT6.out)
     clear hS8 hS6 HT6 HS HS2 hJ8 hk8 HR hy
     gi_wp2_with fail
     go_roundw
     case rel => exact ⟨pre ++ [(cg, ⟨xa, xb, xc, xd⟩)], post, cg + xd, by rw [Hcs.out]; simp, by go_num, Hnext.out, HN.out.1, HN.out.2.1, HN.out.2.2.1, HN.out.2.2.2⟩
     case measure => simp [intOf]; omega
set_option maxRecDepth 100000 in
set_option maxHeartbeats 6400000 in
theorem scells_all (w : World) (sb a aw tb : Nat) {W : List Nat} (tao : Option Addr) (tcap : Nat) (L : List Ty) (hA : SpAt w sb a aw tb W tao tcap L) (hf : W.length ≤ 65536) (hu : ∀ v ∈ W, v < 18446744073709551616) (hTy : ∀ t ∈ L, TyIn t) (hL : L.length ≤ 1000)
  (cs : List Ce) (hC : Chain L W 0 cs (W.length / 2)) :
  Calls Tryz.prog 59 #[.pointer (some ⟨sb, 0, none⟩)] w fun e w' => ∃ ao cap l, e = .returned (.slice ao cs.length cap) ∧ Row 81 5 ao cs.length cap (ces cs) l ∧ Turn [] w l w' := by
 refine (callsIn_wide (n := 6)).1 ?_
 have h3 : Fence.wide.fn 59 := trivial
 have h6 : Fence.wide.fn 65 := trivial
 have h7 : Fence.wide.fn 149 := trivial
 have hro : Fence.wide.round = none := rfl
 have h1 : 1 ≤ 6 := by omega
 have hsbl : sb < w.heap.size := World.block_lt_of_cell? w _ hA.c0
 have hlen := hC.len
 have hcl : cs.length ≤ 32768 := by omega
 refine callsIn_of_wp_marks Tryz.func59 rfl h3 ?_ hro
 simp only [Tryz.ntmps59, List.size_toArray, List.length_cons, List.length_nil, Nat.reduceAdd, Nat.reduceSub, Array.replicate_succ, Array.replicate_zero, List.push_toArray, List.append_toArray, List.nil_append, List.cons_append]
 have HC := uh hC
 have HA := uh hA
 have hT0 := uh (Turn.refl (Has.nil w))
 clear hA hC hlen
 gi_wp2_with (first
  | (gi_at_call 65; refine (scells_in (6 - 1) sb _).mono ?_; rintro e w' ⟨rfl, hw⟩; rw [hw]; clear hw w')
  | fail)
 obtain ⟨n4, hn4⟩ : ∃ n4, w.heap.size = n4 := ⟨_, rfl⟩
 have T5 := (hT0.out.alloc (.cells #[.slice none 0 0] 75)).alloc (.cells #[.pointer (some ⟨sb, 0, none⟩)] 26)
 have hsz0 : ((w.alloc (.cells #[.slice none 0 0] 75)).alloc (.cells #[.pointer (some ⟨sb, 0, none⟩)] 26)).heap.size = w.heap.size + 1 + 1 := by simp
 simp only [World.size_alloc] at T5
 generalize (w.alloc (.cells #[.slice none 0 0] 75)).alloc (.cells #[.pointer (some ⟨sb, 0, none⟩)] 26) = W0 at T5 hsz0 ⊢
 have R8 : Below w.heap.size w W0 := T5.below
 rw [hn4] at T5 hsz0 hsbl ⊢
 clear hT0
 have hBs : W0.heap[n4 + 1]? = some (.cells #[.pointer (some ⟨sb, 0, none⟩)] 26) := T5.has.own _ _ (by simp)
 have T8 : Turn [] w ([] ++ [(n4, .cells #[.slice none 0 0] 75), (n4 + 1, .cells #[.pointer (some ⟨sb, 0, none⟩)] 26)]) W0 := T5.perm (perm_of fun c => by simp; omega)
 clear T5
 have hA0 : SpAt w sb a aw tb W tao tcap L := HA.out
 have hw0W : w.heap.size ≤ W0.heap.size := R8.size
 apply wpIn_rangeFunc_g (β := Nat) hro h1 (gf := 149) (lb := #[.pointer (some ⟨n4 + 1, 0, none⟩)]) rfl h7 (enters_of Tryz.func149 (by kernel_rfl) rfl)
  (scells_g (6 - 1) (by omega) w sb a aw tb W tao tcap L hA0 hf hu hTy hL _ HC.out (n4 + 1) (ResD n4) (ResG n4 (n4 + 1)) (fun A h => h) (fun A B b hg hB => ResD.old hg hB) W0 R8 hBs)
  (fun h k => h.t k) (KpD.b (by omega) (fun W l o' hl b => ResD.put (by omega) o')) (Below.refl _ _) (fun _ => rfl)
  (fun pre W' => ∃ ao cap lr, Row 81 5 ao pre.length cap (ces pre) lr ∧ pre.length ≤ 32768 ∧ Turn [] w (lr ++ [(n4, .cells #[.slice ao pre.length cap] 75), (n4 + 1, .cells #[.pointer (some ⟨sb, 0, none⟩)] 26)]) W')
  (fun x nb pre W' => ∃ ao cap lr, Row 81 5 ao pre.length cap (ces pre) lr ∧ pre.length + 1 ≤ 32768 ∧ Turn [] w ((nb, ceObj x) :: (lr ++ [(n4, .cells #[.slice ao pre.length cap] 75), (n4 + 1, .cells #[.pointer (some ⟨sb, 0, none⟩)] 26)])) W')
  (fun s A D row ⟨ao, cap, lr, e1, e2, hT⟩ hg hr => ⟨ao, cap, lr, e1, e2, hT.grownB hw0W (resBx_cells e1) hg hr⟩)
  (fun x nb s A D row ⟨ao, cap, lr, e1, e2, hT⟩ hg hr => ⟨ao, cap, lr, e1, e2, hT.grownB hw0W (by
    intro y hy
    rcases List.mem_cons.1 hy with rfl | hy
    · rfl
    · exact resBx_cells e1 y hy) hg hr⟩)
  ⟨none, 0, [], Row.nil _ _, by simp, T8⟩
  (fun pre W' ⟨ao, cap, lr, e1, e2, hT⟩ => resG_of e1 hT)
 case hassign =>
  rintro l1 pre x W2 ⟨post, hnx⟩ ⟨ao, cap, lr, e1, e2, hT⟩
  have hpl : pre.length + 1 ≤ 32768 := by rw [hnx, List.length_append, List.length_cons] at hcl; omega
  have T2 := hT.alloc (.cells #[.int .i64 0, .int .u8 0, .int .i64 0, .int .i64 0, .int .i64 0] 81)
  have hth : (W2.alloc (.cells #[.int .i64 0, .int .u8 0, .int .i64 0, .int .i64 0, .int .i64 0] 81)).there W2.heap.size 0 5 := T2.there1
  have HT2 := uh (T2.laid [.int .i64 x.1, .int .u8 x.2.tag, .int .i64 x.2.typ, .int .i64 x.2.len, .int .i64 x.2.size] rfl)
  have HX := uh (((Turn.refl (Has.nil W2)).alloc (.cells #[.int .i64 0, .int .u8 0, .int .i64 0, .int .i64 0, .int .i64 0] 81)).laid [.int .i64 x.1, .int .u8 x.2.tag, .int .i64 x.2.typ, .int .i64 x.2.len, .int .i64 x.2.size] rfl)
  have hszC := sz_cell
  have hoC := ce_one x
  have hGb := resG_of e1 hT
  have hE1 := uh e1
  have hw2 := hT.size
  unfold ceArgs
  clear T2 hnx hT e1
  gi_wp2_with (first
   | (show wpListIn _ _ _ _ _ (⟨_, Op.store 81 _ _, _, _, _, _⟩ :: _) _ _; refine wpListIn_by (follows_round _ _ _) rfl (by intro c h; cases h) (wp_store_mid 81 _ _ rfl _ 0 #[.int .i64 x.1, .int .u8 x.2.tag, .int .i64 x.2.typ, .int .i64 x.2.len, .int .i64 x.2.size] rfl rfl hth hszC hoC ?_); clear hth)
   | fail)
  have HK := uh (⟨((KeepsOthers.alloc _ _).trans (keepsOthers_setCells _ _ _)).from _, KpD.of HX.out (by omega) (fun b hb => by cases hb) (fun b hb hd => ResD.old hGb HX.out.below hd)⟩ :
   KeepsFrom W0.heap.size W2 ((W2.alloc (.cells #[.int .i64 0, .int .u8 0, .int .i64 0, .int .i64 0, .int .i64 0] 81)).setCells W2.heap.size 0 [.int .i64 x.1, .int .u8 x.2.tag, .int .i64 x.2.typ, .int .i64 x.2.len, .int .i64 x.2.size]) ∧ KpD w.heap.size (ResD n4) W2 ((W2.alloc (.cells #[.int .i64 0, .int .u8 0, .int .i64 0, .int .i64 0, .int .i64 0] 81)).setCells W2.heap.size 0 [.int .i64 x.1, .int .u8 x.2.tag, .int .i64 x.2.typ, .int .i64 x.2.len, .int .i64 x.2.size]))
  clear HX hoC hGb
  generalize (W2.alloc (.cells #[.int .i64 0, .int .u8 0, .int .i64 0, .int .i64 0, .int .i64 0] 81)).setCells W2.heap.size 0 [.int .i64 x.1, .int .u8 x.2.tag, .int .i64 x.2.typ, .int .i64 x.2.len, .int .i64 x.2.size] = W3 at *
  generalize W2.heap.size = nb at *
  exact ⟨HK.out.1, HK.out.2, nb, rfl, ao, cap, lr, hE1.out, hpl, HT2.out⟩
 case hbody =>
  rintro l1 pre x nb W2 - ⟨ao, cap, lr, e1, e2, hT⟩
  have q0 : W2.cell? ⟨n4, 0, none⟩ = some (.slice ao pre.length cap) := hT.has.cell (b := n4) (c := #[.slice ao pre.length cap]) (e := 75) (f := (0, 0)) (by simp) 0
  have hrg : W2.rangeAt nb 0 [.int .i64 x.1, .int .u8 x.2.tag, .int .i64 x.2.typ, .int .i64 x.2.len, .int .i64 x.2.size] := hT.range1
  have hszC := sz_cell
  have h63 : pre.length + 1 ≤ maxLen := by unfold maxLen; omega
  have hby : (pre.length + 1) * 40 ≤ 140737488355328 := by omega
  have hcv : ∀ u ∈ ceCells x, u.oneCell' = true := by
   intro u hu
   simp only [ceCells, List.mem_cons, List.not_mem_nil, or_false] at hu
   rcases hu with rfl | rfl | rfl | rfl | rfl <;> rfl
  have hg2 := resG_of e1 hT.tail
  have HT := uh hT
  have H1 := uh e1
  have HH := uh (hT.has.sub (l' := lr ++ [(n4, .cells #[.slice ao pre.length cap] 75)]) (by simp))
  clear hT e1
  gi_wp2_with (first
   | (show wpListIn _ _ _ _ _ (⟨_, Op.load 81 _, _, _, _, _⟩ :: _) _ _; refine wpListIn_by (follows_round _ _ _) rfl (by intro c h; cases h) (wp_load_mid 81 _ rfl nb 0 rfl [.int .i64 x.1, .int .u8 x.2.tag, .int .i64 x.2.typ, .int .i64 x.2.len, .int .i64 x.2.size] _ hrg Tryz.underlying81 rfl hszC ?_))
   | (gi_at_builtin; have T3 := uh (HT.out.alloc (.cells #[.int .i64 x.1, .int .u8 x.2.tag, .int .i64 x.2.typ, .int .i64 x.2.len, .int .i64 x.2.size] 81)); have K3 := uh (((Turn.refl HH.out).alloc (.cells #[.int .i64 x.1, .int .u8 x.2.tag, .int .i64 x.2.typ, .int .i64 x.2.len, .int .i64 x.2.size] 81)).perm (l2 := lr ++ [(W2.heap.size, .cells #[.int .i64 x.1, .int .u8 x.2.tag, .int .i64 x.2.typ, .int .i64 x.2.len, .int .i64 x.2.size] 81), (n4, .cells #[.slice ao pre.length cap] 75)]) (perm_of fun c => by simp; omega)); refine wpListIn_by (follows_round _ _ _) rfl (by intro c h; cases h) (wp_append_row _ _ rfl el_cell rfl H1.out (R := [(W2.heap.size, .cells #[.int .i64 x.1, .int .u8 x.2.tag, .int .i64 x.2.typ, .int .i64 x.2.len, .int .i64 x.2.size] 81), (n4, .cells #[.slice ao pre.length cap] 75)]) K3.out.has rfl (news := [.int .i64 x.1, .int .u8 x.2.tag, .int .i64 x.2.typ, .int .i64 x.2.len, .int .i64 x.2.size]) rfl (news_of (heap_alloc_new _ _)) hcv h63 hby ?_); intro a9 p9 l9 w4 hr9 V4 hno; have T4 := (((T3.out.perm (l2 := (lr ++ [(W2.heap.size, .cells #[.int .i64 x.1, .int .u8 x.2.tag, .int .i64 x.2.typ, .int .i64 x.2.len, .int .i64 x.2.size] 81), (n4, .cells #[.slice ao pre.length cap] 75)]) ++ [(nb, ceObj x), (n4 + 1, .cells #[.pointer (some ⟨sb, 0, none⟩)] 26)]) (perm_of fun c => by simp; omega))).trans (V4.more ((T3.out.perm (l2 := (lr ++ [(W2.heap.size, .cells #[.int .i64 x.1, .int .u8 x.2.tag, .int .i64 x.2.typ, .int .i64 x.2.len, .int .i64 x.2.size] 81), (n4, .cells #[.slice ao pre.length cap] 75)]) ++ [(nb, ceObj x), (n4 + 1, .cells #[.pointer (some ⟨sb, 0, none⟩)] 26)]) (perm_of fun c => by simp; omega)).has))).perm (l2 := (n4, .cells #[.slice ao pre.length cap] 75) :: (l9 ++ [(W2.heap.size, .cells #[.int .i64 x.1, .int .u8 x.2.tag, .int .i64 x.2.typ, .int .i64 x.2.len, .int .i64 x.2.size] 81), (nb, ceObj x), (n4 + 1, .cells #[.pointer (some ⟨sb, 0, none⟩)] 26)])) (perm_of fun c => by simp; omega); have q5 := T4.cell1 0; have f5 := T4.free1 0; have K5 := ((K3.out.trans V4).perm (l2 := (n4, .cells #[.slice ao pre.length cap] 75) :: (l9 ++ [(W2.heap.size, .cells #[.int .i64 x.1, .int .u8 x.2.tag, .int .i64 x.2.typ, .int .i64 x.2.len, .int .i64 x.2.size] 81)])) (perm_of fun c => by simp; omega)).setCell 0 (.slice a9 (pre.length + 1) p9); have HT5 := uh (T4.setCell 0 (.slice a9 (pre.length + 1) p9)); have HK5 := uh (KpD.res (n₀ := w.heap.size) H1.out hr9 K5 HH.out (by omega) (fun b hb => (HT.out.new b (by simp [keys] at hb ⊢; exact .inr (.inl hb))).resolve_left (by simp [keys]))); have HKO := uh (Turn.keepsOthers K5 HH.out (resBx1_cells H1.out)); have Hr9 := uh hr9; clear V4 T4 K5 K3 T3 hno hr9 q0)
   | fail)
  have hce : ces (pre ++ [x]) = ces pre ++ [.int .i64 x.1, .int .u8 x.2.tag, .int .i64 x.2.typ, .int .i64 x.2.len, .int .i64 x.2.size] := ces_append _ _
  have hl1 : (pre ++ [x]).length = pre.length + 1 := by simp
  refine ⟨HKO.out.from _, HK5.out, a9, p9, l9, by rw [hl1, hce]; exact Hr9.out, by omega, by rw [hl1]; exact (HT5.out.perm (l2 := [(W2.heap.size, .cells #[.int .i64 x.1, .int .u8 x.2.tag, .int .i64 x.2.typ, .int .i64 x.2.len, .int .i64 x.2.size] 81), (nb, ceObj x)] ++ (l9 ++ [(n4, .cells #[.slice a9 (pre.length + 1) p9] 75), (n4 + 1, .cells #[.pointer (some ⟨sb, 0, none⟩)] 26)])) (perm_of fun c => by simp; omega)).drop⟩
 case hdone =>
  rintro D xs W2 hD rfl ⟨ao, cap, lr, e1, e2, hT⟩ hK
  have hHb : Has W2 ((n4, .cells #[.slice ao xs.length cap] 75) :: (lr ++ [(n4 + 1, .cells #[.pointer (some ⟨sb, 0, none⟩)] 26)])) := hT.has.perm (perm_of fun c => by simp; omega)
  have q0 : W2.cell? ⟨n4, 0, none⟩ = some (.slice ao xs.length cap) := hHb.cell (List.mem_cons_self ..) 0
  have f0 : W2.frozen? ⟨n4, 0, none⟩ = false := hHb.free (List.mem_cons_self ..) 0
  have HT := uh hT
  have H1 := uh e1
  have HK := uh hK
  clear hT e1 hHb hK
  gi_wp2_with fail
  have T9 := (HT.out.perm (l2 := (n4, .cells #[.slice ao xs.length cap] 75) :: (lr ++ [(n4 + 1, .cells #[.pointer (some ⟨sb, 0, none⟩)] 26)])) (perm_of fun c => by simp; omega)).setCell 0 (.slice ao xs.length cap)
  have hK5 : (W2.setCell ⟨n4, 0, none⟩ (.slice ao xs.length cap)).heap[D]? = some (.deferred (some [])) := by
   rw [Below.heap_setCell _ _ _ _ (by show D ≠ n4; omega)]
   exact HK.out
  have T10 := T9.grownB (B := W0.heap.size) hw0W (fun y hy => by
   rcases List.mem_cons.1 hy with rfl | hy
   · rfl
   rcases List.mem_append.1 hy with hy | hy
   · exact H1.out.cells y hy
   · rw [List.mem_singleton.1 hy]; rfl) (grownBy_putObj' _ D (.deferred none)) (fun r e => by cases e; exact ⟨hD, _, hK5, rfl⟩)
  have hcl : ((W2.setCell ⟨n4, 0, none⟩ (.slice ao xs.length cap)).putObj D (.deferred none)).cell? ⟨n4, 0, none⟩ = some (.slice ao xs.length cap) := T10.cell1 0
  have HT10 := uh T10
  clear T9 T10 HT q0 f0
  refine ⟨by simp, .inl ⟨_, _, rfl, run_takeDeferred hK5, ?_⟩⟩
  refine ⟨.slice ao xs.length cap, ?_, ao, cap, lr, rfl, H1.out, (HT10.out.perm (l2 := (n4, .cells #[.slice ao xs.length cap] 75) :: ((n4 + 1, .cells #[.pointer (some ⟨sb, 0, none⟩)] 26) :: lr)) (perm_of fun c => by simp; omega)).tail.tail⟩
  simp [results, Tryz.results59, go_sem, hcl]
end
section
open Go Go.RowKit Go.Shelf Go.IntWalk
attribute [local go_sem] Oper.semAt_some
def svs (W : List Nat) (g : Nat) (rs : List Nat) : List (Nat × Nat) := rs.map fun s => (s, W.getD (2 * g + 1 + s) 0)
def svArgs (x : Nat × Nat) : Array Value := #[.int .i64 x.1, .int .u64 x.2]
theorem svs_at {W : List Nat} {g i s : Nat} {rs : List Nat} (h : rs[i]? = some s) : (svs W g rs)[i]? = some (s, W.getD (2 * g + 1 + s) 0) := by unfold svs; rw [List.getElem?_map, h]; rfl
theorem svs_len (W : List Nat) (g : Nat) (rs : List Nat) : (svs W g rs).length = rs.length := by simp [svs]
theorem take_nextA {α : Type} {l : List α} {j : Nat} {d : α} (h : l[j]? = some d) : l.take (j + 1) = l.take j ++ [d] := by rw [List.take_add_one, h]; rfl
theorem drop_nextA {α : Type} {l : List α} {j : Nat} {d : α} (h : l[j]? = some d) : l.drop j = d :: l.drop (j + 1) := by
 obtain ⟨hj, rfl⟩ := List.getElem?_eq_some_iff.1 h
 exact List.drop_eq_getElem_cons hj
theorem svs_split {W : List Nat} {g i s : Nat} {rs : List Nat} (h : rs[i]? = some s) : svs W g rs = (svs W g rs).take i ++ (s, W.getD (2 * g + 1 + s) 0) :: (svs W g rs).drop (i + 1) := by
 rw [← drop_nextA (svs_at h), List.take_append_drop]
set_option maxRecDepth 100000 in
theorem vrefs_in (n : Nat) (vb : Nat) (w : World) :
  CallsIn Fence.wide n Tryz.prog 168 #[.pointer (some ⟨vb, 0, none⟩)] w fun e w' => e = .returned (.func (.func 217) #[] #[.pointer (some ⟨w.heap.size, 0, none⟩)]) ∧ w' = w.alloc (.cells #[.pointer (some ⟨vb, 0, none⟩)] 124) := by
 have hf : Fence.wide.fn 168 := trivial
 refine callsIn_of_wp Tryz.func168 rfl hf ?_ rfl
 simp only [Tryz.ntmps168, List.size_toArray, List.length_cons, List.length_nil, Nat.reduceAdd, Nat.reduceSub, Array.replicate_succ, Array.replicate_zero, List.push_toArray, List.append_toArray, List.nil_append, List.cons_append]
 gi_wp2
 go_ret
 exact ⟨rfl, rfl⟩
theorem range_off {w : World} {b o : Nat} {xs ys : List Value} (h : w.rangeAt b o (xs ++ ys)) : w.rangeAt b (o + xs.length) ys := fun j v hv => by
 have := h (xs.length + j) v (by rw [List.getElem?_append_right (by omega), Nat.add_sub_cancel_left]; exact hv)
 rwa [← Nat.add_assoc] at this
set_option maxRecDepth 100000 in
set_option maxHeartbeats 6400000 in
theorem vrefs_g (n : Nat) (hn : 2 ≤ n) (wb : World) (vb a aw g : Nat) (W : List Nat) (h : Hd) (t : Ty) (hA : ArAt wb a aw W) (hv : VwAt wb vb a g h t) (ht : TyIn t) (he : t.err h.len = 0) (hg : g ≤ 65536) (hwl : ∀ s ∈ t.refs h.len, s < t.slots h.len ∧ 2 * g + 1 + s < W.length)
  (Bs : Nat) (D : World → Nat → Prop) (G : World → Prop) (hGD : ∀ A, G A → ∀ b, D A b → b < A.heap.size ∧ b ≠ Bs) (hDD : ∀ A B b, G A → Below A.heap.size A B → D B b → D A b) (w : World) (hw : Below wb.heap.size wb w) (hBs : w.heap[Bs]? = some (.cells #[.pointer (some ⟨vb, 0, none⟩)] 124)) :
  SeqG Fence.wide n Tryz.prog 217 #[.pointer (some ⟨Bs, 0, none⟩)] svArgs (KpD wb.heap.size D) (fun pre x => ∃ post, svs W g (t.refs h.len) = pre ++ x :: post) (fun xs => xs = svs W g (t.refs h.len)) G w := fun l J W0 hW hJ hG hY h0 => by
 have hBl : Bs < w.heap.size := lt_of_block hBs
 have hB0 : W0.heap[Bs]? = some (.cells #[.pointer (some ⟨vb, 0, none⟩)] 124) := (hW.block Bs hBl).trans hBs
 have hw0 : Below wb.heap.size wb W0 := hw.trans (hW.mono hw.size)
 have hFl : Fence.wide.fn 217 := trivial
 have hf1 : Fence.wide.fn 218 := trivial
 have hf2 : Fence.wide.fn 103 := trivial
 refine callsIn_of_wp Tryz.func217 rfl hFl ?_ rfl
 simp only [Tryz.ntmps217, List.size_toArray, List.length_cons, List.length_nil, Nat.reduceAdd, Nat.reduceSub, Array.replicate_succ, Array.replicate_zero, List.push_toArray, List.append_toArray, List.nil_append, List.cons_append]
 have h1 : 1 ≤ n := by omega
 have hro : Fence.wide.round = none := rfl
 have h2 : 1 ≤ n - 1 := by omega
 have HRf := uh (fun w' => krefs w' t ht h.len he)
 have HLd := uh (fun w' (hB : Below wb.heap.size wb w') s v hs hvv => vload w' (hA.below hB) (range_below hv hB) ht he hg s v hs hvv)
 have HV := uh (fun w' (hB : Below wb.heap.size wb w') => (range_below hv hB : w'.rangeAt vb 0 (viewCells a g h t)))
 have Hwl := uh (fun i s (hi : (t.refs h.len)[i]? = some s) => hwl s (List.mem_of_getElem? hi))
 have hrl : (t.refs h.len).length ≤ 65536 := by
  have h1 := refsTo_len t (t.slots h.len)
  have h2 : t.refs h.len = refsTo t (t.slots h.len) := rfl
  obtain ⟨hm, -, hn9, -⟩ := err_ok.1 he
  have := slots_most hm (n := h.len) (by omega)
  rw [h2]
  omega
 have hszT := sz_type
 generalize t.refs h.len = rs at *
 generalize hsl : t.slots h.len = sl at *
 have Hsp := uh (fun i s (hi : rs[i]? = some s) => svs_split (W := W) (g := g) hi)
 have Hfin := uh (svs_len W g rs)
 have HY := uh hY
 have HJ := uh hJ
 have HG := uh hG
 have HJ0 := uh h0
 have Hw0 := uh hw0
 have hbx : W0.cell? ⟨Bs, 0, none⟩ = some (.pointer (some ⟨vb, 0, none⟩)) := (Has.one hB0).cell (List.mem_cons_self ..) 0
 have HB0 := uh hB0
 have HAb := uh hA
 obtain ⟨tk, tw, tm⟩ := t
 clear hY hJ hG hW hw hBs hB0 hw0 hA hv he ht hwl h0 hsl
 gi_wp2_with fail
 have hT0 : Turn [] W0 [] W0.drew := (Turn.refl (Has.nil W0)).drew
 have HS := uh (fun w' X (V : Turn [] W0 X w') => (⟨(V.below.cell (p := ⟨Bs, 0, none⟩) (World.block_lt_of_cell? W0 _ hbx)).trans hbx, HV.out w' (Hw0.out.trans (V.below.mono Hw0.out.size))⟩ : (fun W' => W'.cell? ⟨Bs, 0, none⟩ = some (.pointer (some ⟨vb, 0, none⟩)) ∧ W'.rangeAt vb 0 (viewCells a g h ⟨tk, tw, tm⟩)) w'))
 have hS := HS.out _ _ hT0
 have HT0 := uh hT0
 clear hT0
 refine wpIn_region_noPanic ?_
 refine wpIn_region_listedHI (S := fun W' => W'.cell? ⟨Bs, 0, none⟩ = some (.pointer (some ⟨vb, 0, none⟩)) ∧ W'.rangeAt vb 0 (viewCells a g h ⟨tk, tw, tm⟩)) 15 [false, false, false, false, false, false, false, false, false, false, false, false, false, false, false] rfl rfl (by kernel_rfl) ?_
 refine takeGI 0 12 hro rfl rfl (by rfl) (by kernel_rfl) (by kernel_rfl) (by kernel_rfl) (fun _ _ _ _ h => h) hS (fun _ => rfl) (by (intro w hSw; have hc := hSw.1; clear hSw; go_simp; try rfl)) ?_
 simp only [st1, st2]
 refine takeGI 1 13 hro rfl rfl (by rfl) (by kernel_rfl) (by kernel_rfl) (by kernel_rfl) (fun _ _ _ _ h => h) hS (fun _ => rfl) (by (intro w hSw; clear hSw; go_simp; try rfl)) ?_
 simp only [st1, st2]
 refine takeGI 2 14 hro rfl rfl (by rfl) (by kernel_rfl) (by kernel_rfl) (by kernel_rfl) (fun _ _ _ _ h => h) hS (fun _ => rfl) (by (intro w hSw; clear hSw; go_simp; try rfl)) ?_
 simp only [st1, st2]
 refine takeGI 3 15 hro rfl rfl (by rfl) (by kernel_rfl) (by kernel_rfl) (by kernel_rfl) (fun _ _ _ _ h => h) hS (fun _ => rfl) (fun w' hSw => load_mid_run 49 _ rfl vb 6 rfl [.int .u8 tk, .int .i64 tw, .int .u64 tm] _ (range_off (xs := [.pointer (some ⟨a, 0, none⟩), .int .i64 g, .int .u8 h.tag, .int .i64 h.typ, .int .i64 h.len, .int .i64 h.size]) hSw.2) Tryz.underlying49 rfl hszT) ?_
 simp only [st1, st2]
 refine takeGI 4 16 hro rfl rfl (by rfl) (by kernel_rfl) (by kernel_rfl) (by kernel_rfl) (fun _ _ _ _ h => h) hS (fun _ => rfl) (by (intro w hSw; have hc := hSw.1; clear hSw; go_simp; try rfl)) ?_
 simp only [st1, st2]
 refine takeGI 5 17 hro rfl rfl (by rfl) (by kernel_rfl) (by kernel_rfl) (by kernel_rfl) (fun _ _ _ _ h => h) hS (fun _ => rfl) (by (intro w hSw; clear hSw; go_simp; try rfl)) ?_
 simp only [st1, st2]
 refine takeGI 6 18 hro rfl rfl (by rfl) (by kernel_rfl) (by kernel_rfl) (by kernel_rfl) (fun _ _ _ _ h => h) hS (fun _ => rfl) (by (intro w hSw; clear hSw; go_simp; try rfl)) ?_
 simp only [st1, st2]
 refine takeGI 7 19 hro rfl rfl (by rfl) (by kernel_rfl) (by kernel_rfl) (by kernel_rfl) (fun _ _ _ _ h => h) hS (fun _ => rfl) (by (intro w hSw; clear hSw; go_simp; try rfl)) ?_
 simp only [st1, st2]
 refine takeGI 8 20 hro rfl rfl (by rfl) (by kernel_rfl) (by kernel_rfl) (by kernel_rfl) (fun _ _ _ _ h => h) hS (fun _ => rfl) (by (intro w hSw; have hc := hSw.2 4 _ rfl; clear hSw; go_simp; try rfl)) ?_
 simp only [st1, st2]
 refine wpAnyHI_call (i := 9) (by kernel_rfl) rfl (fun K hK => ?_)
 go_simp
 refine (callsIn_wide.2 (HRf.out _)).mono ?_
 rintro e w3 ⟨a3, p3, l3, rfl, hr3, T3⟩
 have T4 : Turn [] W0 l3 w3 := HT0.out.trans T3
 have hS3 := HS.out _ _ T4
 have HT4 := uh T4
 have Hr3 := uh hr3
 refine hK.out _ _ hS3 ?_
 clear hK K T3 T4 hr3 hS
 simp only [st0, st1, st2]
 refine takeGI 10 11 hro rfl rfl (by rfl) (by kernel_rfl) (by kernel_rfl) (by kernel_rfl) (fun _ _ _ _ h => h) hS3 (fun _ => rfl) (by (intro w hSw; clear hSw; go_simp; try rfl)) ?_
 simp only [st1, st2]
 refine takeGI 11 22 hro rfl rfl (by rfl) (by kernel_rfl) (by kernel_rfl) (by kernel_rfl) (fun _ _ _ _ h => h) hS3 (fun _ => rfl) (by (intro w hSw; clear hSw; go_simp; try rfl)) ?_
 simp only [st1, st2]
 refine takeGI 12 23 hro rfl rfl (by rfl) (by kernel_rfl) (by kernel_rfl) (by kernel_rfl) (fun _ _ _ _ h => h) hS3 (fun _ => rfl) (by (intro w hSw; clear hSw; go_simp; try rfl)) ?_
 simp only [st1, st2]
 refine takeGI 13 3 hro rfl rfl (by rfl) (by kernel_rfl) (by kernel_rfl) (by kernel_rfl) (fun _ _ _ _ h => h) hS3 (fun _ => rfl) (by (intro w hSw; clear hSw; go_simp; try rfl)) ?_
 simp only [st1, st2]
 refine takeGI 14 4 hro rfl rfl (by rfl) (by kernel_rfl) (by kernel_rfl) (by kernel_rfl) (fun _ _ _ _ h => h) hS3 (fun _ => rfl) (by (intro w hSw; clear hSw; go_simp; try rfl)) ?_
 simp only [st1, st2]
 refine wpAnyHI_done (by kernel_rfl) ?_ _
 refine NoPanic.normal ?_
 have hbx3 := hS3.1
 have hG0 := HG.out [] W0 HJ0.out
 have HN0 := uh (fun x (hx : x ∈ l3) => (⟨HT4.out.has.own x.1 x.2 hx, fun hd => by
  have h1 := (hGD W0 hG0 x.1 (hDD W0 w3 x.1 hG0 HT4.out.below hd)).1
  have h2 := (HT4.out.new x.1 (mem_keys.2 ⟨x.2, hx⟩)).resolve_left (by simp [keys])
  omega⟩ : w3.heap[x.1]? = some x.2 ∧ ¬ D w3 x.1))
 have HJ3 := uh (HJ.out [] W0 _ none HJ0.out (below_grownBy HT4.out.below) (fun r e => by cases e))
 have HB3 := uh ((HT4.out.below.block Bs (lt_of_block HB0.out)).trans HB0.out)
 have Hw3 := uh (Hw0.out.trans (HT4.out.below.mono Hw0.out.size))
 have Hnd := uh HT4.out.has.nd
 clear hS3 HS HT0 HT4 HJ0 HB0 hbx hG0
 gi_wp2_with fail
 gi_loopw [26] (fun v26 wr => ∃ (i : Nat), i ≤ rs.length ∧ v26 = .int .i64 i ∧ J ((svs W g rs).take i) wr ∧ Below wb.heap.size wb wr ∧ wr.heap[Bs]? = some (.cells #[.pointer (some ⟨vb, 0, none⟩)] 124) ∧ (∀ x ∈ l3, wr.heap[x.1]? = some x.2 ∧ ¬ D wr x.1)) (fun v26 _ => rs.length - (intOf v26).toNat)
 case atStart => exact ⟨0, Nat.zero_le _, by go_num, HJ3.out, Hw3.out, HB3.out, HN0.out⟩
 case round =>
  clear HJ3 Hw3 HB3 HN0 hbx3
  obtain ⟨i, hi, rfl, hJw, hwr, hBw, hNw⟩ := hrel
  by_cases hlt : i < rs.length
  · have hlt' : (i : Int) < (rs.length : Int) := by omega
    obtain ⟨s, hs⟩ : ∃ s, rs[i]? = some s := ⟨rs[i], List.getElem?_eq_getElem hlt⟩
    have hwls := Hwl.out i s hs
    obtain ⟨v, hvv⟩ : ∃ v, W[2 * g + 1 + s]? = some v := ⟨W[2 * g + 1 + s]'(hwls.2), List.getElem?_eq_getElem _⟩
    have hvg : W.getD (2 * g + 1 + s) 0 = v := by rw [List.getD_eq_getElem?_getD, hvv]; rfl
    have hbx : wr.cell? ⟨Bs, 0, none⟩ = some (.pointer (some ⟨vb, 0, none⟩)) := (Has.one hBw).cell (List.mem_cons_self ..) 0
    have hsrc := Hr3.out.src (R := []) (w := wr) (by rw [List.append_nil]; exact ⟨Hnd.out, fun b o hm => (hNw (b, o) hm).1⟩)
    obtain ⟨b3, off3, rfl, hc3⟩ := hsrc.form (by rw [nats_length]; omega)
    have q3 := hc3 i _ (nats_at hs)
    have HL := uh (HLd.out wr hwr s v hwls.1 hvv)
    have hspl := Hsp.out i s hs
    rw [hvg] at hspl
    have hGr := HG.out _ wr hJw
    have HY2 := uh (fun W1 => HY.out ((svs W g rs).take i) (s, v) W1 ⟨_, hspl⟩)
    unfold svArgs at HY2
    have hnx : (svs W g rs).take (i + 1) = (svs W g rs).take i ++ [(s, v)] := by rw [take_nextA (svs_at hs), hvg]
    have HNx := uh hnx
    have HJw := uh hJw
    have HK := uh (fun w' w8 (hB : Below wr.heap.size wr w') (k : KpD wb.heap.size D w' w8) => (⟨(hwr.trans (hB.mono hwr.size)).trans k.below, k.same Bs _ ((hB.block Bs (lt_of_block hBw)).trans hBw) rfl (fun hd => (hGD wr hGr Bs (hDD wr w' Bs hGr hB hd)).2 rfl), fun x hx => by
     have hx1 := (hB.block x.1 (lt_of_block (hNw x hx).1)).trans (hNw x hx).1
     have hx2 : ¬ D w' x.1 := fun hd => (hNw x hx).2 (hDD wr w' x.1 hGr hB hd)
     exact ⟨k.same x.1 x.2 hx1 (Hr3.out.cells x hx) hx2, fun hd => hx2 (k.own x.1 (lt_of_block hx1) hd)⟩⟩ :
      Below wb.heap.size wb w8 ∧ w8.heap[Bs]? = some (.cells #[.pointer (some ⟨vb, 0, none⟩)] 124) ∧ (∀ x ∈ l3, w8.heap[x.1]? = some x.2 ∧ ¬ D w8 x.1)))
    clear hs hwls hvv hvg hsrc hc3 hspl hGr hnx hJw hwr hBw hNw
    gi_wp2_with (first
     | (gi_at_call 103; refine (callsIn_wide.2 HL.out).mono ?_; rintro e w5 ⟨rfl, hB5⟩; have HB5 := uh hB5; obtain ⟨fn, tmps, assign, body, hy, hR⟩ := HY2.out _ (HJ.out _ wr _ none HJw.out (below_grownBy hB5) (fun r e => by cases e)); have HR := uh hR; clear hR hB5 HL q3 hbx)
     | fail)
    refine HR.out.mono ?_
    rintro e w8 ⟨rfl, hJ8, hk8⟩
    have HN := uh (HK.out _ _ HB5.out hk8)
    have HJ8 := uh hJ8
    clear hJ8 hk8 HR hy HK HY2 HB5
    gi_wp2_with fail
    go_roundw
    case rel => exact ⟨i + 1, by omega, by go_num, by rw [HNx.out]; exact HJ8.out, HN.out.1, HN.out.2.1, HN.out.2.2⟩
    case measure => simp [intOf]; omega
  · obtain rfl : i = rs.length := by omega
    have hnl : ¬ ((rs.length : Nat) : Int) < (rs.length : Int) := by omega
    have HX := uh (show J (svs W g rs) wr by rw [← Hfin.out, List.take_length] at hJw; exact hJw)
    clear hJw hwr hBw hNw
    gi_wp2_with fail
    go_end0
    exact ⟨⟨_, rfl⟩, HX.out⟩
end
section
open Go Go.RowKit Go.Shelf Go.IntWalk
attribute [local go_sem] Oper.semAt_some
set_option maxRecDepth 100000 in
set_option maxHeartbeats 6400000 in
theorem vrefs_all (w : World) (vb a aw g : Nat) (W : List Nat) (h : Hd) (t : Ty) (hA : ArAt w a aw W) (hv : VwAt w vb a g h t) (ht : TyIn t) (he : t.err h.len = 0) (hg : g ≤ 65536) (hwl : ∀ s ∈ t.refs h.len, s < t.slots h.len ∧ 2 * g + 1 + s < W.length) :
  Calls Tryz.prog 102 #[.pointer (some ⟨vb, 0, none⟩)] w fun e w' => ∃ ao cap l, e = .returned (.slice ao (t.refs h.len).length cap) ∧ Row 3 1 ao (t.refs h.len).length cap (nats (t.refs h.len)) l ∧ Turn [] w l w' := by
 refine (callsIn_wide (n := 6)).1 ?_
 have h3 : Fence.wide.fn 102 := trivial
 have h6 : Fence.wide.fn 168 := trivial
 have h7 : Fence.wide.fn 217 := trivial
 have hro : Fence.wide.round = none := rfl
 have h1 : 1 ≤ 6 := by omega
 have hvbl : vb < w.heap.size := World.block_lt_of_cell? w _ (hv.c (i := 0) rfl)
 have hcl : (t.refs h.len).length ≤ 65536 := by
  have h1 := refsTo_len t (t.slots h.len)
  have h2 : t.refs h.len = refsTo t (t.slots h.len) := rfl
  obtain ⟨hm, -, hn9, -⟩ := err_ok.1 he
  have := slots_most hm (n := h.len) (by omega)
  rw [h2]
  omega
 refine callsIn_of_wp_marks Tryz.func102 rfl h3 ?_ hro
 simp only [Tryz.ntmps102, List.size_toArray, List.length_cons, List.length_nil, Nat.reduceAdd, Nat.reduceSub, Array.replicate_succ, Array.replicate_zero, List.push_toArray, List.append_toArray, List.nil_append, List.cons_append]
 have HIt := uh (fun Bs D G hGD hDD w0 hw hBs => vrefs_g (6 - 1) (by omega) w vb a aw g W h t hA hv ht he hg hwl Bs D G hGD hDD w0 hw hBs)
 generalize t.refs h.len = rs at *
 have Hfin := uh (svs_len W g rs)
 have hT0 := uh (Turn.refl (Has.nil w))
 clear hA hv ht he hg hwl
 gi_wp2_with (first
  | (gi_at_call 168; refine (vrefs_in (6 - 1) vb _).mono ?_; rintro e w' ⟨rfl, hw⟩; rw [hw]; clear hw w')
  | fail)
 obtain ⟨n4, hn4⟩ : ∃ n4, w.heap.size = n4 := ⟨_, rfl⟩
 have T5 := (hT0.out.alloc (.cells #[.slice none 0 0] 38)).alloc (.cells #[.pointer (some ⟨vb, 0, none⟩)] 124)
 have hsz0 : ((w.alloc (.cells #[.slice none 0 0] 38)).alloc (.cells #[.pointer (some ⟨vb, 0, none⟩)] 124)).heap.size = w.heap.size + 1 + 1 := by simp
 simp only [World.size_alloc] at T5
 generalize (w.alloc (.cells #[.slice none 0 0] 38)).alloc (.cells #[.pointer (some ⟨vb, 0, none⟩)] 124) = W0 at T5 hsz0 ⊢
 have R8 : Below w.heap.size w W0 := T5.below
 rw [hn4] at T5 hsz0 hvbl ⊢
 clear hT0
 have hBs : W0.heap[n4 + 1]? = some (.cells #[.pointer (some ⟨vb, 0, none⟩)] 124) := T5.has.own _ _ (by simp)
 have T8 : Turn [] w ([] ++ [(n4, .cells #[.slice none 0 0] 38), (n4 + 1, .cells #[.pointer (some ⟨vb, 0, none⟩)] 124)]) W0 := T5.perm (perm_of fun c => by simp; omega)
 clear T5
 have hw0W : w.heap.size ≤ W0.heap.size := R8.size
 apply wpIn_rangeFunc_g (β := Nat) hro h1 (gf := 217) (lb := #[.pointer (some ⟨n4 + 1, 0, none⟩)]) rfl h7 (enters_of Tryz.func217 (by kernel_rfl) rfl)
  (HIt.out (n4 + 1) (ResD n4) (ResG n4 (n4 + 1)) (fun A h => h) (fun A B b hg hB => ResD.old hg hB) W0 R8 hBs)
  (fun h k => h.t k) (KpD.b (by omega) (fun W l o' hl b => ResD.put (by omega) o')) (Below.refl _ _) (fun _ => rfl)
  (fun pre W' => ∃ ao cap lr, Row 3 1 ao pre.length cap (nats (pre.map (·.1))) lr ∧ pre.length ≤ 65536 ∧ Turn [] w (lr ++ [(n4, .cells #[.slice ao pre.length cap] 38), (n4 + 1, .cells #[.pointer (some ⟨vb, 0, none⟩)] 124)]) W')
  (fun (x : Nat × Nat) (nb : Nat) pre W' => ∃ ao cap lr, Row 3 1 ao pre.length cap (nats (pre.map (·.1))) lr ∧ pre.length + 1 ≤ 65536 ∧ Turn [] w (lr ++ [(n4, .cells #[.slice ao pre.length cap] 38), (n4 + 1, .cells #[.pointer (some ⟨vb, 0, none⟩)] 124)]) W')
  (fun s A D row ⟨ao, cap, lr, e1, e2, hT⟩ hg hr => ⟨ao, cap, lr, e1, e2, hT.grownB hw0W (resBx_cells e1) hg hr⟩)
  (fun x nb s A D row ⟨ao, cap, lr, e1, e2, hT⟩ hg hr => ⟨ao, cap, lr, e1, e2, hT.grownB hw0W (resBx_cells e1) hg hr⟩)
  ⟨none, 0, [], Row.nil _ _, by simp, T8⟩
  (fun pre W' ⟨ao, cap, lr, e1, e2, hT⟩ => resG_of e1 hT)
 case hassign =>
  rintro l1 pre x W2 ⟨post, hnx⟩ ⟨ao, cap, lr, e1, e2, hT⟩
  have hpl : pre.length + 1 ≤ 65536 := by
   have h9 := Hfin.out
   rw [hnx, List.length_append, List.length_cons] at h9
   omega
  have hwn : w.heap.size ≤ W2.heap.size := hT.size
  have HX := uh (⟨e1, hT⟩ : Row 3 1 ao pre.length cap (nats (pre.map (·.1))) lr ∧ Turn [] w (lr ++ [(n4, .cells #[.slice ao pre.length cap] 38), (n4 + 1, .cells #[.pointer (some ⟨vb, 0, none⟩)] 124)]) W2)
  unfold svArgs
  clear hT e1 hnx
  gi_wp2_with fail
  obtain ⟨z, -⟩ : ∃ z : Nat, z = 0 := ⟨0, rfl⟩
  exact ⟨KeepsFrom.refl _ _, ⟨Below.refl _ _, Nat.le_refl _, fun _ _ h _ _ => h, fun _ _ h => h⟩, z, rfl, ao, cap, lr, HX.out.1, hpl, HX.out.2⟩
 case hbody =>
  rintro l1 pre x nb W2 - ⟨ao, cap, lr, e1, e2, hT⟩
  have q0 : W2.cell? ⟨n4, 0, none⟩ = some (.slice ao pre.length cap) := hT.has.cell (b := n4) (c := #[.slice ao pre.length cap]) (e := 38) (f := (0, 0)) (by simp) 0
  have h63 : pre.length + 1 ≤ maxLen := by unfold maxLen; omega
  have hby : (pre.length + 1) * 8 ≤ 140737488355328 := by omega
  have HT := uh hT
  have H1 := uh e1
  have HH := uh (hT.has.sub (l' := lr ++ [(n4, .cells #[.slice ao pre.length cap] 38)]) (by simp))
  clear hT e1
  gi_wp2_with (first
   | (gi_at_builtin; have T3 := uh (HT.out.alloc (.cells #[.int .i64 x.1] 3)); have K3 := uh (((Turn.refl HH.out).alloc (.cells #[.int .i64 x.1] 3)).perm (l2 := lr ++ [(W2.heap.size, .cells #[.int .i64 x.1] 3), (n4, .cells #[.slice ao pre.length cap] 38)]) (perm_of fun c => by simp; omega)); refine wpListIn_by (follows_round _ _ _) rfl (by intro c h; cases h) (wp_append_row _ _ rfl el_int rfl H1.out (R := [(W2.heap.size, .cells #[.int .i64 x.1] 3), (n4, .cells #[.slice ao pre.length cap] 38)]) K3.out.has rfl (news := [.int .i64 x.1]) rfl (news_of (heap_alloc_new _ _)) (by simp [Value.oneCell']) h63 hby ?_); intro a9 p9 l9 w4 hr9 V4 hno; have T4 := (((T3.out.perm (l2 := (lr ++ [(W2.heap.size, .cells #[.int .i64 x.1] 3), (n4, .cells #[.slice ao pre.length cap] 38)]) ++ [(n4 + 1, .cells #[.pointer (some ⟨vb, 0, none⟩)] 124)]) (perm_of fun c => by simp; omega))).trans (V4.more ((T3.out.perm (l2 := (lr ++ [(W2.heap.size, .cells #[.int .i64 x.1] 3), (n4, .cells #[.slice ao pre.length cap] 38)]) ++ [(n4 + 1, .cells #[.pointer (some ⟨vb, 0, none⟩)] 124)]) (perm_of fun c => by simp; omega)).has))).perm (l2 := (n4, .cells #[.slice ao pre.length cap] 38) :: (l9 ++ [(W2.heap.size, .cells #[.int .i64 x.1] 3), (n4 + 1, .cells #[.pointer (some ⟨vb, 0, none⟩)] 124)])) (perm_of fun c => by simp; omega); have q5 := T4.cell1 0; have f5 := T4.free1 0; have K5 := ((K3.out.trans V4).perm (l2 := (n4, .cells #[.slice ao pre.length cap] 38) :: (l9 ++ [(W2.heap.size, .cells #[.int .i64 x.1] 3)])) (perm_of fun c => by simp; omega)).setCell 0 (.slice a9 (pre.length + 1) p9); have HT5 := uh (T4.setCell 0 (.slice a9 (pre.length + 1) p9)); have HK5 := uh (KpD.res (n₀ := w.heap.size) H1.out hr9 K5 HH.out (by omega) (fun b hb => (HT.out.new b (by simp [keys] at hb ⊢; exact .inl hb)).resolve_left (by simp [keys]))); have HKO := uh (Turn.keepsOthers K5 HH.out (resBx1_cells H1.out)); have Hr9 := uh hr9; clear V4 T4 K5 K3 T3 hno hr9 q0)
   | fail)
  have hce : nats ((pre ++ [x]).map (·.1)) = nats (pre.map (·.1)) ++ [.int .i64 x.1] := by rw [List.map_append, nats_append]; rfl
  have hl1 : (pre ++ [x]).length = pre.length + 1 := by simp
  refine ⟨HKO.out.from _, HK5.out, a9, p9, l9, by rw [hl1, hce]; exact Hr9.out, by omega, by rw [hl1]; exact (HT5.out.perm (l2 := [(W2.heap.size, .cells #[.int .i64 x.1] 3)] ++ (l9 ++ [(n4, .cells #[.slice a9 (pre.length + 1) p9] 38), (n4 + 1, .cells #[.pointer (some ⟨vb, 0, none⟩)] 124)])) (perm_of fun c => by simp; omega)).drop⟩
 case hdone =>
  rintro D xs W2 hD hxs ⟨ao, cap, lr, e1, e2, hT⟩ hK
  have hxl : xs.length = rs.length := by rw [hxs]; exact Hfin.out
  have hxn : nats (xs.map (·.1)) = nats rs := by
   rw [hxs]
   unfold svs
   rw [List.map_map]
   congr 1
   exact List.map_id _
  rw [hxl] at e1 e2 hT
  rw [hxn] at e1
  clear hxs hxl hxn
  have hHb : Has W2 ((n4, .cells #[.slice ao rs.length cap] 38) :: (lr ++ [(n4 + 1, .cells #[.pointer (some ⟨vb, 0, none⟩)] 124)])) := hT.has.perm (perm_of fun c => by simp; omega)
  have q0 : W2.cell? ⟨n4, 0, none⟩ = some (.slice ao rs.length cap) := hHb.cell (List.mem_cons_self ..) 0
  have f0 : W2.frozen? ⟨n4, 0, none⟩ = false := hHb.free (List.mem_cons_self ..) 0
  have HT := uh hT
  have H1 := uh e1
  have HK := uh hK
  clear hT e1 hHb hK
  gi_wp2_with fail
  have T9 := (HT.out.perm (l2 := (n4, .cells #[.slice ao rs.length cap] 38) :: (lr ++ [(n4 + 1, .cells #[.pointer (some ⟨vb, 0, none⟩)] 124)])) (perm_of fun c => by simp; omega)).setCell 0 (.slice ao rs.length cap)
  have hK5 : (W2.setCell ⟨n4, 0, none⟩ (.slice ao rs.length cap)).heap[D]? = some (.deferred (some [])) := by
   rw [Below.heap_setCell _ _ _ _ (by show D ≠ n4; omega)]
   exact HK.out
  have T10 := T9.grownB (B := W0.heap.size) hw0W (fun y hy => by
   rcases List.mem_cons.1 hy with rfl | hy
   · rfl
   rcases List.mem_append.1 hy with hy | hy
   · exact H1.out.cells y hy
   · rw [List.mem_singleton.1 hy]; rfl) (grownBy_putObj' _ D (.deferred none)) (fun r e => by cases e; exact ⟨hD, _, hK5, rfl⟩)
  have hcl : ((W2.setCell ⟨n4, 0, none⟩ (.slice ao rs.length cap)).putObj D (.deferred none)).cell? ⟨n4, 0, none⟩ = some (.slice ao rs.length cap) := T10.cell1 0
  have HT10 := uh T10
  clear T9 T10 HT q0 f0
  refine ⟨by simp, .inl ⟨_, _, rfl, run_takeDeferred hK5, ?_⟩⟩
  refine ⟨.slice ao rs.length cap, ?_, ao, cap, lr, rfl, H1.out, (HT10.out.perm (l2 := (n4, .cells #[.slice ao rs.length cap] 38) :: ((n4 + 1, .cells #[.pointer (some ⟨vb, 0, none⟩)] 124) :: lr)) (perm_of fun c => by simp; omega)).tail.tail⟩
  simp [results, Tryz.results102, go_sem, hcl]
end
section
open Go Go.RowKit Go.Shelf Go.IntWalk
attribute [local go_sem] Oper.semAt_some
abbrev Ed := Nat × Nat × Int × Nat
def edg (W A : List Nat) (c s : Nat) : Ed := (c, s, tgt A (W.getD (2 * c + 1 + s) 0), W.getD (2 * c + 1 + s) 0)
def edsOf (L : List Ty) (W A : List Nat) (c : Ce) : List Ed := ((tyAt L c.2.typ).refs c.2.len).map (edg W A c.1)
def eds (L : List Ty) (W A : List Nat) (os : List Ce) : List Ed := os.flatMap (edsOf L W A)
def edArgs (x : Ed) : Array Value := #[.agg #[.int .i64 x.1, .int .i64 x.2.1, .int .i64 x.2.2.1], .int .u64 x.2.2.2]
theorem edsOf_at {L : List Ty} {W A : List Nat} {c : Ce} {j s : Nat} (h : ((tyAt L c.2.typ).refs c.2.len)[j]? = some s) : (edsOf L W A c)[j]? = some (edg W A c.1 s) := by unfold edsOf; rw [List.getElem?_map, h]; rfl
theorem eds_next {L : List Ty} {W A : List Nat} {os : List Ce} {i : Nat} {c : Ce} (h : os[i]? = some c) : eds L W A (os.take (i + 1)) = eds L W A (os.take i) ++ edsOf L W A c := by
 rw [take_next h]
 unfold eds
 rw [List.flatMap_append]
 simp
theorem eds_split {L : List Ty} {W A : List Nat} {os : List Ce} {i j s : Nat} {c : Ce} (h : os[i]? = some c) (hj : ((tyAt L c.2.typ).refs c.2.len)[j]? = some s) :
  ∃ post, eds L W A os = (eds L W A (os.take i) ++ (edsOf L W A c).take j) ++ edg W A c.1 s :: post := by
 have h1 : eds L W A os = eds L W A (os.take i) ++ (edsOf L W A c ++ eds L W A (os.drop (i + 1))) := by
  conv => lhs; rw [← List.take_append_drop i os, drop_next h]
  unfold eds
  rw [List.flatMap_append, List.flatMap_cons]
 have h2 : edsOf L W A c = (edsOf L W A c).take j ++ edg W A c.1 s :: (edsOf L W A c).drop (j + 1) := by
  rw [← drop_nextA (edsOf_at hj), List.take_append_drop]
 refine ⟨(edsOf L W A c).drop (j + 1) ++ eds L W A (os.drop (i + 1)), ?_⟩
 rw [h1]
 conv => lhs; rw [h2]
 simp
set_option maxRecDepth 100000 in
theorem grefs_in (n : Nat) (g : Nat) (w : World) :
  CallsIn Fence.wide n Tryz.prog 147 #[.pointer (some ⟨g, 0, none⟩)] w fun e w' => e = .returned (.func (.func 202) #[] #[.pointer (some ⟨w.heap.size, 0, none⟩)]) ∧ w' = w.alloc (.cells #[.pointer (some ⟨g, 0, none⟩)] 260) := by
 have hf : Fence.wide.fn 147 := trivial
 refine callsIn_of_wp Tryz.func147 rfl hf ?_ rfl
 simp only [Tryz.ntmps147, List.size_toArray, List.length_cons, List.length_nil, Nat.reduceAdd, Nat.reduceSub, Array.replicate_succ, Array.replicate_zero, List.push_toArray, List.append_toArray, List.nil_append, List.cons_append]
 gi_wp2
 go_ret
 exact ⟨rfl, rfl⟩
structure ObIn (L : List Ty) (W : List Nat) (c : Ce) : Prop where
 obj : objq L W (c.1 : Int) = some c.2
 ty : TyIn (tyAt L c.2.typ)
 err : (tyAt L c.2.typ).err c.2.len = 0
 at_ : c.1 ≤ 65536
 in_ : ∀ s ∈ (tyAt L c.2.typ).refs c.2.len, s < (tyAt L c.2.typ).slots c.2.len ∧ 2 * c.1 + 1 + s < W.length
theorem obIn_of {L : List Ty} {W : List Nat} {cs : List Ce} (hC : Chain L W 0 cs (W.length / 2)) (hf : W.length ≤ 65536) (hTy : ∀ t ∈ L, TyIn t) {c : Ce} (hc : c ∈ objs cs) : ObIn L W c := by
 obtain ⟨h1, h2⟩ := objs_mem hc
 have hm := hC.mem c h1
 have h3 := stands_ty hm.2.2 h2 hTy
 have h4 := (stands_slots hm.2.2 h2).1
 refine ⟨objq_of hm.2.2 h2, h3.2, h3.1, by omega, fun s hs => ?_⟩
 obtain ⟨p, hp⟩ := List.mem_iff_getElem?.1 hs
 have h5 : s < (tyAt L c.2.typ).slots c.2.len := by
  unfold Ty.refs at hs
  exact List.mem_range.1 (List.mem_filter.1 hs).1
 exact ⟨h5, by omega⟩
set_option maxRecDepth 100000 in
set_option maxHeartbeats 12800000 in
theorem grefs_g (n : Nat) (hn : 2 ≤ n) (w1 : World) (a aw tb : Nat) {W : List Nat} (tao : Option Addr) (tcap : Nat) (L : List Ty) (hA : WkAt w1 a aw tb W tao tcap L) (hf : W.length ≤ 65536) (hu : ∀ v ∈ W, v < 18446744073709551616) (hTy : ∀ t ∈ L, TyIn t) (hL : L.length ≤ 1000)
  (cs : List Ce) (hC : Chain L W 0 cs (W.length / 2)) (g m Bs : Nat) (ob : Obj) (ao : Option Addr) (cap : Nat) (lr : List Blk) (en : Int) (hmo : MapObj .i64 (mpOf (ats cs)) ob) (hrow : Row 3 1 ao (ats cs).length cap (nats (ats cs)) lr)
  (XB : List Blk) (hx1 : (Bs, .cells #[.pointer (some ⟨g, 0, none⟩)] 260) ∈ XB) (hx2 : (g, .cells #[.pointer (some ⟨a, 0, none⟩), .pointer (some ⟨tb, 0, none⟩), .map (some m), .slice ao (ats cs).length cap, .int .i64 en] 334) ∈ XB) (hx3 : ∀ x ∈ lr, x ∈ XB) (hXc : ∀ x ∈ XB, x.2.isCells = true)
  (D : World → Nat → Prop) (G : World → Prop) (hGD : ∀ A, G A → ∀ b, D A b → b < A.heap.size ∧ b ∉ keys XB) (hDD : ∀ A B b, G A → Below A.heap.size A B → D B b → D A b)
  (w : World) (hw : Below w1.heap.size w1 w) (hX : ∀ x ∈ XB, w.heap[x.1]? = some x.2) (hnd : (keys lr).Nodup) (hmb : w.heap[m]? = some ob) :
  SeqG Fence.wide n Tryz.prog 202 #[.pointer (some ⟨Bs, 0, none⟩)] edArgs (fun A B => KpD w1.heap.size D A B ∧ B.heap[m]? = A.heap[m]?) (fun pre x => ∃ post, eds L W (ats cs) (objs cs) = pre ++ x :: post) (fun xs => xs = eds L W (ats cs) (objs cs)) G w := fun l J W0 hW hJ hG hY h0 => by
 have hX0 : ∀ x ∈ XB, W0.heap[x.1]? = some x.2 := fun x hx => (hW.block x.1 (lt_of_block (hX x hx))).trans (hX x hx)
 have hm0 : W0.heap[m]? = some ob := (hW.block m (lt_of_block hmb)).trans hmb
 have hw0 : Below w1.heap.size w1 W0 := hw.trans (hW.mono hw.size)
 have hFl : Fence.wide.fn 202 := trivial
 have hf1 : Fence.wide.fn 49 := trivial
 have hf2 : Fence.wide.fn 103 := trivial
 have hf3 : Fence.wide.fn 102 := trivial
 have hf4 : Fence.wide.fn 203 := trivial
 refine callsIn_of_wp Tryz.func202 rfl hFl ?_ rfl
 simp only [Tryz.ntmps202, List.size_toArray, List.length_cons, List.length_nil, Nat.reduceAdd, Nat.reduceSub, Array.replicate_succ, Array.replicate_zero, List.push_toArray, List.append_toArray, List.nil_append, List.cons_append]
 have h1 : 1 ≤ n := by omega
 have hro : Fence.wide.round = none := rfl
 have h2 : 1 ≤ n - 1 := by omega
 have Hob := uh (fun (i : Nat) (c : Ce) (hi : (objs cs)[i]? = some c) => obIn_of hC hf hTy (List.mem_of_getElem? hi))
 have Hat := uh (fun (i : Nat) (c : Ce) (hi : (objs cs)[i]? = some c) => (show (ats cs)[i]? = some c.1 by unfold ats; rw [List.getElem?_map, hi]; rfl))
 have hal : (ats cs).length = (objs cs).length := by unfold ats; rw [List.length_map]
 have hol : (objs cs).length ≤ 32768 := by
  have h5 := hC.len
  have h6 : (objs cs).length ≤ cs.length := by unfold objs; exact List.length_filter_le ..
  omega
 have Hsof := uh (fun (w' : World) (hB : Below w1.heap.size w1 w') (c : Ce) (hc : ObIn L W c) => by
  have h7 := sof w' (hA.below hB).fields (hA.below hB).ar hu L hTy hL tb tao tcap (hA.below hB).tab (c.1 : Int)
  rw [hc.obj] at h7
  exact h7)
 have Hvr := uh (fun (w' : World) (hB : Below w1.heap.size w1 w') (c : Ce) (hc : ObIn L W c) vb (hv : VwAt w' vb a c.1 c.2 (tyAt L c.2.typ)) => vrefs_all w' vb a aw c.1 W c.2 _ (hA.below hB).ar hv hc.ty hc.err hc.at_ hc.in_)
 have Hld := uh (fun (w' : World) (hB : Below w1.heap.size w1 w') (c : Ce) (hc : ObIn L W c) vb (hv : VwAt w' vb a c.1 c.2 (tyAt L c.2.typ)) s v hs hvv => vload w' (hA.below hB).ar hv hc.ty hc.err hc.at_ s v hs hvv)
 have Htg := uh (fun (w' : World) (hX' : ∀ x ∈ XB, w'.heap[x.1]? = some x.2) (hm' : w'.heap[m]? = some ob) v (hv : v < 18446744073709551616) => wtarget w' g m ob (ats cs) ((Has.one (hX' _ hx2)).cell (List.mem_cons_self ..) 2) hm' hmo v hv)
 have Hu := uh (fun (i v : Nat) (hv : W[i]? = some v) => hu v (List.mem_of_getElem? hv))
 have HY := uh hY
 have HJ := uh hJ
 have HG := uh hG
 have HJ0 := uh h0
 have Hw0 := uh hw0
 have Hm0 := uh hm0
 have Hrow := uh hrow
 have Hnd := uh hnd
 have Hen := uh (fun (i : Nat) (c : Ce) (hi : (objs cs)[i]? = some c) => eds_next (L := L) (W := W) (A := ats cs) hi)
 have Hes := uh (fun (i j s : Nat) (c : Ce) (hi : (objs cs)[i]? = some c) (hj : ((tyAt L c.2.typ).refs c.2.len)[j]? = some s) => eds_split (L := L) (W := W) (A := ats cs) hi hj)
 have HI0 := uh (fun x (hx : x ∈ XB) => (⟨hX0 x hx, fun hd => (hGD W0 (hG [] W0 h0) x.1 hd).2 (mem_keys.2 ⟨x.2, hx⟩)⟩ : W0.heap[x.1]? = some x.2 ∧ ¬ D W0 x.1))
 -- what stays, whatever list of blocks of cells is looked at
 have HKb := uh (fun (Z : List Blk) (wr w' : World) (hGr : G wr) (hz : ∀ x ∈ Z, wr.heap[x.1]? = some x.2 ∧ ¬ D wr x.1) (hB : Below wr.heap.size wr w') => (fun x hx => ⟨(hB.block x.1 (lt_of_block (hz x hx).1)).trans (hz x hx).1, fun hd => (hz x hx).2 (hDD wr w' x.1 hGr hB hd)⟩ : ∀ x ∈ Z, w'.heap[x.1]? = some x.2 ∧ ¬ D w' x.1))
 have HKk := uh (fun (Z : List Blk) (wr w' : World) (hZc : ∀ x ∈ Z, x.2.isCells = true) (hz : ∀ x ∈ Z, wr.heap[x.1]? = some x.2 ∧ ¬ D wr x.1) (k : KpD w1.heap.size D wr w') => (fun x hx => ⟨k.same x.1 x.2 (hz x hx).1 (hZc x hx) (hz x hx).2, fun hd => (hz x hx).2 (k.own x.1 (lt_of_block (hz x hx).1) hd)⟩ : ∀ x ∈ Z, w'.heap[x.1]? = some x.2 ∧ ¬ D w' x.1))
 have HXc := uh hXc
 have Hx3 := uh hx3
 have HcS := uh (fun (w' : World) (hX' : ∀ x ∈ XB, w'.heap[x.1]? = some x.2) => (⟨(Has.one (hX' _ hx1)).cell (List.mem_cons_self ..) 0, (Has.one (hX' _ hx2)).cell (List.mem_cons_self ..) 0, (Has.one (hX' _ hx2)).cell (List.mem_cons_self ..) 1, (Has.one (hX' _ hx2)).cell (List.mem_cons_self ..) 3⟩ :
  w'.cell? ⟨Bs, 0, none⟩ = some (.pointer (some ⟨g, 0, none⟩)) ∧ w'.cell? ⟨g, 0, none⟩ = some (.pointer (some ⟨a, 0, none⟩)) ∧ w'.cell? ⟨g, 1, none⟩ = some (.pointer (some ⟨tb, 0, none⟩)) ∧ w'.cell? ⟨g, 3, none⟩ = some (.slice ao (ats cs).length cap)))
 have HDn := uh (fun (wr w' : World) (hGr : G wr) (Z : List Blk) (V : Turn [] wr Z w') => (fun x hx => ⟨V.has.own x.1 x.2 hx, fun hd => by
  have h8 := (hGD wr hGr x.1 (hDD wr w' x.1 hGr V.below hd)).1
  have h9 := (V.new x.1 (mem_keys.2 ⟨x.2, hx⟩)).resolve_left (by simp [keys])
  omega⟩ : ∀ x ∈ Z, w'.heap[x.1]? = some x.2 ∧ ¬ D w' x.1))
 have c0 := HcS.out W0 hX0
 have q0 := c0.1
 have q3 := c0.2.2.2
 generalize hos : objs cs = os at *
 clear hY hJ hG hW hw hX hX0 hm0 hw0 hA hu hTy hC h0 hmo hrow hnd hmb hXc c0 hos hx1 hx2 hx3
 gi_wp2_with fail
 gi_loopw [16] (fun v16 wr => ∃ (i : Nat), i ≤ os.length ∧ v16 = .int .i64 i ∧ J (eds L W (ats cs) (os.take i)) wr ∧ Below w1.heap.size w1 wr ∧ (∀ x ∈ XB, wr.heap[x.1]? = some x.2 ∧ ¬ D wr x.1) ∧ wr.heap[m]? = some ob) (fun v16 _ => os.length - (intOf v16).toNat)
 case atStart => exact ⟨0, Nat.zero_le _, by go_num, HJ0.out, Hw0.out, HI0.out, Hm0.out⟩
 case round =>
  clear HJ0 Hw0 HI0 Hm0 q0 q3
  obtain ⟨i, hi, rfl, hJw, hwr, hIw, hmw⟩ := hrel
  by_cases hlt : i < os.length
  · have hlt' : (i : Int) < ((ats cs).length : Int) := by omega
    obtain ⟨c, hc⟩ : ∃ c, os[i]? = some c := ⟨os[i], List.getElem?_eq_getElem hlt⟩
    have hci := Hob.out i c hc
    have hsrc := Hrow.out.src (R := []) (w := wr) (by rw [List.append_nil]; exact ⟨Hnd.out, fun b o hm => (hIw (b, o) (Hx3.out _ hm)).1⟩)
    obtain ⟨b3, off3, rfl, hc3⟩ := hsrc.form (by rw [nats_length]; omega)
    have q3 := hc3 i _ (nats_at (Hat.out i c hc))
    have hGr := HG.out _ wr hJw
    have HIw := uh hIw
    have Hmw := uh hmw
    have HJw := uh hJw
    have Hwr := uh hwr
    have Hci := uh hci
    have HGr := uh hGr
    have Hc := uh hc
    clear hc hci hsrc hc3 hJw hwr hIw hmw hGr
    gi_wp2_with fail
    clear q3
    have hT0 : Turn [] wr [] wr.drew := (Turn.refl (Has.nil wr)).drew
    have HS := uh (fun (w' : World) (X : List Blk) (V : Turn [] wr X w') => by
     have h9 := HcS.out w' (fun x hx => (HKb.out _ wr w' HGr.out HIw.out V.below x hx).1)
     exact (⟨h9.1, h9.2.1, h9.2.2.1⟩ : (fun W' => W'.cell? ⟨Bs, 0, none⟩ = some (.pointer (some ⟨g, 0, none⟩)) ∧ W'.cell? ⟨g, 0, none⟩ = some (.pointer (some ⟨a, 0, none⟩)) ∧ W'.cell? ⟨g, 1, none⟩ = some (.pointer (some ⟨tb, 0, none⟩))) w'))
    have hS := HS.out _ _ hT0
    have HT0 := uh hT0
    clear hT0
    refine wpIn_region_noPanic ?_
    refine wpIn_region_listedHI (S := fun W' => W'.cell? ⟨Bs, 0, none⟩ = some (.pointer (some ⟨g, 0, none⟩)) ∧ W'.cell? ⟨g, 0, none⟩ = some (.pointer (some ⟨a, 0, none⟩)) ∧ W'.cell? ⟨g, 1, none⟩ = some (.pointer (some ⟨tb, 0, none⟩))) 15 [false, false, false, false, false, false, false, false, false, false, false, false, false, false, false] rfl rfl (by kernel_rfl) ?_
    refine takeGI 0 21 hro rfl rfl (by rfl) (by kernel_rfl) (by kernel_rfl) (by kernel_rfl) (fun _ _ _ _ h => h) hS (fun _ => rfl) (by (intro w hSw; have hc := hSw.1; clear hSw; go_simp; try rfl)) ?_
    simp only [st1, st2]
    refine takeGI 1 22 hro rfl rfl (by rfl) (by kernel_rfl) (by kernel_rfl) (by kernel_rfl) (fun _ _ _ _ h => h) hS (fun _ => rfl) (by (intro w hSw; clear hSw; go_simp; try rfl)) ?_
    simp only [st1, st2]
    refine takeGI 2 23 hro rfl rfl (by rfl) (by kernel_rfl) (by kernel_rfl) (by kernel_rfl) (fun _ _ _ _ h => h) hS (fun _ => rfl) (by (intro w hSw; clear hSw; go_simp; try rfl)) ?_
    simp only [st1, st2]
    refine takeGI 3 24 hro rfl rfl (by rfl) (by kernel_rfl) (by kernel_rfl) (by kernel_rfl) (fun _ _ _ _ h => h) hS (fun _ => rfl) (by (intro w hSw; have hc := hSw.2.1; clear hSw; go_simp; try rfl)) ?_
    simp only [st1, st2]
    refine takeGI 4 25 hro rfl rfl (by rfl) (by kernel_rfl) (by kernel_rfl) (by kernel_rfl) (fun _ _ _ _ h => h) hS (fun _ => rfl) (by (intro w hSw; have hc := hSw.1; clear hSw; go_simp; try rfl)) ?_
    simp only [st1, st2]
    refine takeGI 5 26 hro rfl rfl (by rfl) (by kernel_rfl) (by kernel_rfl) (by kernel_rfl) (fun _ _ _ _ h => h) hS (fun _ => rfl) (by (intro w hSw; clear hSw; go_simp; try rfl)) ?_
    simp only [st1, st2]
    refine takeGI 6 27 hro rfl rfl (by rfl) (by kernel_rfl) (by kernel_rfl) (by kernel_rfl) (fun _ _ _ _ h => h) hS (fun _ => rfl) (by (intro w hSw; clear hSw; go_simp; try rfl)) ?_
    simp only [st1, st2]
    refine takeGI 7 28 hro rfl rfl (by rfl) (by kernel_rfl) (by kernel_rfl) (by kernel_rfl) (fun _ _ _ _ h => h) hS (fun _ => rfl) (by (intro w hSw; have hc := hSw.2.2; clear hSw; go_simp; try rfl)) ?_
    simp only [st1, st2]
    refine takeGI 8 29 hro rfl rfl (by rfl) (by kernel_rfl) (by kernel_rfl) (by kernel_rfl) (fun _ _ _ _ h => h) hS (fun _ => rfl) (by (intro w hSw; clear hSw; go_simp; try rfl)) ?_
    simp only [st1, st2]
    refine wpAnyHI_call (i := 9) (by kernel_rfl) rfl (fun K hK => ?_)
    go_simp
    refine (callsIn_wide.2 (Hsof.out _ (Hwr.out.trans (HT0.out.below.mono Hwr.out.size)) c Hci.out)).mono ?_
    rintro e w3 ⟨vb, rfl, T3⟩
    have T4 : Turn [] wr [(vb, .cells (viewCells a c.1 c.2 (tyAt L c.2.typ)).toArray 238)] w3 := HT0.out.trans T3
    have hS3 := HS.out _ _ T4
    have HT4 := uh T4
    refine hK.out _ _ hS3 ?_
    clear hK K T3 T4 hS
    simp only [st0, st1, st2]
    refine takeGI 10 20 hro rfl rfl (by rfl) (by kernel_rfl) (by kernel_rfl) (by kernel_rfl) (fun _ _ _ _ h => h) hS3 (fun _ => rfl) (by (intro w hSw; clear hSw; go_simp; try rfl)) ?_
    simp only [st1, st2]
    refine takeGI 11 31 hro rfl rfl (by rfl) (by kernel_rfl) (by kernel_rfl) (by kernel_rfl) (fun _ _ _ _ h => h) hS3 (fun _ => rfl) (by (intro w hSw; clear hSw; go_simp; try rfl)) ?_
    simp only [st1, st2]
    refine takeGI 12 32 hro rfl rfl (by rfl) (by kernel_rfl) (by kernel_rfl) (by kernel_rfl) (fun _ _ _ _ h => h) hS3 (fun _ => rfl) (by (intro w hSw; clear hSw; go_simp; try rfl)) ?_
    simp only [st1, st2]
    refine takeGI 13 5 hro rfl rfl (by rfl) (by kernel_rfl) (by kernel_rfl) (by kernel_rfl) (fun _ _ _ _ h => h) hS3 (fun _ => rfl) (by (intro w hSw; clear hSw; go_simp; try rfl)) ?_
    simp only [st1, st2]
    refine takeGI 14 6 hro rfl rfl (by rfl) (by kernel_rfl) (by kernel_rfl) (by kernel_rfl) (fun _ _ _ _ h => h) hS3 (fun _ => rfl) (by (intro w hSw; clear hSw; go_simp; try rfl)) ?_
    simp only [st1, st2]
    refine wpAnyHI_done (by kernel_rfl) ?_ _
    refine NoPanic.normal ?_
    clear hS3 HS HT0
    have hv : VwAt w3 vb a c.1 c.2 (tyAt L c.2.typ) := HT4.out.range1
    have HVR := uh (Hvr.out w3 (Hwr.out.trans (HT4.out.below.mono Hwr.out.size)) c Hci.out vb hv)
    clear hv
    gi_wp2_with fail
    refine (callsIn_wide.2 HVR.out).mono ?_
    rintro e w5 ⟨a15, p15, l15, rfl, hr15, T5⟩
    have HT5 := uh (HT4.out.grow T5)
    have Hr15 := uh hr15
    obtain ⟨Z, hZ⟩ : ∃ Z, Z = l15 ++ ((vb, .cells (viewCells a c.1 c.2 (tyAt L c.2.typ)).toArray 238) :: (XB)) := ⟨_, rfl⟩
    have HZ := uh hZ
    have hZc : ∀ x ∈ Z, x.2.isCells = true := by
     intro x hx
     rw [hZ] at hx
     rcases List.mem_append.1 hx with hx | hx
     · exact hr15.cells x hx
     rcases List.mem_cons.1 hx with rfl | hx
     · rfl
     · exact HXc.out x hx
    have HZc := uh hZc
    have HI5 := uh (show ∀ x ∈ Z, w5.heap[x.1]? = some x.2 ∧ ¬ D w5 x.1 from by
     intro x hx
     rw [hZ] at hx
     rcases List.mem_append.1 hx with hx | hx
     · exact HDn.out wr w5 HGr.out _ HT5.out x (by simp [hx])
     rcases List.mem_cons.1 hx with rfl | hx
     · exact HDn.out wr w5 HGr.out _ HT5.out _ (by simp)
     · exact HKb.out _ wr w5 HGr.out HIw.out HT5.out.below x hx)
    have HJ5 := uh (HJ.out _ wr w5 none HJw.out (below_grownBy HT5.out.below) (fun r e => by cases e))
    have Hw5 := uh (Hwr.out.trans (HT5.out.below.mono Hwr.out.size))
    have Hm5 := uh ((HT5.out.below.block m (lt_of_block Hmw.out)).trans Hmw.out)
    have Hnd15 := uh (show (keys l15).Nodup from by
     have h9 := HT5.out.has.nd
     rw [keys_append, List.nodup_append] at h9
     exact h9.1)
    have hrl : ((tyAt L c.2.typ).refs c.2.len).length ≤ 65536 := by
     have h1 := refsTo_len (tyAt L c.2.typ) ((tyAt L c.2.typ).slots c.2.len)
     have h2 : (tyAt L c.2.typ).refs c.2.len = refsTo (tyAt L c.2.typ) ((tyAt L c.2.typ).slots c.2.len) := rfl
     obtain ⟨hm9, -, hn9, -⟩ := err_ok.1 Hci.out.err
     have := slots_most hm9 (n := c.2.len) (by omega)
     rw [h2]
     omega
    clear hr15 T5 hZ hZc HVR HT4 HT5 HIw Hmw HJw Hwr HGr
    gi_wp2_with fail
    gi_loopw [38] (fun v38 wr => ∃ (j : Nat), j ≤ ((tyAt L c.2.typ).refs c.2.len).length ∧ v38 = .int .i64 j ∧ J (eds L W (ats cs) (os.take i) ++ (edsOf L W (ats cs) c).take j) wr ∧ Below w1.heap.size w1 wr ∧ (∀ x ∈ Z, wr.heap[x.1]? = some x.2 ∧ ¬ D wr x.1) ∧ wr.heap[m]? = some ob) (fun v38 _ => ((tyAt L c.2.typ).refs c.2.len).length - (intOf v38).toNat)
    case atStart => exact ⟨0, Nat.zero_le _, by go_num, by rw [List.take_zero, List.append_nil]; exact HJ5.out, Hw5.out, HI5.out, Hm5.out⟩
    case round =>
     clear HJ5 Hw5 HI5 Hm5
     obtain ⟨j, hj, rfl, hJq, hwr, hIq, hmq⟩ := hrel
     by_cases hltj : j < ((tyAt L c.2.typ).refs c.2.len).length
     · have hltj' : (j : Int) < (((tyAt L c.2.typ).refs c.2.len).length : Int) := by omega
       obtain ⟨s, hs⟩ : ∃ s, ((tyAt L c.2.typ).refs c.2.len)[j]? = some s := ⟨((tyAt L c.2.typ).refs c.2.len)[j], List.getElem?_eq_getElem hltj⟩
       have hin := Hci.out.in_ s (List.mem_of_getElem? hs)
       obtain ⟨v, hvv⟩ : ∃ v, W[2 * c.1 + 1 + s]? = some v := ⟨W[2 * c.1 + 1 + s]'(hin.2), List.getElem?_eq_getElem _⟩
       have hvg : W.getD (2 * c.1 + 1 + s) 0 = v := by rw [List.getD_eq_getElem?_getD, hvv]; rfl
       have hsrc := Hr15.out.src (R := []) (w := wr) (by rw [List.append_nil]; exact ⟨Hnd15.out, fun b o hm => (hIq (b, o) (by rw [HZ.out]; simp [hm])).1⟩)
       obtain ⟨b15, off15, rfl, hc15⟩ := hsrc.form (by rw [nats_length]; omega)
       have q15 := hc15 j _ (nats_at hs)
       have hvq : VwAt wr vb a c.1 c.2 (tyAt L c.2.typ) := (Has.one (hIq (vb, .cells (viewCells a c.1 c.2 (tyAt L c.2.typ)).toArray 238) (by rw [HZ.out]; simp)).1).range (List.mem_cons_self ..)
       have HL := uh (Hld.out wr hwr c Hci.out vb hvq s v hin.1 hvv)
       have hGq := HG.out _ wr hJq
       have hspl := Hes.out i j s c Hc.out hs
       have hedg : edg W (ats cs) c.1 s = (c.1, s, tgt (ats cs) v, v) := by unfold edg; rw [hvg]
       rw [hedg] at hspl
       have hnx : (edsOf L W (ats cs) c).take (j + 1) = (edsOf L W (ats cs) c).take j ++ [(c.1, s, tgt (ats cs) v, v)] := by rw [take_nextA (edsOf_at hs), hedg]
       have HNx := uh hnx
       have HY2 := uh (fun W1 => HY.out _ (c.1, s, tgt (ats cs) v, v) W1 hspl)
       unfold edArgs at HY2
       have HTg := uh (fun (w' : World) (hB : Below wr.heap.size wr w') => Htg.out w' (fun x hx => (HKb.out Z wr w' hGq hIq hB x (by rw [HZ.out]; simp only [List.mem_append, List.mem_cons] at hx ⊢; exact .inr (.inr hx))).1) ((hB.block m (lt_of_block hmq)).trans hmq) v (Hu.out _ v hvv))
       have HB1 := uh (fun (w' : World) (hB : Below wr.heap.size wr w') => (HcS.out w' (fun x hx => (HKb.out Z wr w' hGq hIq hB x (by rw [HZ.out]; simp only [List.mem_append, List.mem_cons] at hx ⊢; exact .inr (.inr hx))).1)).1)
       have HJq := uh hJq
       have HK := uh (fun (w' w8 : World) (hB : Below wr.heap.size wr w') (k : KpD w1.heap.size D w' w8 ∧ w8.heap[m]? = w'.heap[m]?) => (⟨(hwr.trans (hB.mono hwr.size)).trans k.1.below, HKk.out Z w' w8 HZc.out (HKb.out Z wr w' hGq hIq hB) k.1, k.2.trans ((hB.block m (lt_of_block hmq)).trans hmq)⟩ :
        Below w1.heap.size w1 w8 ∧ (∀ x ∈ Z, w8.heap[x.1]? = some x.2 ∧ ¬ D w8 x.1) ∧ w8.heap[m]? = some ob))
       clear hs hin hvv hvg hsrc hc15 hvq hGq hspl hedg hnx hJq hwr hIq hmq
       gi_wp2_with (first
        | (gi_at_call 103; refine (callsIn_wide.2 HL.out).mono ?_; rintro e w6 ⟨rfl, hB6⟩; have HB6 := uh hB6; have q0 := HB1.out w6 hB6; have HT6 := uh (HTg.out w6 hB6); obtain ⟨fn, tmps, assign, body, hy, hR⟩ := HY2.out _ (HJ.out _ wr _ none HJq.out (below_grownBy hB6) (fun r e => by cases e)); have HR := uh hR; clear hR hB6 HL q15)
        | (gi_at_call 203; refine (callsIn_wide.2 HT6.out).mono ?_; rintro e w7 ⟨rfl, hw7⟩; subst hw7; clear HT6 q0)
        | fail)
       refine HR.out.mono ?_
       rintro e w8 ⟨rfl, hJ8, hk8⟩
       have HN := uh (HK.out _ _ HB6.out hk8)
       have HJ8 := uh hJ8
       clear hJ8 hk8 HR hy HK HY2 HB6
       gi_wp2_with fail
       go_roundw
       case rel => exact ⟨j + 1, by omega, by go_num, by rw [HNx.out, ← List.append_assoc]; exact HJ8.out, HN.out.1, HN.out.2.1, HN.out.2.2⟩
       case measure => simp [intOf]; omega
     · obtain rfl : j = ((tyAt L c.2.typ).refs c.2.len).length := by omega
       have hnl : ¬ ((((tyAt L c.2.typ).refs c.2.len).length : Nat) : Int) < (((tyAt L c.2.typ).refs c.2.len).length : Int) := by omega
       have hJ9 : J (eds L W (ats cs) (os.take (i + 1))) wr := by
        rw [Hen.out i c Hc.out]
        have h9 : (edsOf L W (ats cs) c).length = ((tyAt L c.2.typ).refs c.2.len).length := by unfold edsOf; rw [List.length_map]
        rw [← h9, List.take_length] at hJq
        exact hJq
       have HR := uh (⟨hJ9, hwr, fun x hx => hIq x (by rw [HZ.out]; simp [hx]), hmq⟩ : J (eds L W (ats cs) (os.take (i + 1))) wr ∧ Below w1.heap.size w1 wr ∧ (∀ x ∈ XB, wr.heap[x.1]? = some x.2 ∧ ¬ D wr x.1) ∧ wr.heap[m]? = some ob)
       clear hJ9 hJq hwr hIq hmq
       gi_wp2_with fail
       go_roundw
       case rel => exact ⟨i + 1, by omega, by go_num, HR.out.1, HR.out.2.1, HR.out.2.2.1, HR.out.2.2.2⟩
       case measure => simp [intOf]; omega
  · obtain rfl : i = os.length := by omega
    have hnl : ¬ ((os.length : Nat) : Int) < (os.length : Int) := by omega
    have HX := uh (show J (eds L W (ats cs) os) wr by rw [List.take_length] at hJw; exact hJw)
    clear hJw hwr hIw hmw
    gi_wp2_with fail
    go_end0
    exact ⟨⟨_, rfl⟩, HX.out⟩
end
section
open Go Go.RowKit Go.Shelf Go.IntWalk
attribute [local go_sem] Oper.semAt_some
def lvs (x : Ed) : Bool := decide (0 ≤ x.2.2.1)
def edCells (x : Ed) : List Value := [.int .i64 x.1, .int .i64 x.2.1, .int .i64 x.2.2.1]
def edgs (l : List Ed) : List Value := l.flatMap edCells
theorem edgs_append (a b : List Ed) : edgs (a ++ b) = edgs a ++ edgs b := by simp [edgs]
theorem el_edge : Elem Tryz.prog 137 264 3 24 (.agg #[.int .i64 0, .int .i64 0, .int .i64 0]) := Elem.of Tryz.underlying137 (by kernel_rfl) rfl
theorem sz_edge : (Tryz.prog.info? 264).map (·.size) = some 3 := by kernel_rfl
theorem eds_len {L : List Ty} {W A : List Nat} {os : List Ce} (h : ∀ c ∈ os, ((tyAt L c.2.typ).refs c.2.len).length ≤ 65536) : (eds L W A os).length ≤ os.length * 65536 := by
 induction os with
 | nil => simp [eds]
 | cons c os ih =>
  have h1 := h c (List.mem_cons_self ..)
  have h2 := ih fun d hd => h d (List.mem_cons_of_mem _ hd)
  have h3 : (eds L W A (c :: os)).length = ((tyAt L c.2.typ).refs c.2.len).length + (eds L W A os).length := by
   unfold eds edsOf
   rw [List.flatMap_cons, List.length_append, List.length_map]
  rw [h3, List.length_cons, Nat.succ_mul]
  omega
def edgesOf (L : List Ty) (W : List Nat) (cs : List Ce) : Nat := ((eds L W (ats cs) (objs cs)).filter lvs).length
theorem filter_le (l : List Ed) : (l.filter lvs).length ≤ l.length := List.length_filter_le ..
theorem filter_snoc (l : List Ed) (x : Ed) : (l ++ [x]).filter lvs = l.filter lvs ++ if lvs x = true then [x] else [] := by
 rw [List.filter_append]
 congr 1
 by_cases h : lvs x = true
 · rw [if_pos h, List.filter_cons_of_pos h]; rfl
 · rw [if_neg h, List.filter_cons_of_neg h]; rfl
set_option maxRecDepth 100000 in
set_option maxHeartbeats 12800000 in
theorem wedges (w : World) (sb a aw tb : Nat) {W : List Nat} (tao : Option Addr) (tcap : Nat) (L : List Ty) (hA : SpAt w sb a aw tb W tao tcap L) (hf : W.length ≤ 65536) (hu : ∀ v ∈ W, v < 18446744073709551616) (hTy : ∀ t ∈ L, TyIn t) (hL : L.length ≤ 1000)
  (cs : List Ce) (hC : Chain L W 0 cs (W.length / 2)) :
  Calls Tryz.prog 60 #[.pointer (some ⟨sb, 0, none⟩)] w fun e w' => ∃ ao cap l, e = .returned (.slice ao (edgesOf L W cs) cap) ∧ Turn [] w l w' := by
 refine (callsIn_wide (n := 6)).1 ?_
 have h3 : Fence.wide.fn 60 := trivial
 have h6 : Fence.wide.fn 147 := trivial
 have h7 : Fence.wide.fn 202 := trivial
 have h8 : Fence.wide.fn 146 := trivial
 have h9 : Fence.wide.fn 44 := trivial
 have h10 : Fence.wide.fn 101 := trivial
 have hro : Fence.wide.round = none := rfl
 have h1 : 1 ≤ 6 := by omega
 have hel : (eds L W (ats cs) (objs cs)).length ≤ 2147483648 := by
  have h5 := hC.len
  have h6 : (objs cs).length ≤ cs.length := by unfold objs; exact List.length_filter_le ..
  have h7 := eds_len (L := L) (W := W) (A := ats cs) (os := objs cs) (fun c hc => by
   have hi := obIn_of hC hf hTy hc
   have h1 := refsTo_len (tyAt L c.2.typ) ((tyAt L c.2.typ).slots c.2.len)
   have h2 : (tyAt L c.2.typ).refs c.2.len = refsTo (tyAt L c.2.typ) ((tyAt L c.2.typ).slots c.2.len) := rfl
   obtain ⟨hm9, -, hn9, -⟩ := err_ok.1 hi.err
   have := slots_most hm9 (n := c.2.len) (by omega)
   rw [h2]
   omega)
  omega
 refine callsIn_of_wp_marks Tryz.func60 rfl h3 ?_ hro
 simp only [Tryz.ntmps60, List.size_toArray, List.length_cons, List.length_nil, Nat.reduceAdd, Nat.reduceSub, Array.replicate_succ, Array.replicate_zero, List.push_toArray, List.append_toArray, List.nil_append, List.cons_append]
 have hWk : WkAt w a aw tb W tao tcap L := ⟨hA.ar, hA.tab, hA.fields⟩
 have HIt := uh (fun g m Bs ob ao cap lr en hmo hrow XB hx1 hx2 hx3 hXc D G hGD hDD w0 hw hX hnd hmb => grefs_g (6 - 1) (by omega) w a aw tb tao tcap L hWk hf hu hTy hL cs hC g m Bs ob ao cap lr en hmo hrow XB hx1 hx2 hx3 hXc D G hGD hDD w0 hw hX hnd hmb)
 have hT0 := (Turn.refl (Has.nil w)).alloc (.cells #[.slice none 0 0] 137)
 have q0 := (hA.below (hT0.below.mono (Nat.le_refl _))).c0
 have q1 := (hA.below (hT0.below.mono (Nat.le_refl _))).c1
 have HTh := uh (wthrough _ a aw tb tao tcap L (hWk.below hT0.below) hf hu hTy hL cs hC)
 have HT0 := uh hT0
 have Har := uh (fun w' (q : w'.cell? ⟨sb, 0, none⟩ = some (.pointer (some ⟨a, 0, none⟩))) => sarena w' (a := ⟨a, 0, none⟩) rfl q)
 have Hta := uh (fun w' (q : w'.cell? ⟨sb, 1, none⟩ = some (.pointer (some ⟨tb, 0, none⟩))) => stable w' (a := ⟨tb, 0, none⟩) rfl q)
 clear hA hC hu hTy hWk hT0
 gi_wp2_with (first
  | (gi_at_call 44; refine (callsIn_wide.2 (Har.out _ q0)).mono ?_; rintro e w' ⟨rfl, hw⟩; rw [hw]; clear hw w')
  | (gi_at_call 101; refine (callsIn_wide.2 (Hta.out _ q1)).mono ?_; rintro e w' ⟨rfl, hw⟩; rw [hw]; clear hw w')
  | fail)
 refine (callsIn_wide.2 HTh.out).mono ?_
 rintro e w3 ⟨g, m, ob, go_, gcap, lg, rfl, hmo, hrg, T3⟩
 have T4 := (HT0.out.grow T3)
 have HT4 := uh T4
 have Hmo := uh hmo
 have Hrg := uh hrg
 clear T3 T4 hmo hrg HTh q0 q1
 gi_wp2_with (first
  | (gi_at_call 147; refine (grefs_in (6 - 1) g _).mono ?_; rintro e w' ⟨rfl, hw⟩; rw [hw]; clear hw w')
  | fail)
 obtain ⟨n4, hn4⟩ : ∃ n4, w.heap.size = n4 := ⟨_, rfl⟩
 have T5 := HT4.out.alloc (.cells #[.pointer (some ⟨g, 0, none⟩)] 260)
 generalize (w3.alloc (.cells #[.pointer (some ⟨g, 0, none⟩)] 260)) = W0 at T5 ⊢
 generalize w3.heap.size = Bs at T5 ⊢
 rw [hn4] at T5 ⊢
 have hw0W : w.heap.size ≤ W0.heap.size := T5.size
 have R8 : Below w.heap.size w W0 := T5.below
 have T8 : Turn [] w ([] ++ ((n4, .cells #[.slice none 0 0] 137) :: ((Bs, .cells #[.pointer (some ⟨g, 0, none⟩)] 260) :: (g, .cells #[.pointer (some ⟨a, 0, none⟩), .pointer (some ⟨tb, 0, none⟩), .map (some m), .slice go_ (ats cs).length gcap, .int .i64 (endOf 0 cs : Nat)] 334) :: (m, ob) :: lg))) W0 := T5.perm (perm_of fun c => by simp <;> omega)
 have hmW : m < W0.heap.size := T8.has.lt (by simp [keys])
 have hn4W : n4 < W0.heap.size := T8.has.lt (by simp [keys])
 clear T5 HT0 HT4
 have hXc : ∀ x ∈ (((Bs, .cells #[.pointer (some ⟨g, 0, none⟩)] 260) : Blk) :: (g, .cells #[.pointer (some ⟨a, 0, none⟩), .pointer (some ⟨tb, 0, none⟩), .map (some m), .slice go_ (ats cs).length gcap, .int .i64 (endOf 0 cs : Nat)] 334) :: lg), x.2.isCells = true := by
  intro x hx
  rcases List.mem_cons.1 hx with rfl | hx
  · rfl
  rcases List.mem_cons.1 hx with rfl | hx
  · rfl
  · exact Hrg.out.cells x hx
 have hX : ∀ x ∈ (((Bs, .cells #[.pointer (some ⟨g, 0, none⟩)] 260) : Blk) :: (g, .cells #[.pointer (some ⟨a, 0, none⟩), .pointer (some ⟨tb, 0, none⟩), .map (some m), .slice go_ (ats cs).length gcap, .int .i64 (endOf 0 cs : Nat)] 334) :: lg), W0.heap[x.1]? = some x.2 := fun x hx => T8.has.own x.1 x.2 (by
  simp only [List.mem_cons, List.nil_append] at hx ⊢
  rcases hx with h | h | h
  · exact .inr (.inl h)
  · exact .inr (.inr (.inl h))
  · exact .inr (.inr (.inr (.inr h))))
 have hmb : W0.heap[m]? = some ob := T8.has.own m ob (by simp)
 have hnd : (keys lg).Nodup := by
  have h9 := T8.has.nd
  simp only [List.nil_append, keys_cons, List.nodup_cons] at h9
  exact h9.2.2.2.2
 have hAc : ∀ (lr : List Blk) (ao : Option Addr) (k cap : Nat), (∀ x ∈ lr, x.2.isCells = true) → ∀ x ∈ lr ++ (((n4, .cells #[.slice ao k cap] 137) : Blk) :: ((Bs, .cells #[.pointer (some ⟨g, 0, none⟩)] 260) :: (g, .cells #[.pointer (some ⟨a, 0, none⟩), .pointer (some ⟨tb, 0, none⟩), .map (some m), .slice go_ (ats cs).length gcap, .int .i64 (endOf 0 cs : Nat)] 334) :: (m, ob) :: lg)), x.2.isCells = true ∨ x.1 < W0.heap.size := fun lr ao k cap hl x hx => by
  simp only [List.mem_cons, List.mem_append] at hx
  rcases hx with hx | rfl | rfl | rfl | rfl | hx
  · exact .inl (hl x hx)
  · exact .inl rfl
  · exact .inl rfl
  · exact .inl rfl
  · exact .inr hmW
  · exact .inl (Hrg.out.cells x hx)
 have hGI : ∀ (lr : List Blk) (ao : Option Addr) (k cap : Nat) (xs : List Value) (W' : World), Row 264 3 ao k cap xs lr → Turn [] w (lr ++ ((n4, .cells #[.slice ao k cap] 137) :: ((Bs, .cells #[.pointer (some ⟨g, 0, none⟩)] 260) :: (g, .cells #[.pointer (some ⟨a, 0, none⟩), .pointer (some ⟨tb, 0, none⟩), .map (some m), .slice go_ (ats cs).length gcap, .int .i64 (endOf 0 cs : Nat)] 334) :: (m, ob) :: lg))) W' → ∀ b, ResD n4 W' b → b < W'.heap.size ∧ b ∉ keys (((Bs, .cells #[.pointer (some ⟨g, 0, none⟩)] 260) : Blk) :: (g, .cells #[.pointer (some ⟨a, 0, none⟩), .pointer (some ⟨tb, 0, none⟩), .map (some m), .slice go_ (ats cs).length gcap, .int .i64 (endOf 0 cs : Nat)] 334) :: lg) := fun lr ao k cap xs W' hr T b hb => by
  have hnd := T.has.nd
  rw [keys_append, List.nodup_append] at hnd
  have hnr := hnd.2.1
  rw [keys_cons, List.nodup_cons] at hnr
  rcases hb with rfl | ⟨k', cap', t, hb⟩
  · refine ⟨T.has.lt (by simp [keys]), fun hm => hnr.1 ?_⟩
    simp only [keys_cons, List.mem_cons] at hm ⊢
    rcases hm with h | h | h
    · exact .inl h
    · exact .inr (.inl h)
    · exact .inr (.inr (.inr h))
  · rw [T.has.own n4 _ (by simp : (n4, Obj.cells #[.slice ao k cap] 137) ∈ _)] at hb
    simp only [Option.some.injEq, Obj.cells.injEq, Array.mk.injEq, List.cons.injEq, Value.slice.injEq] at hb
    obtain ⟨⟨⟨rfl, rfl, rfl⟩, -⟩, -⟩ := hb
    rcases hr.2.2.2 with ⟨h2, -⟩ | ⟨q, cur, h2, rfl, -⟩
    · cases h2
    · cases h2
      refine ⟨T.has.lt (by simp [keys]), fun hm => hnd.2.2 b (by simp [keys]) b ?_ rfl⟩
      simp only [keys_cons, List.mem_cons] at hm ⊢
      rcases hm with h | h | h
      · exact .inr (.inl h)
      · exact .inr (.inr (.inl h))
      · exact .inr (.inr (.inr (.inr h)))
 generalize hE : eds L W (ats cs) (objs cs) = E at *
 apply wpIn_rangeFunc_g (β := Nat) hro h1 (gf := 202) (lb := #[.pointer (some ⟨Bs, 0, none⟩)]) rfl h7 (enters_of Tryz.func202 (by kernel_rfl) rfl)
  (HIt.out g m Bs ob go_ gcap lg (endOf 0 cs : Nat) Hmo.out Hrg.out (((Bs, .cells #[.pointer (some ⟨g, 0, none⟩)] 260) : Blk) :: (g, .cells #[.pointer (some ⟨a, 0, none⟩), .pointer (some ⟨tb, 0, none⟩), .map (some m), .slice go_ (ats cs).length gcap, .int .i64 (endOf 0 cs : Nat)] 334) :: lg) (List.mem_cons_self ..) (by simp) (fun x hx => by simp [hx]) hXc (ResD n4) (fun A => ∀ b, ResD n4 A b → b < A.heap.size ∧ b ∉ keys (((Bs, .cells #[.pointer (some ⟨g, 0, none⟩)] 260) : Blk) :: (g, .cells #[.pointer (some ⟨a, 0, none⟩), .pointer (some ⟨tb, 0, none⟩), .map (some m), .slice go_ (ats cs).length gcap, .int .i64 (endOf 0 cs : Nat)] 334) :: lg)) (fun A h => h) (fun A B b hg hB h => by
    rcases h with h | ⟨k, cap, t, h⟩
    · exact .inl h
    · refine .inr ⟨k, cap, t, ?_⟩
      rw [← hB.block n4 (hg n4 (.inl rfl)).1]
      exact h) W0 R8 hX hnd hmb)
  (fun h k => ⟨h.1.t k.1, k.2.trans h.2⟩) (fun W l o o' hl hlo hc hw => ⟨KpD.b (by omega) (fun W l o' hl b => ResD.put (by omega) o') W l o o' hl hlo hc hw, World.putObj_heap_other (by omega)⟩) (Below.refl _ _) (fun _ => rfl)
  (fun pre W' => ∃ ao cap lr, Row 264 3 ao (pre.filter lvs).length cap (edgs (pre.filter lvs)) lr ∧ pre.length ≤ 2147483648 ∧ Turn [] w (lr ++ ((n4, .cells #[.slice ao (pre.filter lvs).length cap] 137) :: ((Bs, .cells #[.pointer (some ⟨g, 0, none⟩)] 260) :: (g, .cells #[.pointer (some ⟨a, 0, none⟩), .pointer (some ⟨tb, 0, none⟩), .map (some m), .slice go_ (ats cs).length gcap, .int .i64 (endOf 0 cs : Nat)] 334) :: (m, ob) :: lg))) W')
  (fun x nb pre W' => ∃ ao cap lr, Row 264 3 ao (pre.filter lvs).length cap (edgs (pre.filter lvs)) lr ∧ pre.length + 1 ≤ 2147483648 ∧ Turn [] w ((nb, .cells #[.int .i64 x.1, .int .i64 x.2.1, .int .i64 x.2.2.1] 264) :: (lr ++ ((n4, .cells #[.slice ao (pre.filter lvs).length cap] 137) :: ((Bs, .cells #[.pointer (some ⟨g, 0, none⟩)] 260) :: (g, .cells #[.pointer (some ⟨a, 0, none⟩), .pointer (some ⟨tb, 0, none⟩), .map (some m), .slice go_ (ats cs).length gcap, .int .i64 (endOf 0 cs : Nat)] 334) :: (m, ob) :: lg)))) W')
  (fun s A D row ⟨ao, cap, lr, e1, e2, hT⟩ hg hr => ⟨ao, cap, lr, e1, e2, hT.grownC hw0W (hAc lr ao _ cap e1.cells) hg hr⟩)
  (fun x nb s A D row ⟨ao, cap, lr, e1, e2, hT⟩ hg hr => ⟨ao, cap, lr, e1, e2, hT.grownC hw0W (by
    intro y hy
    rcases List.mem_cons.1 hy with rfl | hy
    · exact .inl rfl
    · exact hAc lr ao _ cap e1.cells y hy) hg hr⟩)
  ⟨none, 0, [], Row.nil _ _, by simp, T8⟩
  (fun pre W' ⟨ao, cap, lr, e1, e2, hT⟩ => hGI lr ao _ cap _ W' e1 hT)
 case hassign =>
  rintro l1 pre x W2 ⟨post, hnx⟩ ⟨ao, cap, lr, e1, e2, hT⟩
  have hpl : pre.length + 1 ≤ 2147483648 := by rw [hnx, List.length_append, List.length_cons] at hel; omega
  have T2 := hT.alloc (.cells #[.int .i64 0, .int .i64 0, .int .i64 0] 264)
  have hth : (W2.alloc (.cells #[.int .i64 0, .int .i64 0, .int .i64 0] 264)).there W2.heap.size 0 3 := T2.there1
  have HT2 := uh (T2.laid [.int .i64 x.1, .int .i64 x.2.1, .int .i64 x.2.2.1] rfl)
  have HX := uh (((Turn.refl (Has.nil W2)).alloc (.cells #[.int .i64 0, .int .i64 0, .int .i64 0] 264)).laid [.int .i64 x.1, .int .i64 x.2.1, .int .i64 x.2.2.1] rfl)
  have hszC := sz_edge
  have hoC : (#[.int .i64 x.1, .int .i64 x.2.1, .int .i64 x.2.2.1] : Array Value).all (·.oneCell') = true := all_one (cs := [.int .i64 x.1, .int .i64 x.2.1, .int .i64 x.2.2.1]) (by simp [Value.oneCell'])
  have hGb := hGI lr ao _ cap _ W2 e1 hT
  have hmW2 : m < W2.heap.size := hT.has.lt (by simp [keys])
  have HE := uh e1
  have hw2 := hT.size
  unfold edArgs
  clear T2 hnx hT e1
  gi_wp2_with (first
   | (show wpListIn _ _ _ _ _ (⟨_, Op.store 264 _ _, _, _, _, _⟩ :: _) _ _; refine wpListIn_by (follows_round _ _ _) rfl (by intro c h; cases h) (wp_store_mid 264 _ _ rfl _ 0 #[.int .i64 x.1, .int .i64 x.2.1, .int .i64 x.2.2.1] rfl rfl hth hszC hoC ?_); clear hth)
   | fail)
  have HK := uh (⟨((KeepsOthers.alloc _ _).trans (keepsOthers_setCells _ _ _)).from _, KpD.of HX.out (by omega) (fun b hb => by cases hb) (fun b hb hd => by
    rcases hd with h | ⟨k, cap, t, h⟩
    · exact .inl h
    · refine .inr ⟨k, cap, t, ?_⟩
      rw [← HX.out.below.block n4 (hGb n4 (.inl rfl)).1]
      exact h), HX.out.below.block m hmW2⟩ :
   KeepsFrom W0.heap.size W2 ((W2.alloc (.cells #[.int .i64 0, .int .i64 0, .int .i64 0] 264)).setCells W2.heap.size 0 [.int .i64 x.1, .int .i64 x.2.1, .int .i64 x.2.2.1]) ∧ KpD w.heap.size (ResD n4) W2 ((W2.alloc (.cells #[.int .i64 0, .int .i64 0, .int .i64 0] 264)).setCells W2.heap.size 0 [.int .i64 x.1, .int .i64 x.2.1, .int .i64 x.2.2.1]) ∧ ((W2.alloc (.cells #[.int .i64 0, .int .i64 0, .int .i64 0] 264)).setCells W2.heap.size 0 [.int .i64 x.1, .int .i64 x.2.1, .int .i64 x.2.2.1]).heap[m]? = W2.heap[m]?)
  clear HX hoC hGb
  generalize (W2.alloc (.cells #[.int .i64 0, .int .i64 0, .int .i64 0] 264)).setCells W2.heap.size 0 [.int .i64 x.1, .int .i64 x.2.1, .int .i64 x.2.2.1] = W3 at *
  generalize W2.heap.size = nb at *
  exact ⟨HK.out.1, ⟨HK.out.2.1, HK.out.2.2⟩, nb, rfl, ao, cap, lr, HE.out, hpl, HT2.out⟩
 case hbody =>
  rintro l1 pre x nb W2 - ⟨ao, cap, lr, e1, e2, hT⟩
  have q0 : W2.cell? ⟨n4, 0, none⟩ = some (.slice ao (pre.filter lvs).length cap) := hT.has.cell (b := n4) (c := #[.slice ao (pre.filter lvs).length cap]) (e := 137) (f := (0, 0)) (by simp) 0
  have hrg : W2.rangeAt nb 0 [.int .i64 x.1, .int .i64 x.2.1, .int .i64 x.2.2.1] := hT.range1
  have q2 : W2.cell? ⟨nb, 2, none⟩ = some (.int .i64 x.2.2.1) := hT.cell1 2
  have hszC := sz_edge
  have hfl := filter_le pre
  have HFs := uh (filter_snoc pre x)
  by_cases hlv : 0 ≤ x.2.2.1
  · have k1 : decide (0 ≤ x.2.2.1) = true := decide_eq_true hlv
    have hlx : lvs x = true := k1
    rw [if_pos hlx] at HFs
    have h63 : (pre.filter lvs).length + 1 ≤ maxLen := by unfold maxLen; omega
    have hby : ((pre.filter lvs).length + 1) * 24 ≤ 140737488355328 := by omega
    have HT := uh hT
    have H1 := uh e1
    have HH := uh (hT.has.sub (l' := lr ++ [(n4, .cells #[.slice ao (pre.filter lvs).length cap] 137)]) (by simp))
    clear hT e1 hlv hlx
    gi_wp2_with (first
     | (show wpListIn _ _ _ _ _ (⟨_, Op.load 264 _, _, _, _, _⟩ :: _) _ _; refine wpListIn_by (follows_round _ _ _) rfl (by intro c h; cases h) (wp_load_mid 264 _ rfl nb 0 rfl [.int .i64 x.1, .int .i64 x.2.1, .int .i64 x.2.2.1] _ hrg Tryz.underlying264 rfl hszC ?_))
     | (gi_at_builtin; have K3 := uh (((Turn.refl HH.out).alloc (.cells #[.int .i64 x.1, .int .i64 x.2.1, .int .i64 x.2.2.1] 264)).perm (l2 := lr ++ [(W2.heap.size, .cells #[.int .i64 x.1, .int .i64 x.2.1, .int .i64 x.2.2.1] 264), (n4, .cells #[.slice ao (pre.filter lvs).length cap] 137)]) (perm_of fun c => by simp; omega)); refine wpListIn_by (follows_round _ _ _) rfl (by intro c h; cases h) (wp_append_row _ _ rfl el_edge rfl H1.out (R := [(W2.heap.size, .cells #[.int .i64 x.1, .int .i64 x.2.1, .int .i64 x.2.2.1] 264), (n4, .cells #[.slice ao (pre.filter lvs).length cap] 137)]) K3.out.has rfl (news := [.int .i64 x.1, .int .i64 x.2.1, .int .i64 x.2.2.1]) rfl (news_of (heap_alloc_new _ _)) (by simp [Value.oneCell']) h63 hby ?_); intro a9 p9 l9 w4 hr9 V4 hno; have K4 := (K3.out.trans V4).perm (l2 := (n4, .cells #[.slice ao (pre.filter lvs).length cap] 137) :: (l9 ++ [(W2.heap.size, .cells #[.int .i64 x.1, .int .i64 x.2.1, .int .i64 x.2.2.1] 264)])) (perm_of fun c => by simp; omega); have q5 := K4.cell1 0; have f5 := K4.free1 0; have K5 := K4.setCell 0 (.slice a9 ((pre.filter lvs).length + 1) p9); have HK5 := uh K5; have HKD := uh (KpD.res (n₀ := w.heap.size) H1.out hr9 K5 HH.out (by omega) (fun b hb => (HT.out.new b (by simp [keys] at hb ⊢; exact .inr (.inl hb))).resolve_left (by simp [keys]))); have HKO := uh (Turn.keepsOthers K5 HH.out (resBx1_cells H1.out)); have HMm := uh (K5.same m (HT.out.has.lt (by simp [keys])) (fun hm => by have hnd := HT.out.has.nd; simp only [keys_cons, keys_append, List.nodup_cons, List.nodup_append, List.mem_append, List.mem_cons] at hnd hm; rcases hm with hm | hm | hm; exact hnd.2.2.2 m hm m (by simp) rfl; exact hnd.2.2.1.1 (by rw [← hm]; simp); cases hm)); have Hr9 := uh hr9; clear V4 K4 K5 K3 hno hr9 q0)
     | fail)
    have hce : edgs ((pre ++ [x]).filter lvs) = edgs (pre.filter lvs) ++ [.int .i64 x.1, .int .i64 x.2.1, .int .i64 x.2.2.1] := by rw [HFs.out, edgs_append]; simp [edgs, edCells]
    have hl1 : ((pre ++ [x]).filter lvs).length = (pre.filter lvs).length + 1 := by rw [HFs.out]; simp
    have hT9 := (HT.out.perm (l2 := (lr ++ [(n4, .cells #[.slice ao (pre.filter lvs).length cap] 137)]) ++ ((nb, .cells #[.int .i64 x.1, .int .i64 x.2.1, .int .i64 x.2.2.1] 264) :: ((Bs, .cells #[.pointer (some ⟨g, 0, none⟩)] 260) :: (g, .cells #[.pointer (some ⟨a, 0, none⟩), .pointer (some ⟨tb, 0, none⟩), .map (some m), .slice go_ (ats cs).length gcap, .int .i64 (endOf 0 cs : Nat)] 334) :: (m, ob) :: lg))) (perm_of fun c => by simp <;> omega)).trans (HK5.out.more ((HT.out.perm (l2 := (lr ++ [(n4, .cells #[.slice ao (pre.filter lvs).length cap] 137)]) ++ ((nb, .cells #[.int .i64 x.1, .int .i64 x.2.1, .int .i64 x.2.2.1] 264) :: ((Bs, .cells #[.pointer (some ⟨g, 0, none⟩)] 260) :: (g, .cells #[.pointer (some ⟨a, 0, none⟩), .pointer (some ⟨tb, 0, none⟩), .map (some m), .slice go_ (ats cs).length gcap, .int .i64 (endOf 0 cs : Nat)] 334) :: (m, ob) :: lg))) (perm_of fun c => by simp <;> omega)).has))
    refine ⟨HKO.out.from _, ⟨HKD.out, HMm.out⟩, a9, p9, l9, by rw [hl1, hce]; exact Hr9.out, by simp; omega, ?_⟩
    rw [hl1]
    exact (hT9.perm (l2 := [(W2.heap.size, .cells #[.int .i64 x.1, .int .i64 x.2.1, .int .i64 x.2.2.1] 264), (nb, .cells #[.int .i64 x.1, .int .i64 x.2.1, .int .i64 x.2.2.1] 264)] ++ (l9 ++ ((n4, .cells #[.slice a9 ((pre.filter lvs).length + 1) p9] 137) :: ((Bs, .cells #[.pointer (some ⟨g, 0, none⟩)] 260) :: (g, .cells #[.pointer (some ⟨a, 0, none⟩), .pointer (some ⟨tb, 0, none⟩), .map (some m), .slice go_ (ats cs).length gcap, .int .i64 (endOf 0 cs : Nat)] 334) :: (m, ob) :: lg)))) (perm_of fun c => by simp <;> omega)).drop
  · have k1 : decide (0 ≤ x.2.2.1) = false := decide_eq_false hlv
    have hlx : ¬ lvs x = true := by unfold lvs; rw [k1]; simp
    rw [if_neg hlx, List.append_nil] at HFs
    have HX := uh (⟨e1, hT.tail⟩ : Row 264 3 ao (pre.filter lvs).length cap (edgs (pre.filter lvs)) lr ∧ Turn [] w (lr ++ ((n4, .cells #[.slice ao (pre.filter lvs).length cap] 137) :: ((Bs, .cells #[.pointer (some ⟨g, 0, none⟩)] 260) :: (g, .cells #[.pointer (some ⟨a, 0, none⟩), .pointer (some ⟨tb, 0, none⟩), .map (some m), .slice go_ (ats cs).length gcap, .int .i64 (endOf 0 cs : Nat)] 334) :: (m, ob) :: lg))) W2)
    clear hT e1 hlv hlx
    gi_wp2_with fail
    refine ⟨KeepsFrom.refl _ _, ⟨⟨Below.refl _ _, Nat.le_refl _, fun _ _ h _ _ => h, fun _ _ h => h⟩, rfl⟩, ao, cap, lr, by rw [HFs.out]; exact HX.out.1, by simp; omega, by rw [HFs.out]; exact HX.out.2⟩
 case hdone =>
  rintro D xs W2 hD hxs ⟨ao, cap, lr, e1, e2, hT⟩ hK
  have hk : edgesOf L W cs = (xs.filter lvs).length := by unfold edgesOf; rw [hE, hxs]
  have HKd := uh hk
  have hHb : Has W2 ((n4, .cells #[.slice ao (xs.filter lvs).length cap] 137) :: (lr ++ ((Bs, .cells #[.pointer (some ⟨g, 0, none⟩)] 260) :: (g, .cells #[.pointer (some ⟨a, 0, none⟩), .pointer (some ⟨tb, 0, none⟩), .map (some m), .slice go_ (ats cs).length gcap, .int .i64 (endOf 0 cs : Nat)] 334) :: (m, ob) :: lg))) := hT.has.perm (perm_of fun c => by simp <;> omega)
  have q0 : W2.cell? ⟨n4, 0, none⟩ = some (.slice ao (xs.filter lvs).length cap) := hHb.cell (List.mem_cons_self ..) 0
  have f0 : W2.frozen? ⟨n4, 0, none⟩ = false := hHb.free (List.mem_cons_self ..) 0
  have HT := uh hT
  have H1 := uh e1
  have HK := uh hK
  clear hT e1 hHb hK hk hxs
  gi_wp2_with fail
  have T9 := (HT.out.perm (l2 := (n4, .cells #[.slice ao (xs.filter lvs).length cap] 137) :: (lr ++ ((Bs, .cells #[.pointer (some ⟨g, 0, none⟩)] 260) :: (g, .cells #[.pointer (some ⟨a, 0, none⟩), .pointer (some ⟨tb, 0, none⟩), .map (some m), .slice go_ (ats cs).length gcap, .int .i64 (endOf 0 cs : Nat)] 334) :: (m, ob) :: lg))) (perm_of fun c => by simp <;> omega)).setCell 0 (.slice ao (xs.filter lvs).length cap)
  have hK5 : (W2.setCell ⟨n4, 0, none⟩ (.slice ao (xs.filter lvs).length cap)).heap[D]? = some (.deferred (some [])) := by
   rw [Below.heap_setCell _ _ _ _ (by show D ≠ n4; omega)]
   exact HK.out
  have T10 := T9.grownC (B := W0.heap.size) hw0W (fun y hy => by
   rcases List.mem_cons.1 hy with rfl | hy
   · exact .inl rfl
   · exact hAc lr none 0 0 H1.out.cells y (by
       simp only [List.mem_append, List.mem_cons] at hy ⊢
       rcases hy with h | h
       · exact .inl h
       · exact .inr (.inr h))) (grownBy_putObj' _ D (.deferred none)) (fun r e => by cases e; exact ⟨hD, _, hK5, rfl⟩)
  have hcl : ((W2.setCell ⟨n4, 0, none⟩ (.slice ao (xs.filter lvs).length cap)).putObj D (.deferred none)).cell? ⟨n4, 0, none⟩ = some (.slice ao (xs.filter lvs).length cap) := T10.cell1 0
  have HT10 := uh T10
  clear T9 T10 HT q0 f0
  refine ⟨by simp, .inl ⟨_, _, rfl, run_takeDeferred hK5, ?_⟩⟩
  refine ⟨.slice ao (xs.filter lvs).length cap, ?_, ao, cap, _, by rw [HKd.out], HT10.out⟩
  simp [results, Tryz.results60, go_sem, hcl]
end
section
open Go Go.RowKit Go.IntWalk
abbrev ceVal (x : Ce) : Value := .agg #[.int .i64 x.1, .int .u8 x.2.tag, .int .i64 x.2.typ, .int .i64 x.2.len, .int .i64 x.2.size]
set_option maxRecDepth 100000 in
theorem notobj (w : World) (x : Ce) : Calls Tryz.prog 142 #[ceVal x] w fun e w' => e = .returned (.bool (!isObj x)) ∧ Below w.heap.size w w' := by
 obtain ⟨g, ⟨ta, tb, tc, td⟩⟩ := x
 have hT := uh ((Turn.refl (Has.nil w)).alloc (.cells #[.int .i64 g, .int .u8 ta, .int .i64 tb, .int .i64 tc, .int .i64 td] 81))
 by_cases ht : ta = 1
 · subst ht
   go_enter Tryz.func142, Tryz.ntmps142
   go_wp2
   go_ret
   exact ⟨by simp [isObj], hT.out.below⟩
 · have k1 : ((ta : Int) != 1) = true := by rw [bne_iff_ne]; omega
   have k2 : (ta != 1) = true := by rw [bne_iff_ne]; exact ht
   have hn : isObj (g, ⟨ta, tb, tc, td⟩) = false := by simp [isObj, ht]
   have HN := uh hn
   clear ht hn
   go_enter Tryz.func142, Tryz.ntmps142
   go_wp2
   go_ret
   exact ⟨by rw [HN.out]; rfl, hT.out.below⟩
def frst (cs : List Ce) : Nat := cs.findIdx fun c => !isObj c
theorem frst_lt {cs : List Ce} {i : Nat} {c : Ce} (hi : i < frst cs) (hc : cs[i]? = some c) : isObj c = true := by
 obtain ⟨hlt, rfl⟩ := List.getElem?_eq_some_iff.1 hc
 have := List.not_of_lt_findIdx hi
 simpa using this
theorem frst_at {cs : List Ce} {c : Ce} (hc : cs[frst cs]? = some c) : isObj c = false := by
 obtain ⟨hlt, rfl⟩ := List.getElem?_eq_some_iff.1 hc
 have h := List.findIdx_getElem (w := hlt) (p := fun c => !isObj c) (xs := cs)
 simp only [Bool.not_eq_true'] at h
 exact h
theorem frst_le (cs : List Ce) : frst cs ≤ cs.length := List.findIdx_le_length
set_option maxRecDepth 100000 in
set_option maxHeartbeats 1600000 in
theorem idxfunc (w : World) (cs : List Ce) (ao : Option Addr) (cap : Nat) (hS : Src w ao cs.length cap 5 (ces cs)) (hl : cs.length ≤ 65536) :
  Calls Tryz.prog 196 #[.slice ao cs.length cap, .func (.func 142) #[] #[]] w fun e w' => e = .returned (.int .i64 (if frst cs < cs.length then (frst cs : Int) else -1)) ∧ Below w.heap.size w w' := by
 have HF := uh (fun (h : 0 < cs.length) => hS.form (by rw [ces_length]; omega))
 have HS := uh hS
 have hsz : (Tryz.prog.info? 81).map (·.size) = some 5 := sz_cell
 have Hlt := uh (fun i c (hi : i < frst cs) (hc : cs[i]? = some c) => frst_lt hi hc)
 have Hat := uh (fun c (hc : cs[frst cs]? = some c) => frst_at hc)
 have hle := frst_le cs
 have hT := uh (Below.refl w.heap.size w)
 generalize frst cs = f at *
 clear hS
 go_enter Tryz.func196, Tryz.ntmps196
 go_wp2_with fail
 go_loopw [8] (fun v8 wr => ∃ i : Nat, i ≤ f ∧ v8 = .int .i64 i ∧ Below w.heap.size w wr) (fun v8 _ => cs.length - (intOf v8).toNat)
 case atStart => exact ⟨0, Nat.zero_le _, by go_num, hT.out⟩
 case round =>
  obtain ⟨i, hi, rfl, hB⟩ := hrel
  by_cases hlt : i < cs.length
  · have hlt' : (i : Int) < (cs.length : Int) := by omega
    obtain ⟨c, hc⟩ : ∃ c, cs[i]? = some c := ⟨cs[i], List.getElem?_eq_getElem hlt⟩
    obtain ⟨b, off, rfl, -⟩ := HF.out (by omega)
    have hrg : wr.rangeAt b (off + i * 5) [.int .i64 c.1, .int .u8 c.2.tag, .int .i64 c.2.typ, .int .i64 c.2.len, .int .i64 c.2.size] := (HS.out.below hB).ce hc
    have HN := uh (notobj wr c)
    have HB := uh hB
    by_cases hif : i < f
    · have ho := Hlt.out i c hif hc
      rw [ho] at HN
      clear hB hc ho
      go_wp2_with (first
       | (show wpList _ _ _ (⟨_, Op.load 81 _, _, _, _, _⟩ :: _) _ _; refine wpList_load_mid rfl 81 _ rfl b (off + i * 5) rfl _ _ hrg Tryz.underlying81 rfl hsz ?_)
       | fail)
      refine HN.out.mono ?_
      rintro e w3 ⟨rfl, hB3⟩
      have HB3 := uh (HB.out.trans (hB3.mono HB.out.size))
      clear hB3 HN hrg
      go_wp2_with fail
      go_roundw
      case rel => exact ⟨i + 1, by omega, by go_num, HB3.out⟩
      case measure => simp [intOf]; omega
    · obtain rfl : i = f := by omega
      have ho := Hat.out c hc
      rw [ho] at HN
      have hres : (if i < cs.length then (i : Int) else -1) = (i : Int) := if_pos hlt
      have HR := uh hres
      clear hB hc ho hres
      go_wp2_with (first
       | (show wpList _ _ _ (⟨_, Op.load 81 _, _, _, _, _⟩ :: _) _ _; refine wpList_load_mid rfl 81 _ rfl b (off + i * 5) rfl _ _ hrg Tryz.underlying81 rfl hsz ?_)
       | fail)
      refine HN.out.mono ?_
      rintro e w3 ⟨rfl, hB3⟩
      have HB3 := uh (HB.out.trans (hB3.mono HB.out.size))
      clear hB3 HN hrg
      go_wp2_with fail
      go_ret
      exact ⟨by first | rfl | rw [HR.out], HB3.out⟩
  · obtain rfl : i = cs.length := by omega
    obtain rfl : f = cs.length := by omega
    have hres : (if cs.length < cs.length then (cs.length : Int) else -1) = -1 := if_neg (by omega)
    have HR := uh hres
    have hnl : ¬ ((cs.length : Nat) : Int) < (cs.length : Int) := by omega
    have HB := uh hB
    clear hB hres
    go_wp2_with fail
    go_ret
    exact ⟨by first | rfl | rw [HR.out], HB.out⟩
end
section
open Go Go.RowKit Go.IntWalk
theorem run_clear_agg {P : Program} (w : World) (t e ty : TypeId) (z : Value) (ht : P.underlying t = some (.slice e)) (hv : ∀ w, (zeroValue e).run P w = .ok z w) (h1 : ∀ u ∈ z.cells, u.oneCell' = true) (b o n c : Nat) (hn : 0 < n)
  (hth : w.there b o (n * z.cells.size)) :
  ∃ vs : List Value, vs.length = n * z.cells.size ∧ (Builtin.clear_ #[t] ty #[.slice (some ⟨b, o, none⟩) n c]).run P w = .ok (.tuple #[]) (w.setCells b o vs) := by
 refine ⟨(Builtin.zeroCells z.cells n).toList, ?_, ?_⟩
 · simp [Builtin.zeroCells]
 · have hl : (Builtin.zeroCells z.cells n).toList.length = n * z.cells.size := by simp [Builtin.zeroCells]
   have hst := run_storeCells_cells (P := P) b o (Builtin.zeroCells z.cells n).toList 0 w (fun j hj => by rw [Nat.add_zero]; exact (hth j (by omega)).1) (fun j hj => by rw [Nat.add_zero]; exact (hth j (by omega)).2) (by
    intro v hv'
    simp only [Builtin.zeroCells] at hv'
    rw [Array.mem_toList_iff, Array.mem_map] at hv'
    obtain ⟨i, hi, rfl⟩ := hv'
    rw [Array.mem_range] at hi
    have hp : 0 < z.cells.size := by
     apply Nat.pos_of_ne_zero
     intro h0
     rw [h0] at hi
     omega
    have hm : i % z.cells.size < z.cells.size := Nat.mod_lt _ hp
    rw [getElem!_pos z.cells _ hm]
    exact h1 _ (Array.getElem_mem hm))
   simp only [Nat.add_zero] at hst
   obtain ⟨m, rfl⟩ : ∃ m, n = m + 1 := ⟨n - 1, by omega⟩
   simp [Builtin.clear_, run_underlying ht, hv, hst]
structure DelIn (cs : List Ce) (cur : Array Value) (i j : Nat) : Prop where
 low : ∀ k, k < i * 5 → cur[k]? = (ces (objs (cs.take j)))[k]?
 high : ∀ k, j * 5 ≤ k → k < cs.length * 5 → cur[k]? = (ces cs)[k]?
 cnt : i = (objs (cs.take j)).length
theorem DelIn.le {cs : List Ce} {cur : Array Value} {i j : Nat} (h : DelIn cs cur i j) : i ≤ j := by
 rw [h.cnt]
 unfold objs
 refine Nat.le_trans (List.length_filter_le ..) ?_
 rw [List.length_take]
 omega
theorem objs_snoc {cs : List Ce} {j : Nat} {c : Ce} (hc : cs[j]? = some c) : objs (cs.take (j + 1)) = objs (cs.take j) ++ if isObj c = true then [c] else [] := by
 rw [take_next hc, objs_append]
 congr 1
 unfold objs
 by_cases ht : isObj c = true
 · rw [if_pos ht, List.filter_cons_of_pos ht]
   rfl
 · rw [if_neg ht, List.filter_cons_of_neg ht]
   rfl
theorem DelIn.skip {cs : List Ce} {cur : Array Value} {i j : Nat} {c : Ce} (h : DelIn cs cur i j) (hc : cs[j]? = some c) (hn : isObj c = false) : DelIn cs cur i (j + 1) := by
 have h1 := objs_snoc hc
 rw [hn, if_neg (by simp), List.append_nil] at h1
 exact ⟨by rw [h1]; exact h.low, fun k hk hk2 => h.high k (by omega) hk2, by rw [h1]; exact h.cnt⟩
theorem DelIn.keep {cs : List Ce} {cur : Array Value} {i j : Nat} {c : Ce} (h : DelIn cs cur i j) (hc : cs[j]? = some c) (hn : isObj c = true) (hsz : cs.length * 5 ≤ cur.size) : DelIn cs (laidOver cur (i * 5) (ceCells c)) (i + 1) (j + 1) := by
 have h1 := objs_snoc hc
 have hle := h.le
 have hj := (List.getElem?_eq_some_iff.1 hc).1
 rw [hn, if_pos rfl] at h1
 have hcl : (ceCells c).length = 5 := rfl
 refine ⟨fun k hk => ?_, fun k hk hk2 => ?_, by rw [h1, List.length_append, ← h.cnt]; rfl⟩
 · rw [h1, ces_append]
   have hl : (ces (objs (cs.take j))).length = i * 5 := by rw [ces_length, ← h.cnt]
   by_cases hlt : k < i * 5
   · rw [laidOver_out _ _ _ _ (.inl hlt), h.low k hlt, List.getElem?_append_left (by omega)]
   · rw [List.getElem?_append_right (by omega), hl]
     obtain ⟨d, rfl⟩ : ∃ d, k = i * 5 + d := ⟨k - i * 5, by omega⟩
     rw [laidOver_in _ _ _ _ (by rw [hcl]; omega) (by rw [hcl]; omega), Nat.add_sub_cancel_left]
     show _ = (ceCells c ++ [])[d]?
     rw [List.append_nil]
 · rw [laidOver_out _ _ _ _ (by rw [hcl]; omega)]
   exact h.high k (by omega) hk2
theorem DelIn.row {cs : List Ce} {cur : Array Value} {i : Nat} (h : DelIn cs cur i cs.length) : ∀ k, k < i * 5 → cur[k]? = (ces (objs cs))[k]? := by
 have h1 := h.low
 rw [List.take_length] at h1
 exact h1
theorem objs_frst (cs : List Ce) : (objs (cs.take (frst cs))) = cs.take (frst cs) := by
 unfold objs
 rw [List.filter_eq_self]
 intro c hc
 obtain ⟨i, hi⟩ := List.mem_iff_getElem?.1 hc
 have hlt : i < frst cs := by
  have := (List.getElem?_eq_some_iff.1 hi).1
  rw [List.length_take] at this
  omega
 rw [List.getElem?_take_of_lt hlt] at hi
 exact frst_lt hlt hi
theorem DelIn.start {cs : List Ce} {cur : Array Value} {f : Nat} {c : Ce} (hf : frst cs = f) (hc : cs[f]? = some c) (hcur : ∀ k, k < cs.length * 5 → cur[k]? = (ces cs)[k]?) : DelIn cs cur f (f + 1) := by
 have h0 := objs_frst cs
 have hn : isObj c = false := frst_at (by rw [hf]; exact hc)
 have h1 := objs_snoc hc
 have hlt := (List.getElem?_eq_some_iff.1 hc).1
 rw [hn, if_neg (by simp), List.append_nil, ← hf, h0, hf] at h1
 have hl : (cs.take f).length = f := by rw [List.length_take]; omega
 refine ⟨fun k hk => ?_, fun k _ hk2 => hcur k hk2, by rw [h1, hl]⟩
 rw [h1, hcur k (by omega)]
 have hsp : cs = cs.take f ++ cs.drop f := (List.take_append_drop ..).symm
 conv => lhs; rw [hsp, ces_append]
 rw [List.getElem?_append_left (by rw [ces_length, hl]; exact hk)]
theorem take_of_get {c : Array Value} {m : Nat} {xs : List Value} (h : ∀ k, k < m → c[k]? = xs[k]?) (hx : xs.length = m) : c.toList.take m = xs := by
 apply List.ext_getElem?
 intro k
 by_cases hk : k < m
 · rw [List.getElem?_take_of_lt hk, Array.getElem?_toList, h k hk]
 · rw [List.getElem?_eq_none (by rw [List.length_take]; omega), List.getElem?_eq_none (by omega)]
set_option maxRecDepth 100000 in
set_option maxHeartbeats 3200000 in
theorem delfunc {w0 : World} (w : World) (cs : List Ce) (ao : Option Addr) (cap : Nat) {l R : List Blk} (hrow : Row 81 5 ao cs.length cap (ces cs) l) (T : Turn [] w0 (l ++ R) w) (hl : cs.length ≤ 65536) :
  Calls Tryz.prog 141 #[.slice ao cs.length cap, .func (.func 142) #[] #[]] w fun e w' => ∃ ao' cap' l', e = .returned (.slice ao' (objs cs).length cap') ∧ Row 81 5 ao' (objs cs).length cap' (ces (objs cs)) l' ∧ Turn [] w0 (l' ++ R) w' := by
 have HI := uh (idxfunc w cs ao cap (hrow.src T.has) hl)
 have hle := frst_le cs
 by_cases hall : frst cs = cs.length
 · have hob : objs cs = cs := by have := objs_frst cs; rw [hall, List.take_length] at this; exact this
   rw [hob]
   rw [if_neg (by omega)] at HI
   have HT := uh T
   have Hrow := uh hrow
   clear T hrow hob hall hle
   go_enter Tryz.func141, Tryz.ntmps141
   go_wp2_with fail
   refine HI.out.mono ?_
   rintro e w2 ⟨rfl, hB⟩
   have HT2 := uh (HT.out.call hB)
   clear hB HT HI
   go_wp2_with fail
   go_ret
   exact ⟨ao, cap, l, rfl, Hrow.out, HT2.out⟩
 · obtain ⟨f, hf⟩ : ∃ f, frst cs = f := ⟨_, rfl⟩
   rw [hf] at hle hall HI
   have hfl : f < cs.length := by omega
   rw [if_pos hfl] at HI
   obtain ⟨c0, hc0⟩ : ∃ c, cs[f]? = some c := ⟨cs[f], List.getElem?_eq_getElem hfl⟩
   have hcapn := hrow.2.1
   have hcapm := hrow.2.2.1
   obtain ⟨g, cur0, rfl, rfl, hcs0, htk⟩ := hrow.some_of (by omega)
   have hcur0 : ∀ k, k < cs.length * 5 → cur0[k]? = (ces cs)[k]? := fun k hk => take_get htk k hk
   have HD0 := uh (DelIn.start hf hc0 hcur0)
   have hsz0 : cs.length * 5 ≤ cur0.size := Nat.le_trans (Nat.mul_le_mul_right _ hcapn) hcs0
   have HT := uh T
   have hsz : (Tryz.prog.info? 81).map (·.size) = some 5 := sz_cell
   have Hk := uh (fun i j c cur (h : DelIn cs cur i j) (hc : cs[j]? = some c) (hn : isObj c = true) (hz : cs.length * 5 ≤ cur.size) => h.keep hc hn hz)
   have Hs := uh (fun i j c cur (h : DelIn cs cur i j) (hc : cs[j]? = some c) (hn : isObj c = false) => h.skip hc hn)
   have Hce := uh (fun j c (hc : cs[j]? = some c) k (hk : k < 5) => ces_get hc hk)
   have hk1 : ((f : Int) == -1) = false := by rw [beq_eq_false_iff_ne]; omega
   unfold maxLen at hcapm
   clear hf hc0 hcur0 htk T hall hle hrow
   go_enter Tryz.func141, Tryz.ntmps141
   go_wp2_with fail
   refine HI.out.mono ?_
   rintro e w2 ⟨rfl, hB⟩
   have HT2 := uh (HT.out.call hB)
   clear hB HT HI
   go_wp2_with fail
   go_loopw [5, 6] (fun v5 v6 wr => ∃ (i j : Nat) (cur : Array Value), j ≤ cs.length ∧ f < j ∧ i < j ∧ v5 = .int .i64 i ∧ v6 = .int .i64 j ∧ DelIn cs cur i j ∧ cur.size = cur0.size ∧ Turn [] w0 ((g, .cells cur 81) :: R) wr) (fun _ v6 _ => cs.length - (intOf v6).toNat)
   case atStart => exact ⟨f, f + 1, cur0, by omega, by omega, by omega, rfl, by go_num, HD0.out, rfl, HT2.out⟩
   case round =>
    clear HD0 HT2
    obtain ⟨i, j, cur, hj, hfj, hij, rfl, rfl, hD, hcz, V⟩ := hrel
    by_cases hlt : j < cs.length
    · have hlt' : (j : Int) < (cs.length : Int) := by omega
      obtain ⟨c, hc⟩ : ∃ c, cs[j]? = some c := ⟨cs[j], List.getElem?_eq_getElem hlt⟩
      have hrg : wr.rangeAt g (j * 5) [.int .i64 c.1, .int .u8 c.2.tag, .int .i64 c.2.typ, .int .i64 c.2.len, .int .i64 c.2.size] := by
       intro k v hv
       have hk : k < 5 := (List.getElem?_eq_some_iff.1 hv).1
       rw [V.cell1 (j * 5 + k), hD.high _ (by omega) (by omega), Hce.out j c hc k hk]
       exact hv
      have hsz1 : cs.length * 5 ≤ cur.size := by omega
      have hnb := V.has
      have T2 := V.alloc (.cells #[.int .i64 0, .int .u8 0, .int .i64 0, .int .i64 0, .int .i64 0] 81)
      have hth : (wr.alloc (.cells #[.int .i64 0, .int .u8 0, .int .i64 0, .int .i64 0, .int .i64 0] 81)).there wr.heap.size 0 5 := T2.there1
      have HT2 := uh (T2.laid [.int .i64 c.1, .int .u8 c.2.tag, .int .i64 c.2.typ, .int .i64 c.2.len, .int .i64 c.2.size] rfl)
      have hoC := ce_one c
      have HD := uh hD
      have HC := uh hc
      have HN := uh (fun w' => notobj w' c)
      clear T2 V hD hc hnb
      go_wp2_with (first
       | (show wpList _ _ _ (⟨_, Op.load 81 _, _, _, _, _⟩ :: _) _ _; refine wpList_load_mid rfl 81 _ rfl g (j * 5) rfl [.int .i64 c.1, .int .u8 c.2.tag, .int .i64 c.2.typ, .int .i64 c.2.len, .int .i64 c.2.size] _ hrg Tryz.underlying81 rfl hsz ?_; clear hrg)
       | (show wpList _ _ _ (⟨_, Op.store 81 _ _, _, _, _, _⟩ :: _) _ _; refine wpList_store_mid rfl 81 _ _ rfl wr.heap.size 0 #[.int .i64 c.1, .int .u8 c.2.tag, .int .i64 c.2.typ, .int .i64 c.2.len, .int .i64 c.2.size] rfl rfl hth hsz hoC ?_; clear hth; generalize (wr.alloc (.cells #[.int .i64 0, .int .u8 0, .int .i64 0, .int .i64 0, .int .i64 0] 81)).setCells wr.heap.size 0 [.int .i64 c.1, .int .u8 c.2.tag, .int .i64 c.2.typ, .int .i64 c.2.len, .int .i64 c.2.size] = w3 at *; generalize wr.heap.size = nb at *; have hrb := HT2.out.range1)
       | (show wpList _ _ _ (⟨_, Op.load 81 _, _, _, _, _⟩ :: _) _ _; refine wpList_load_mid rfl 81 _ rfl nb 0 rfl [.int .i64 c.1, .int .u8 c.2.tag, .int .i64 c.2.typ, .int .i64 c.2.len, .int .i64 c.2.size] _ hrb Tryz.underlying81 rfl hsz ?_; clear hrb)
       | fail)
      refine (HN.out _).mono ?_
      rintro e w4 ⟨rfl, hB4⟩
      have T4 := HT2.out.call hB4
      clear hB4 HN HT2
      by_cases ho : isObj c = true
      · have hrb := T4.range1
        have hth4 : w4.there g (i * 5) 5 := T4.has.there (b := g) (c := cur) (e := 81) (by simp) (i * 5) 5 (by omega)
        have HD5 := uh (Hk.out i j c cur HD.out HC.out ho hsz1)
        have HT5 := uh ((Turn.setCells (ceCells c) (i * 5) cur _ T4.swap).swap.tail)
        have hls : (laidOver cur (i * 5) (ceCells c)).size = cur.size := laidOver_size _ _ _
        have HLS := uh hls
        rw [ho]
        clear T4 HD HC hls ho
        go_wp2_with (first
         | (show wpList _ _ _ (⟨_, Op.load 81 _, _, _, _, _⟩ :: _) _ _; refine wpList_load_mid rfl 81 _ rfl nb 0 rfl [.int .i64 c.1, .int .u8 c.2.tag, .int .i64 c.2.typ, .int .i64 c.2.len, .int .i64 c.2.size] _ hrb Tryz.underlying81 rfl hsz ?_; clear hrb)
         | (show wpList _ _ _ (⟨_, Op.store 81 _ _, _, _, _, _⟩ :: _) _ _; refine wpList_store_mid rfl 81 _ _ rfl g (i * 5) #[.int .i64 c.1, .int .u8 c.2.tag, .int .i64 c.2.typ, .int .i64 c.2.len, .int .i64 c.2.size] rfl rfl hth4 hsz hoC ?_; clear hth4)
         | fail)
        go_roundw
        case rel => exact ⟨i + 1, j + 1, laidOver cur (i * 5) (ceCells c), by omega, by omega, by omega, by go_num, by go_num, HD5.out, by rw [HLS.out]; exact hcz, HT5.out⟩
        case measure => simp [intOf]; omega
      · have ho' : isObj c = false := Bool.eq_false_iff.2 ho
        have HD5 := uh (Hs.out i j c cur HD.out HC.out ho')
        have HT5 := uh T4.tail
        rw [ho']
        clear T4 HD HC ho ho'
        go_wp2_with fail
        go_roundw
        case rel => exact ⟨i, j + 1, cur, by omega, by omega, by omega, by go_num, by go_num, HD5.out, hcz, HT5.out⟩
        case measure => simp [intOf]; omega
    · obtain rfl : j = cs.length := by omega
      have hnl : ¬ ((cs.length : Nat) : Int) < (cs.length : Int) := by omega
      have hz : ∀ w, (zeroValue 81).run Tryz.prog w = .ok (.agg #[.int .i64 0, .int .u8 0, .int .i64 0, .int .i64 0, .int .i64 0]) w := fun _ => by kernel_rfl
      obtain ⟨vs, hvl, hclr⟩ : ∃ vs : List Value, vs.length = (cs.length - i) * 5 ∧ ∀ ty, (Builtin.clear_ #[75] ty #[.slice (some ⟨g, i * 5, none⟩) (cs.length - i) (cap - i)]).run Tryz.prog wr = .ok (.tuple #[]) (wr.setCells g (i * 5) vs) := by
       obtain ⟨vs, h1, h2⟩ := run_clear_agg (P := Tryz.prog) wr 75 81 0 _ Tryz.underlying75 hz (by simp [Value.cells, Value.oneCell']) g (i * 5) (cs.length - i) (cap - i) (by omega) (V.has.there (b := g) (c := cur) (e := 81) (by simp) _ _ (by simp [Value.cells]; omega))
       exact ⟨vs, h1, fun ty => h2⟩
      have hci : ¬ cap = i := by omega
      have hin : (i : Int) ≤ (cs.length : Int) := by omega
      have HD := uh hD
      have HT := uh (Turn.setCells vs (i * 5) cur _ V)
      have HVL := uh hvl
      clear hD V hvl hz
      have hcnt : i = (objs cs).length := by have := HD.out.cnt; rw [List.take_length] at this; exact this
      have HCN := uh hcnt
      clear hcnt
      go_wp2_with fail
      go_ret
      refine ⟨some ⟨g, 0, none⟩, cap, by rw [← HCN.out]; rfl, [(g, .cells (laidOver cur (i * 5) vs) 81)], ?_, HT.out⟩
      rw [← HCN.out]
      refine ⟨by rw [ces_length, ← HCN.out], by omega, by unfold maxLen; omega, .inr ⟨g, _, rfl, rfl, by rw [laidOver_size, hcz]; exact hcs0, ?_⟩⟩
      refine take_of_get ?_ (by rw [ces_length, ← HCN.out])
      intro k hk
      rw [laidOver_out _ _ _ _ (.inl hk)]
      exact HD.out.row k hk
set_option maxRecDepth 100000 in
theorem wobjects (w : World) (sb a aw tb : Nat) {W : List Nat} (tao : Option Addr) (tcap : Nat) (L : List Ty) (hA : SpAt w sb a aw tb W tao tcap L) (hf : W.length ≤ 65536) (hu : ∀ v ∈ W, v < 18446744073709551616) (hTy : ∀ t ∈ L, TyIn t) (hL : L.length ≤ 1000)
  (cs : List Ce) (hC : Chain L W 0 cs (W.length / 2)) :
  Calls Tryz.prog 56 #[.pointer (some ⟨sb, 0, none⟩)] w fun e w' => ∃ ao cap l, e = .returned (.slice ao (objs cs).length cap) ∧ Row 81 5 ao (objs cs).length cap (ces (objs cs)) l ∧ Turn [] w l w' := by
 have HC := uh (scells_all w sb a aw tb tao tcap L hA hf hu hTy hL cs hC)
 have hlen := hC.len
 have hl : cs.length ≤ 65536 := by omega
 clear hA hC hu hTy hlen
 go_enter Tryz.func56, Tryz.ntmps56
 go_wp2_with fail
 refine HC.out.mono ?_
 rintro e w2 ⟨ao, cap, l, rfl, hrow, T2⟩
 have HD := uh (delfunc w2 cs ao cap (R := []) hrow (by rw [List.append_nil]; exact T2) hl)
 clear hrow T2 HC
 go_wp2_with fail
 refine HD.out.mono ?_
 rintro e w3 ⟨ao', cap', l', rfl, hrow', T3⟩
 have HR := uh hrow'
 have HT := uh T3
 clear hrow' T3 HD
 go_wp2_with fail
 go_ret
 exact ⟨ao', cap', l', rfl, HR.out, by rw [← List.append_nil l']; exact HT.out⟩
end
section
open Go Go.RowKit Go.IntWalk
def u8s (l : List Nat) : List Value := l.map fun n => .int .u8 (n : Nat)
theorem u8s_length (l : List Nat) : (u8s l).length = l.length := by simp [u8s]
theorem u8s_at {l : List Nat} {i v : Nat} (h : l[i]? = some v) : (u8s l)[i]? = some (.int .u8 v) := by unfold u8s; rw [List.getElem?_map, h]; rfl
def idx8 (l : List Nat) (x : Nat) : Nat := l.findIdx fun y => x == y
theorem idx8_lt {l : List Nat} {x i v : Nat} (hi : i < idx8 l x) (hv : l[i]? = some v) : (x == v) = false := by
 obtain ⟨hlt, rfl⟩ := List.getElem?_eq_some_iff.1 hv
 have := List.not_of_lt_findIdx hi
 simpa using this
theorem idx8_at {l : List Nat} {x v : Nat} (hv : l[idx8 l x]? = some v) : (x == v) = true := by
 obtain ⟨hlt, rfl⟩ := List.getElem?_eq_some_iff.1 hv
 exact List.findIdx_getElem (w := hlt) (p := fun y => x == y) (xs := l)
theorem idx8_le (l : List Nat) (x : Nat) : idx8 l x ≤ l.length := List.findIdx_le_length
theorem idx8_mem (l : List Nat) (x : Nat) : idx8 l x < l.length ↔ x ∈ l := by
 unfold idx8
 rw [List.findIdx_lt_length]
 constructor
 · rintro ⟨y, hy, he⟩
   rw [beq_iff_eq] at he
   rw [he]; exact hy
 · intro h
   exact ⟨x, h, by simp⟩
set_option maxRecDepth 100000 in
set_option maxHeartbeats 1600000 in
theorem index8 (w : World) (l : List Nat) (ao : Option Addr) (cap : Nat) (hS : Src w ao l.length cap 1 (u8s l)) (hl : l.length ≤ 65536) (x : Nat) :
  Calls Tryz.prog 158 #[.slice ao l.length cap, .int .u8 x] w fun e w' => e = .returned (.int .i64 (if idx8 l x < l.length then (idx8 l x : Int) else -1)) ∧ w' = w := by
 have HF := uh (fun (h : 0 < l.length) => hS.form (by rw [u8s_length]; exact h))
 have Hlt := uh (fun i v (hi : i < idx8 l x) (hv : l[i]? = some v) => idx8_lt hi hv)
 have Hat := uh (fun v (hv : l[idx8 l x]? = some v) => idx8_at hv)
 have hle := idx8_le l x
 generalize idx8 l x = f at *
 clear hS
 go_enter Tryz.func158, Tryz.ntmps158
 go_wp2_with fail
 go_loopw [8] (fun v8 wr => ∃ i : Nat, i ≤ f ∧ v8 = .int .i64 i ∧ wr = w) (fun v8 _ => l.length - (intOf v8).toNat)
 case atStart => exact ⟨0, Nat.zero_le _, by go_num, rfl⟩
 case round =>
  obtain ⟨i, hi, rfl, rfl⟩ := hrel
  by_cases hlt : i < l.length
  · have hlt' : (i : Int) < (l.length : Int) := by omega
    obtain ⟨v, hv⟩ : ∃ v, l[i]? = some v := ⟨l[i], List.getElem?_eq_getElem hlt⟩
    obtain ⟨b, off, rfl, hc⟩ := HF.out (by omega)
    have q := hc i _ (u8s_at hv)
    by_cases hif : i < f
    · have ho := Hlt.out i v hif hv
      have ho2 : ((x : Int) == (v : Int)) = false := by rw [beq_eq_false_iff_ne] at ho ⊢; omega
      clear hv hc
      go_wp2_with fail
      go_roundw
      case rel => exact ⟨i + 1, by omega, by go_num, trivial⟩
      case measure => simp [intOf]; omega
    · obtain rfl : i = f := by omega
      have ho := Hat.out v hv
      have ho2 : ((x : Int) == (v : Int)) = true := by rw [beq_iff_eq] at ho ⊢; omega
      have HR := uh (show (if i < l.length then (i : Int) else -1) = (i : Int) from if_pos hlt)
      clear hv hc
      go_wp2_with fail
      go_ret
      exact ⟨by first | rfl | rw [HR.out], rfl⟩
  · obtain rfl : i = l.length := by omega
    obtain rfl : f = l.length := by omega
    have HR := uh (show (if l.length < l.length then (l.length : Int) else -1) = -1 from if_neg (by omega))
    have hnl : ¬ ((l.length : Nat) : Int) < (l.length : Int) := by omega
    go_wp2_with fail
    go_ret
    exact ⟨by first | rfl | rw [HR.out], rfl⟩
set_option maxRecDepth 100000 in
theorem contains8 (w : World) (l : List Nat) (ao : Option Addr) (cap : Nat) (hS : Src w ao l.length cap 1 (u8s l)) (hl : l.length ≤ 65536) (x : Nat) :
  Calls Tryz.prog 76 #[.slice ao l.length cap, .int .u8 x] w fun e w' => e = .returned (.bool (decide (x ∈ l))) ∧ w' = w := by
 have HI := uh (index8 w l ao cap hS hl x)
 have hm := idx8_mem l x
 by_cases h : x ∈ l
 · rw [if_pos (hm.2 h)] at HI
   have HD := uh (decide_eq_true h)
   clear hm h hS
   generalize idx8 l x = f at *
   go_enter Tryz.func76, Tryz.ntmps76
   go_wp2_with fail
   refine HI.out.mono ?_
   rintro e w2 ⟨rfl, hw⟩
   subst hw
   have hf : (0 : Int) ≤ (f : Int) := by omega
   go_wp2_with fail
   go_ret
   exact ⟨by rw [HD.out]; rfl, rfl⟩
 · rw [if_neg (fun h' => h (hm.1 h'))] at HI
   have HD := uh (decide_eq_false h)
   clear hm h hS
   go_enter Tryz.func76, Tryz.ntmps76
   go_wp2_with fail
   refine HI.out.mono ?_
   rintro e w2 ⟨rfl, hw⟩
   subst hw
   go_wp2_with fail
   go_ret
   exact ⟨by rw [HD.out]; rfl, rfl⟩
end
section
open Go Go.RowKit Go.IntWalk
def padTo (l : List Nat) (k : Nat) : List Nat := l ++ List.replicate (k - l.length) 0
theorem padTo_len (l : List Nat) (k : Nat) : (padTo l k).length = max l.length k := by
 unfold padTo
 rw [List.length_append, List.length_replicate]
 omega
theorem padTo_grow {l : List Nat} {k : Nat} (h : (padTo l k).length = k) : padTo l k ++ [0] = padTo l (k + 1) := by
 rw [padTo_len] at h
 unfold padTo
 rw [List.append_assoc, show k + 1 - l.length = (k - l.length) + 1 by omega, List.replicate_succ']
theorem padTo_stay {l : List Nat} {k : Nat} (h : (padTo l k).length ≠ k) : padTo l k = padTo l (k + 1) := by
 rw [padTo_len] at h
 unfold padTo
 rw [show k - l.length = 0 by omega, show k + 1 - l.length = 0 by omega]
theorem padTo_cons (x : Nat) (l : List Nat) (k : Nat) : padTo (x :: l) (k + 1) = x :: padTo l k := by
 unfold padTo
 simp
theorem clsAdd_pad : ∀ (l : List Nat) (k : Nat), clsAdd l k = (padTo l (k + 1)).set k ((padTo l (k + 1)).getD k 0 + 1)
 | [], 0 => rfl
 | [], k + 1 => by
  have h := clsAdd_pad [] k
  have h2 : padTo [] (k + 1 + 1) = 0 :: padTo [] (k + 1) := by simp [padTo, List.replicate_succ]
  rw [clsAdd, h, h2]
  simp
 | x :: l, 0 => by
  rw [padTo_cons]
  simp [clsAdd, padTo]
 | x :: l, k + 1 => by
  rw [clsAdd, clsAdd_pad l k, padTo_cons]
  simp
theorem getD_le_sum : ∀ (l : List Nat) (j : Nat), l.getD j 0 ≤ l.sum
 | [], _ => by simp
 | x :: l, 0 => by simp
 | x :: l, j + 1 => by
  have := getD_le_sum l j
  simp only [List.getD_cons_succ, List.sum_cons]
  omega
theorem padTo_get (l : List Nat) (k j : Nat) : (padTo l k).getD j 0 = l.getD j 0 := by
 unfold padTo
 rw [List.getD_eq_getElem?_getD, List.getD_eq_getElem?_getD]
 by_cases h : j < l.length
 · rw [List.getElem?_append_left h]
 · rw [List.getElem?_append_right (by omega), List.getElem?_eq_none (by omega : l.length ≤ j), List.getElem?_replicate]
   split <;> rfl
theorem clsOf_next {l : List Nat} {i n : Nat} (h : l[i]? = some n) : clsOf (l.take (i + 1)) = clsAdd (clsOf (l.take i)) n.log2 := by
 rw [List.take_add_one, h]
 unfold clsOf
 rw [Option.toList_some, List.foldl_append]
 rfl
theorem nats_set (l : List Nat) (i v : Nat) : (nats l).set i (.int .i64 v) = nats (l.set i v) := by unfold nats; rw [List.map_set]
theorem log2_shift {n k : Nat} (h : k ≤ n.log2) : n / 2 ^ (k + 1) = 0 ↔ k = n.log2 := by
 rw [Nat.div_eq_zero_iff]
 have hp := Nat.two_pow_pos (k + 1)
 have h1 : n < 2 ^ (k + 1) ↔ n.log2 < k + 1 := by
  by_cases hn : n = 0
  · subst hn
    exact ⟨fun _ => by simp, fun _ => hp⟩
  · exact (Nat.log2_lt hn).symm
 omega
theorem log2_small {n : Nat} (h : n ≤ 65536) : n.log2 ≤ 16 := by
 by_cases hn : n = 0
 · subst hn
   simp
 · have := (Nat.log2_lt hn (k := 17)).2 (by omega)
   omega
set_option maxRecDepth 100000 in
set_option maxHeartbeats 3200000 in
theorem classes (w : World) (l : List Nat) (ao : Option Addr) (cap : Nat) (hS : Src w ao l.length cap 1 (nats l)) (hl : l.length ≤ 65536) (hn : ∀ n ∈ l, n ≤ 65536) :
  Calls Tryz.prog 62 #[.slice ao l.length cap] w fun e w' => ∃ ao' cap' l', e = .returned (.slice ao' (clsOf l).length cap') ∧ Row 3 1 ao' (clsOf l).length cap' (nats (clsOf l)) l' ∧ Turn [] w l' w' := by
 have HF := uh (fun (h : 0 < l.length) => hS.form (by rw [nats_length]; exact h))
 have Hsum := uh (fun i => cls_sum (l.take i))
 have Hlen := uh (fun i => cls_len (sizes := l.take i) (m := 17) (fun n h => by have := log2_small (hn n (List.mem_of_mem_take h)); omega))
 have Hn := uh hn
 have Hnx := uh (fun i n (h : l[i]? = some n) => clsOf_next h)
 have HT := uh (Turn.refl (Has.nil w))
 clear hS hn
 go_enter Tryz.func62, Tryz.ntmps62
 go_wp2_with fail
 refine wp_scope_straight ?_
 refine wp_seq (wp_label ?_)
 go_wp2_with fail
 go_loopw [2, 8] (fun v2 v8 wr => ∃ (i : Nat) (a2 : Option Addr) (p2 : Nat) (lr : List Blk), i ≤ l.length ∧ v8 = .int .i64 i ∧ v2 = .slice a2 (clsOf (l.take i)).length p2 ∧ Row 3 1 a2 (clsOf (l.take i)).length p2 (nats (clsOf (l.take i))) lr ∧ Turn [] w lr wr) (fun _ v8 _ => l.length - (intOf v8).toNat)
 case atStart => exact ⟨0, none, 0, [], Nat.zero_le _, by go_num, rfl, Row.nil _ _, HT.out⟩
 case round =>
  obtain ⟨i, a2, p2, lr, hi, rfl, rfl, hr2, V⟩ := hrel
  by_cases hlt : i < l.length
  · have hlt' : (i : Int) < (l.length : Int) := by omega
    obtain ⟨n, hin⟩ : ∃ v, l[i]? = some v := ⟨l[i], List.getElem?_eq_getElem hlt⟩
    obtain ⟨b, off, rfl, hc⟩ := HF.out (by omega)
    have q := (V.below.cell (p := ⟨b, off + i, none⟩) (World.block_lt_of_cell? w _ (hc i _ (nats_at hin)))).trans (hc i _ (nats_at hin))
    have Hnxt := uh (Hnx.out i n hin)
    have hnb := Hn.out n (List.mem_of_getElem? hin)
    have hlb := log2_small hnb
    have hl17 := Hlen.out i
    have hsm := Hsum.out i
    rw [List.length_take] at hsm
    have Hgd := uh (fun j => getD_le_sum (clsOf (l.take i)) j)
    have hcb : (clsOf (l.take i)).sum ≤ 65536 := by omega
    generalize clsOf (l.take i) = out at *
    have HV := uh V
    have Hr2 := uh hr2
    have Hlog := uh (fun k (hk : k ≤ n.log2) => log2_shift hk)
    generalize hlg : n.log2 = lg at *
    clear hc hin V hr2 hlg hsm
    go_wp2_with fail
    go_loopw [2, 5] (fun v2 v5 wr => ∃ (k : Nat) (a2 : Option Addr) (p2 : Nat) (lr : List Blk), k ≤ lg ∧ v5 = .int .i64 k ∧ v2 = .slice a2 (padTo out k).length p2 ∧ Row 3 1 a2 (padTo out k).length p2 (nats (padTo out k)) lr ∧ Turn [] w lr wr) (fun _ v5 _ => 17 - (intOf v5).toNat)
    case atStart => exact ⟨0, a2, p2, lr, Nat.zero_le _, by go_num, by simp [padTo], by simpa [padTo] using Hr2.out, HV.out⟩
    case round =>
     clear HV Hr2
     obtain ⟨k, a3, p3, lk, hk, rfl, rfl, hr3, V⟩ := hrel
     have hpl := padTo_len out k
     have Hgrow := uh (fun h => padTo_grow (l := out) (k := k) h)
     have Hstay := uh (fun h => padTo_stay (l := out) (k := k) h)
     have Hpl1 := uh (padTo_len out (k + 1))
     have hpl1 : (padTo out k).length ≤ 17 := by omega
     have hlog := Hlog.out k hk
     have h63 : (padTo out k).length + 1 ≤ maxLen := by unfold maxLen; omega
     have hb2 : ((padTo out k).length + 1) * 8 ≤ 140737488355328 := by omega
     have Hr3 := uh hr3
     have HV := uh V
     clear hr3 V hpl
     go_upto_if 17 with fail
     go_cut [2] (fun v2 wc => ∃ a4 p4 l4, v2 = .slice a4 (padTo out (k + 1)).length p4 ∧ Row 3 1 a4 (padTo out (k + 1)).length p4 (nats (padTo out (k + 1))) l4 ∧ Turn [] w l4 wc)
     case first =>
      by_cases hkl : (padTo out k).length = k
      · have k1 : ((k : Int) == ((padTo out k).length : Int)) = true := by rw [beq_iff_eq]; omega
        have k2 : (k == (padTo out k).length) = true := by rw [beq_iff_eq]; omega
        have Hg := uh (Hgrow.out hkl)
        clear hkl
        go_wp2_with (first
         | (at_builtin; have T3 := uh (HV.out.alloc (.cells #[.int .i64 0] 3)); refine wpList_append_row rfl _ _ rfl el_int rfl Hr3.out (R := [(wr.heap.size, .cells #[.int .i64 0] 3)]) (T3.out.perm (perm_of fun c => by simp; omega)).has rfl (news := [.int .i64 0]) rfl (news_of (heap_alloc_new _ _)) (by simp [Value.oneCell']) h63 hb2 ?_; intro a9 p9 l9 w4 hr9 V4 hno; have V5 := uh ((T3.out.perm (l2 := lk ++ [(wr.heap.size, .cells #[.int .i64 0] 3)]) (perm_of fun c => by simp; omega)).trans V4); have Hr9 := uh hr9; clear hr9 V4 hno)
         | fail)
        go_meet
        have hl1 : (padTo out (k + 1)).length = (padTo out k).length + 1 := by rw [← Hg.out]; simp
        refine ⟨a9, p9, l9, by rw [hl1], ?_, V5.out.sub (List.sublist_append_left l9 _)⟩
        rw [hl1, ← Hg.out, nats_append]
        exact Hr9.out
      · have k1 : ((k : Int) == ((padTo out k).length : Int)) = false := by rw [beq_eq_false_iff_ne]; omega
        have k2 : (k == (padTo out k).length) = false := by rw [beq_eq_false_iff_ne]; omega
        have Hg := uh (Hstay.out hkl)
        clear hkl
        go_wp2_with fail
        go_meet
        exact ⟨a3, p3, lk, by rw [← Hg.out], by rw [← Hg.out]; exact Hr3.out, HV.out⟩
     case rest =>
      obtain ⟨a4, p4, l4, rfl, hr4, V4⟩ := hcut
      clear Hr3 HV Hgrow Hstay
      have hpl2 := Hpl1.out
      by_cases hkl : k = lg
      · have hz : ((n : Int) / 2 ^ (k + 1) == 0) = true := by rw [shift_nat, beq_iff_eq, hlog.2 hkl]; rfl
        obtain ⟨x, hx⟩ : ∃ x, (padTo out (k + 1))[k]? = some x := ⟨(padTo out (k + 1))[k]'(by omega), List.getElem?_eq_getElem _⟩
        have hxg : (padTo out (k + 1)).getD k 0 = x := by rw [List.getD_eq_getElem?_getD, hx]; rfl
        have hxs : x ≤ 65536 := by rw [← hxg, padTo_get]; have := Hgd.out k; omega
        obtain ⟨b4, cur4, rfl, rfl, -, -⟩ := hr4.some_of (by omega)
        have q4 : wc.cell? ⟨b4, k, none⟩ = some (.int .i64 x) := (hr4.cell (R := []) (by rw [List.append_nil]; exact V4.has) k (by omega)).trans (nats_at hx)
        have f4 := hr4.free (R := []) (w := wc) (by rw [List.append_nil]; exact V4.has) k
        have hr5 := hr4.set k (.int .i64 ((x + 1 : Nat) : Int))
        rw [nats_set] at hr5
        have hcl2 : clsAdd out lg = (padTo out (k + 1)).set k (x + 1) := by rw [← hkl, clsAdd_pad, hxg]
        have HR5 := uh hr5
        have HV5 := uh (V4.setCell k (.int .i64 ((x + 1 : Nat) : Int)))
        have HC2 := uh hcl2
        have hkp : (k : Int) < ((padTo out (k + 1)).length : Int) := by omega
        clear hr4 V4 hlog hr5 hcl2 hx hxg hkl
        rw [Int.natCast_add] at HV5
        go_wp2_with fail
        go_roundw
        case rel => 
         refine ⟨i + 1, some ⟨b4, 0, none⟩, p4, _, by omega, by go_num, ?_, ?_, HV5.out⟩
         · rw [Hnxt.out, HC2.out, List.length_set]
         · have h := HR5.out
           rw [Hnxt.out, HC2.out, List.length_set]
           exact h
        case measure => simp [intOf]; omega
      · have hz : ((n : Int) / 2 ^ (k + 1) == 0) = false := by rw [shift_nat, beq_eq_false_iff_ne]; intro h; exact hkl (hlog.1 (by omega))
        have HR4 := uh hr4
        have HV4 := uh V4
        have hk3 : k < 17 := by omega
        clear hr4 V4 hlog
        go_wp2_with fail
        go_roundw
        case rel => exact ⟨k + 1, a4, p4, l4, by omega, by go_num, rfl, HR4.out, HV4.out⟩
        case measure => simp [intOf]; omega
  · obtain rfl : i = l.length := by omega
    have hnl : ¬ ((l.length : Nat) : Int) < (l.length : Int) := by omega
    rw [List.take_length] at hr2 ⊢
    have Hr2 := uh hr2
    have HV := uh V
    clear hr2 V
    go_wp2_with fail
    go_ret
    exact ⟨a2, p2, lr, rfl, Hr2.out, HV.out⟩
end
section
open Go Go.RowKit Go.IntWalk
def runs (cs : List Ce) : List Value := cs.flatMap fun c => [.int .i64 c.1, .int .i64 c.2.size]
theorem runs_append (a b : List Ce) : runs (a ++ b) = runs a ++ runs b := by simp [runs]
theorem runs_length (cs : List Ce) : (runs cs).length = cs.length * 2 := by
 induction cs with
 | nil => rfl
 | cons a l ih =>
  show ([Value.int .i64 a.1, .int .i64 a.2.size] ++ runs l).length = _
  rw [List.length_append, ih, List.length_cons]
  simp
  omega
theorem runs_get {cs : List Ce} {i : Nat} {c : Ce} (hi : cs[i]? = some c) : (runs cs)[i * 2]? = some (.int .i64 c.1) ∧ (runs cs)[i * 2 + 1]? = some (.int .i64 c.2.size) := by
 induction cs generalizing i with
 | nil => cases hi
 | cons a l ih =>
  show ([Value.int .i64 a.1, .int .i64 a.2.size] ++ runs l)[i * 2]? = _ ∧ ([Value.int .i64 a.1, .int .i64 a.2.size] ++ runs l)[i * 2 + 1]? = _
  cases i with
  | zero =>
   have : a = c := by simpa using hi
   subst this
   exact ⟨rfl, rfl⟩
  | succ i =>
   rw [List.getElem?_append_right (by simp; omega), List.getElem?_append_right (by simp; omega)]
   have h1 := ih (i := i) (by simpa using hi)
   rw [show (i + 1) * 2 - ([Value.int .i64 a.1, .int .i64 a.2.size] : List Value).length = i * 2 by simp; omega, show (i + 1) * 2 + 1 - ([Value.int .i64 a.1, .int .i64 a.2.size] : List Value).length = i * 2 + 1 by simp; omega]
   exact h1
theorem el_run : Elem Tryz.prog 139 142 2 16 (.agg #[.int .i64 0, .int .i64 0]) := Elem.of Tryz.underlying139 (by kernel_rfl) rfl
theorem gaps_snoc {cs : List Ce} {j : Nat} {c : Ce} (hc : cs[j]? = some c) : gaps (cs.take (j + 1)) = gaps (cs.take j) ++ if isObj c = true then [] else [c] := by
 rw [take_next hc, gaps_append]
 congr 1
 unfold gaps
 by_cases ht : isObj c = true
 · rw [if_pos ht, List.filter_cons_of_neg (by simp [ht])]
   rfl
 · rw [if_neg ht, List.filter_cons_of_pos (by simp [ht])]
   rfl
theorem gaps_le (cs : List Ce) (i : Nat) : (gaps (cs.take i)).length ≤ i := by
 unfold gaps
 refine Nat.le_trans (List.length_filter_le ..) ?_
 rw [List.length_take]
 omega
theorem Chain.tags {L : List Ty} {W : List Nat} {cs : List Ce} {g e : Nat} (hC : Chain L W g cs e) {c : Ce} (hc : c ∈ cs) : c.2.tag = 1 ∨ c.2.tag = 2 ∨ c.2.tag = 3 := by
 have h1 := (hC.mem c hc).2.2.2.1.1
 obtain ⟨-, -, -, h | h⟩ := h1
 · exact .inl h.1
 · exact .inr h.1
set_option maxRecDepth 100000 in
set_option maxHeartbeats 3200000 in
theorem wgaps (w : World) (sb a aw tb : Nat) {W : List Nat} (tao : Option Addr) (tcap : Nat) (L : List Ty) (hA : SpAt w sb a aw tb W tao tcap L) (hf : W.length ≤ 65536) (hu : ∀ v ∈ W, v < 18446744073709551616) (hTy : ∀ t ∈ L, TyIn t) (hL : L.length ≤ 1000)
  (cs : List Ce) (hC : Chain L W 0 cs (W.length / 2)) (ta : Option Addr) (tc : Nat) (hT : Src w ta 2 tc 1 (u8s [2, 3])) :
  Calls Tryz.prog 61 #[.pointer (some ⟨sb, 0, none⟩), .slice ta 2 tc] w fun e w' => ∃ ao cap l, e = .returned (.slice ao (gaps cs).length cap) ∧ Row 142 2 ao (gaps cs).length cap (runs (gaps cs)) l ∧ Turn [] w l w' := by
 have HC := uh (scells_all w sb a aw tb tao tcap L hA hf hu hTy hL cs hC)
 have hlen := hC.len
 have hl : cs.length ≤ 32768 := by omega
 have Htag := uh (fun j c (hc : cs[j]? = some c) => hC.tags (List.mem_of_getElem? hc))
 have HT := uh (fun w' (hB : Below w.heap.size w w') x => contains8 w' [2, 3] ta tc (hT.below hB) (by simp) x)
 have hsz := sz_cell
 have Hle := uh (gaps_le cs)
 have Hsn := uh (fun j c (hc : cs[j]? = some c) => gaps_snoc hc)
 clear hA hC hu hTy hlen hT
 go_enter Tryz.func61, Tryz.ntmps61
 go_wp2_with fail
 refine HC.out.mono ?_
 rintro e w2 ⟨a8, p8, l8, rfl, hrow, T2⟩
 have HT2 := uh T2
 have Hrow := uh hrow
 clear hrow T2 HC
 go_wp2_with fail
 go_loopw [4, 10] (fun v4 v10 wr => ∃ (i : Nat) (a4 : Option Addr) (p4 : Nat) (lr : List Blk), i ≤ cs.length ∧ v10 = .int .i64 i ∧ v4 = .slice a4 (gaps (cs.take i)).length p4 ∧ Row 142 2 a4 (gaps (cs.take i)).length p4 (runs (gaps (cs.take i))) lr ∧ Turn [] w (lr ++ l8) wr) (fun _ v10 _ => cs.length - (intOf v10).toNat)
 case atStart => exact ⟨0, none, 0, [], Nat.zero_le _, by go_num, rfl, Row.nil _ _, HT2.out⟩
 case round =>
  clear HT2
  obtain ⟨i, a4, p4, lr, hi, rfl, rfl, hr4, V⟩ := hrel
  by_cases hlt : i < cs.length
  · have hlt' : (i : Int) < (cs.length : Int) := by omega
    obtain ⟨c, hc⟩ : ∃ c, cs[i]? = some c := ⟨cs[i], List.getElem?_eq_getElem hlt⟩
    have hS8 := Hrow.out.src (V.has.perm (l' := l8 ++ lr) (perm_of fun c => by simp; omega))
    obtain ⟨b, off, rfl, -⟩ := hS8.form (by rw [ces_length]; omega)
    have hrg : wr.rangeAt b (off + i * 5) [.int .i64 c.1, .int .u8 c.2.tag, .int .i64 c.2.typ, .int .i64 c.2.len, .int .i64 c.2.size] := hS8.ce hc
    have htg := Htag.out i c hc
    have hsn := Hsn.out i c hc
    have hle := Hle.out i
    have T3 := V.alloc (.cells #[.int .i64 0, .int .u8 0, .int .i64 0, .int .i64 0, .int .i64 0] 81)
    have hth : (wr.alloc (.cells #[.int .i64 0, .int .u8 0, .int .i64 0, .int .i64 0, .int .i64 0] 81)).there wr.heap.size 0 5 := T3.there1
    have HT3 := uh (T3.laid [.int .i64 c.1, .int .u8 c.2.tag, .int .i64 c.2.typ, .int .i64 c.2.len, .int .i64 c.2.size] rfl)
    have hoC := ce_one c
    have Hr4 := uh hr4
    have h63 : (gaps (cs.take i)).length + 1 ≤ maxLen := by unfold maxLen; omega
    have hby : ((gaps (cs.take i)).length + 1) * 16 ≤ 140737488355328 := by omega
    clear T3 V hc hr4 hS8
    by_cases ht : c.2.tag = 1
    · have ho : isObj c = true := isObj_iff.2 ht
      rw [ho, if_pos rfl, List.append_nil] at hsn
      have HSn := uh hsn
      have k1 : ((c.2.tag : Int) != 1) = false := by rw [bne_eq_false_iff_eq]; omega
      have k2 : (c.2.tag != 1) = false := by rw [bne_eq_false_iff_eq]; exact ht
      clear hsn ho ht htg
      go_wp2_with (first
       | (show wpList _ _ _ (⟨_, Op.load 81 _, _, _, _, _⟩ :: _) _ _; refine wpList_load_mid rfl 81 _ rfl b (off + i * 5) rfl [.int .i64 c.1, .int .u8 c.2.tag, .int .i64 c.2.typ, .int .i64 c.2.len, .int .i64 c.2.size] _ hrg Tryz.underlying81 rfl hsz ?_; clear hrg)
       | (show wpList _ _ _ (⟨_, Op.store 81 _ _, _, _, _, _⟩ :: _) _ _; refine wpList_store_mid rfl 81 _ _ rfl wr.heap.size 0 #[.int .i64 c.1, .int .u8 c.2.tag, .int .i64 c.2.typ, .int .i64 c.2.len, .int .i64 c.2.size] rfl rfl hth hsz hoC ?_; clear hth; generalize (wr.alloc (.cells #[.int .i64 0, .int .u8 0, .int .i64 0, .int .i64 0, .int .i64 0] 81)).setCells wr.heap.size 0 [.int .i64 c.1, .int .u8 c.2.tag, .int .i64 c.2.typ, .int .i64 c.2.len, .int .i64 c.2.size] = w3 at *; generalize wr.heap.size = nb at *; have q1 := HT3.out.cell1 1)
       | fail)
      go_roundw
      case rel => exact ⟨i + 1, a4, p4, lr, by omega, by go_num, by rw [HSn.out], by rw [HSn.out]; exact Hr4.out, HT3.out.tail⟩
      case measure => simp [intOf]; omega
    · have ho : isObj c = false := Bool.eq_false_iff.2 (fun h => ht (isObj_iff.1 h))
      rw [ho, if_neg (by simp)] at hsn
      have HSn := uh hsn
      have k1 : ((c.2.tag : Int) != 1) = true := by rw [bne_iff_ne]; omega
      have k2 : (c.2.tag != 1) = true := by rw [bne_iff_ne]; exact ht
      have hmem : decide (c.2.tag ∈ [2, 3]) = true := by
       rw [decide_eq_true_iff]
       simp only [List.mem_cons, List.not_mem_nil, or_false]
       omega
      have HM := uh hmem
      clear hsn ho ht htg hmem
      go_wp2_with (first
       | (show wpList _ _ _ (⟨_, Op.load 81 _, _, _, _, _⟩ :: _) _ _; refine wpList_load_mid rfl 81 _ rfl b (off + i * 5) rfl [.int .i64 c.1, .int .u8 c.2.tag, .int .i64 c.2.typ, .int .i64 c.2.len, .int .i64 c.2.size] _ hrg Tryz.underlying81 rfl hsz ?_; clear hrg)
       | (show wpList _ _ _ (⟨_, Op.store 81 _ _, _, _, _, _⟩ :: _) _ _; refine wpList_store_mid rfl 81 _ _ rfl wr.heap.size 0 #[.int .i64 c.1, .int .u8 c.2.tag, .int .i64 c.2.typ, .int .i64 c.2.len, .int .i64 c.2.size] rfl rfl hth hsz hoC ?_; clear hth; generalize (wr.alloc (.cells #[.int .i64 0, .int .u8 0, .int .i64 0, .int .i64 0, .int .i64 0] 81)).setCells wr.heap.size 0 [.int .i64 c.1, .int .u8 c.2.tag, .int .i64 c.2.typ, .int .i64 c.2.len, .int .i64 c.2.size] = w3 at *; generalize wr.heap.size = nb at *; have q0 := HT3.out.cell1 0; have q1 := HT3.out.cell1 1; have q4 := HT3.out.cell1 4; have HCt := uh (HT.out w3 HT3.out.below c.2.tag))
       | (go_at_call 76; refine HCt.out.mono ?_; rintro e w5 ⟨rfl, hw⟩; subst hw; rw [HM.out])
       | (at_builtin; have T6 := uh (HT3.out.alloc (.cells #[.int .i64 c.1, .int .i64 c.2.size] 142)); refine wpList_append_row rfl _ _ rfl el_run rfl Hr4.out (R := (w5.heap.size, .cells #[.int .i64 c.1, .int .i64 c.2.size] 142) :: (nb, .cells #[.int .i64 c.1, .int .u8 c.2.tag, .int .i64 c.2.typ, .int .i64 c.2.len, .int .i64 c.2.size] 81) :: l8) (T6.out.perm (perm_of fun c => by simp; omega)).has rfl (news := [.int .i64 c.1, .int .i64 c.2.size]) rfl (news_of (heap_alloc_new _ _)) (by simp [Value.oneCell']) h63 hby ?_; intro a9 p9 l9 w6 hr9 V9 hno; have HV9 := uh (((T6.out.perm (perm_of fun c => by simp; omega)).trans V9).perm (l2 := [(w5.heap.size, .cells #[.int .i64 c.1, .int .i64 c.2.size] 142), (nb, .cells #[.int .i64 c.1, .int .u8 c.2.tag, .int .i64 c.2.typ, .int .i64 c.2.len, .int .i64 c.2.size] 81)] ++ (l9 ++ l8)) (perm_of fun c => by simp; omega)); have Hr9 := uh hr9; clear V9 hr9 hno)
       | fail)
      go_roundw
      case rel =>
       have hl1 : (gaps (cs.take (i + 1))).length = (gaps (cs.take i)).length + 1 := by rw [HSn.out]; simp
       refine ⟨i + 1, a9, p9, l9, by omega, by go_num, by rw [hl1], ?_, HV9.out.drop⟩
       rw [hl1, HSn.out, runs_append]
       exact Hr9.out
      case measure => simp [intOf]; omega
  · obtain rfl : i = cs.length := by omega
    have hnl : ¬ ((cs.length : Nat) : Int) < (cs.length : Int) := by omega
    rw [List.take_length] at hr4 ⊢
    have Hr4 := uh hr4
    have HV := uh V
    clear hr4 V
    go_wp2_with fail
    go_ret
    exact ⟨a4, p4, rfl, lr, Hr4.out, HV.out.sub (List.sublist_append_left lr l8)⟩
theorem sizes_next {cs : List Ce} {i : Nat} {c : Ce} (hc : cs[i]? = some c) : sizesOf (cs.take (i + 1)) = sizesOf (cs.take i) ++ [c.2.size] := sizesOf_next hc
theorem sizes_le (cs : List Ce) (i : Nat) : (sizesOf (cs.take i)).length ≤ i := by
 unfold sizesOf
 rw [List.length_map, List.length_take]
 omega
theorem sizes_small {L : List Ty} {W : List Nat} {cs os : List Ce} {g e : Nat} (hC : Chain L W g cs e) (ho : ∀ c ∈ os, c ∈ cs) (he : e ≤ 65536) : ∀ n ∈ sizesOf os, n ≤ 65536 := by
 intro n hn
 unfold sizesOf at hn
 rw [List.mem_map] at hn
 obtain ⟨c, hc, rfl⟩ := hn
 have := (hC.mem c (ho c hc)).2.1
 omega
set_option maxRecDepth 100000 in
set_option maxHeartbeats 3200000 in
theorem sclasses (w : World) (sb a aw tb : Nat) {W : List Nat} (tao : Option Addr) (tcap : Nat) (L : List Ty) (hA : SpAt w sb a aw tb W tao tcap L) (hf : W.length ≤ 65536) (hu : ∀ v ∈ W, v < 18446744073709551616) (hTy : ∀ t ∈ L, TyIn t) (hL : L.length ≤ 1000)
  (cs : List Ce) (hC : Chain L W 0 cs (W.length / 2)) :
  Calls Tryz.prog 15 #[.pointer (some ⟨sb, 0, none⟩)] w fun e w' => ∃ ao cap l, e = .returned (.slice ao (clsOf (sizesOf (objs cs))).length cap) ∧ Row 3 1 ao (clsOf (sizesOf (objs cs))).length cap (nats (clsOf (sizesOf (objs cs)))) l ∧ Turn [] w l w' := by
 have HC := uh (wobjects w sb a aw tb tao tcap L hA hf hu hTy hL cs hC)
 have hlen := hC.len
 have hll : (objs cs).length ≤ 32768 := by
  have : (objs cs).length ≤ cs.length := by unfold objs; exact List.length_filter_le ..
  omega
 have Hsm := uh (sizes_small (os := objs cs) hC (fun c hc => (objs_mem hc).1) (by omega))
 have hsz := sz_cell
 generalize objs cs = os at *
 have Hle := uh (sizes_le os)
 have Hsn := uh (fun j c (hc : os[j]? = some c) => sizes_next hc)
 clear hA hC hu hTy hlen
 go_enter Tryz.func15, Tryz.ntmps15
 go_wp2_with fail
 refine HC.out.mono ?_
 rintro e w2 ⟨a8, p8, l8, rfl, hrow, T2⟩
 have HT2 := uh T2
 have Hrow := uh hrow
 clear hrow T2 HC
 go_wp2_with fail
 go_loopw [3, 9] (fun v4 v10 wr => ∃ (i : Nat) (a4 : Option Addr) (p4 : Nat) (lr : List Blk), i ≤ os.length ∧ v10 = .int .i64 i ∧ v4 = .slice a4 (sizesOf (os.take i)).length p4 ∧ Row 3 1 a4 (sizesOf (os.take i)).length p4 (nats (sizesOf (os.take i))) lr ∧ Turn [] w (lr ++ l8) wr) (fun _ v10 _ => os.length - (intOf v10).toNat)
 case atStart => exact ⟨0, none, 0, [], Nat.zero_le _, by go_num, rfl, Row.nil _ _, HT2.out⟩
 case round =>
  clear HT2
  obtain ⟨i, a4, p4, lr, hi, rfl, rfl, hr4, V⟩ := hrel
  by_cases hlt : i < os.length
  · have hlt' : (i : Int) < (os.length : Int) := by omega
    obtain ⟨c, hc⟩ : ∃ c, os[i]? = some c := ⟨os[i], List.getElem?_eq_getElem hlt⟩
    have hS8 := Hrow.out.src (V.has.perm (l' := l8 ++ lr) (perm_of fun c => by simp; omega))
    obtain ⟨b, off, rfl, -⟩ := hS8.form (by rw [ces_length]; omega)
    have hrg : wr.rangeAt b (off + i * 5) [.int .i64 c.1, .int .u8 c.2.tag, .int .i64 c.2.typ, .int .i64 c.2.len, .int .i64 c.2.size] := hS8.ce hc
    have HSn := uh (Hsn.out i c hc)
    have hle := Hle.out i
    have T3 := V.alloc (.cells #[.int .i64 0, .int .u8 0, .int .i64 0, .int .i64 0, .int .i64 0] 81)
    have hth : (wr.alloc (.cells #[.int .i64 0, .int .u8 0, .int .i64 0, .int .i64 0, .int .i64 0] 81)).there wr.heap.size 0 5 := T3.there1
    have HT3 := uh (T3.laid [.int .i64 c.1, .int .u8 c.2.tag, .int .i64 c.2.typ, .int .i64 c.2.len, .int .i64 c.2.size] rfl)
    have hoC := ce_one c
    have Hr4 := uh hr4
    have h63 : (sizesOf (os.take i)).length + 1 ≤ maxLen := by unfold maxLen; omega
    have hby : ((sizesOf (os.take i)).length + 1) * 8 ≤ 140737488355328 := by omega
    clear T3 V hc hr4 hS8
    go_wp2_with (first
     | (show wpList _ _ _ (⟨_, Op.load 81 _, _, _, _, _⟩ :: _) _ _; refine wpList_load_mid rfl 81 _ rfl b (off + i * 5) rfl [.int .i64 c.1, .int .u8 c.2.tag, .int .i64 c.2.typ, .int .i64 c.2.len, .int .i64 c.2.size] _ hrg Tryz.underlying81 rfl hsz ?_; clear hrg)
     | (show wpList _ _ _ (⟨_, Op.store 81 _ _, _, _, _, _⟩ :: _) _ _; refine wpList_store_mid rfl 81 _ _ rfl wr.heap.size 0 #[.int .i64 c.1, .int .u8 c.2.tag, .int .i64 c.2.typ, .int .i64 c.2.len, .int .i64 c.2.size] rfl rfl hth hsz hoC ?_; clear hth; generalize (wr.alloc (.cells #[.int .i64 0, .int .u8 0, .int .i64 0, .int .i64 0, .int .i64 0] 81)).setCells wr.heap.size 0 [.int .i64 c.1, .int .u8 c.2.tag, .int .i64 c.2.typ, .int .i64 c.2.len, .int .i64 c.2.size] = w3 at *; generalize wr.heap.size = nb at *; have q4 := HT3.out.cell1 4)
     | (at_builtin; have T6 := uh (HT3.out.alloc (.cells #[.int .i64 c.2.size] 3)); refine wpList_append_row rfl _ _ rfl el_int rfl Hr4.out (R := (w3.heap.size, .cells #[.int .i64 c.2.size] 3) :: (nb, .cells #[.int .i64 c.1, .int .u8 c.2.tag, .int .i64 c.2.typ, .int .i64 c.2.len, .int .i64 c.2.size] 81) :: l8) (T6.out.perm (perm_of fun c => by simp; omega)).has rfl (news := [.int .i64 c.2.size]) rfl (news_of (heap_alloc_new _ _)) (by simp [Value.oneCell']) h63 hby ?_; intro a9 p9 l9 w6 hr9 V9 hno; have HV9 := uh (((T6.out.perm (perm_of fun c => by simp; omega)).trans V9).perm (l2 := [(w3.heap.size, .cells #[.int .i64 c.2.size] 3), (nb, .cells #[.int .i64 c.1, .int .u8 c.2.tag, .int .i64 c.2.typ, .int .i64 c.2.len, .int .i64 c.2.size] 81)] ++ (l9 ++ l8)) (perm_of fun c => by simp; omega)); have Hr9 := uh hr9; clear V9 hr9 hno)
     | fail)
    go_roundw
    case rel =>
     have hl1 : (sizesOf (os.take (i + 1))).length = (sizesOf (os.take i)).length + 1 := by rw [HSn.out]; simp
     refine ⟨i + 1, a9, p9, l9, by omega, by go_num, by rw [hl1], ?_, HV9.out.drop⟩
     rw [hl1, HSn.out, nats_append]
     exact Hr9.out
    case measure => simp [intOf]; omega
  · obtain rfl : i = os.length := by omega
    have hnl : ¬ ((os.length : Nat) : Int) < (os.length : Int) := by omega
    rw [List.take_length] at hr4 ⊢
    have hsl : (sizesOf os).length ≤ 65536 := by unfold sizesOf; rw [List.length_map]; omega
    have HCl := uh (classes wr (sizesOf os) a4 p4 (hr4.src V.has) hsl Hsm.out)
    have HV := uh V
    clear hr4 V
    go_wp2_with fail
    refine HCl.out.mono ?_
    rintro e w9 ⟨a9, p9, l9, rfl, hr9, T9⟩
    have Hr9 := uh hr9
    have HT9 := uh (HV.out.grow T9)
    clear hr9 T9 HCl HV
    go_wp2_with fail
    go_ret
    exact ⟨a9, p9, l9, rfl, Hr9.out, HT9.out.sub (List.sublist_append_left l9 _)⟩
set_option maxRecDepth 100000 in
set_option maxHeartbeats 3200000 in
theorem sgaps (w : World) (sb a aw tb : Nat) {W : List Nat} (tao : Option Addr) (tcap : Nat) (L : List Ty) (hA : SpAt w sb a aw tb W tao tcap L) (hf : W.length ≤ 65536) (hu : ∀ v ∈ W, v < 18446744073709551616) (hTy : ∀ t ∈ L, TyIn t) (hL : L.length ≤ 1000)
  (cs : List Ce) (hC : Chain L W 0 cs (W.length / 2)) :
  Calls Tryz.prog 12 #[.pointer (some ⟨sb, 0, none⟩)] w fun e w' => ∃ ao cap l, e = .returned (.slice ao (clsOf (sizesOf (gaps cs))).length cap) ∧ Row 3 1 ao (clsOf (sizesOf (gaps cs))).length cap (nats (clsOf (sizesOf (gaps cs)))) l ∧ Turn [] w l w' := by
 have HC := uh (fun w' (hB : Below w.heap.size w w') ta tc hT => wgaps w' sb a aw tb tao tcap L (hA.below hB) hf hu hTy hL cs hC ta tc hT)
 have hlen := hC.len
 have hll : (gaps cs).length ≤ 32768 := by
  have : (gaps cs).length ≤ cs.length := by unfold gaps; exact List.length_filter_le ..
  omega
 have Hsm := uh (sizes_small (os := gaps cs) hC (fun c hc => (List.mem_filter.1 hc).1) (by omega))
 generalize gaps cs = os at *
 have Hle := uh (sizes_le os)
 have Hsn := uh (fun j c (hc : os[j]? = some c) => sizes_next hc)
 have hsz : (Tryz.prog.info? 142).map (·.size) = some 2 := by kernel_rfl
 have HT0 := uh ((Turn.refl (Has.nil w)).alloc (.cells #[.int .u8 2, .int .u8 3] 5))
 clear hA hC hu hTy hlen
 go_enter Tryz.func12, Tryz.ntmps12
 have hsrc : Src (w.alloc (.cells #[.int .u8 2, .int .u8 3] 5)) (some ⟨w.heap.size, 0, none⟩) 2 2 1 (u8s [2, 3]) := by
  refine ⟨rfl, fun h => (by cases h), fun ad h j u hu => ?_⟩
  cases h
  rw [add_lit, Nat.zero_add, HT0.out.cell1 j]
  simpa [u8s] using hu
 have HC1 := uh (HC.out _ HT0.out.below _ 2 hsrc)
 clear hsrc HC
 go_wp2_with fail
 refine HC1.out.mono ?_
 rintro e w2 ⟨a8, p8, l8, rfl, hrow, T2⟩
 have HT2 := uh ((HT0.out.grow T2).sub (List.sublist_append_left l8 _))
 have Hrow := uh hrow
 clear hrow T2 HC1 HT0
 go_wp2_with fail
 go_loopw [3, 10] (fun v4 v10 wr => ∃ (i : Nat) (a4 : Option Addr) (p4 : Nat) (lr : List Blk), i ≤ os.length ∧ v10 = .int .i64 i ∧ v4 = .slice a4 (sizesOf (os.take i)).length p4 ∧ Row 3 1 a4 (sizesOf (os.take i)).length p4 (nats (sizesOf (os.take i))) lr ∧ Turn [] w (lr ++ l8) wr) (fun _ v10 _ => os.length - (intOf v10).toNat)
 case atStart => exact ⟨0, none, 0, [], Nat.zero_le _, by go_num, rfl, Row.nil _ _, HT2.out⟩
 case round =>
  clear HT2
  obtain ⟨i, a4, p4, lr, hi, rfl, rfl, hr4, V⟩ := hrel
  by_cases hlt : i < os.length
  · have hlt' : (i : Int) < (os.length : Int) := by omega
    obtain ⟨c, hc⟩ : ∃ c, os[i]? = some c := ⟨os[i], List.getElem?_eq_getElem hlt⟩
    have hS8 := Hrow.out.src (V.has.perm (l' := l8 ++ lr) (perm_of fun c => by simp; omega))
    obtain ⟨b, off, rfl, hcx⟩ := hS8.form (by rw [runs_length]; omega)
    have hrg : wr.rangeAt b (off + i * 2) [.int .i64 c.1, .int .i64 c.2.size] := by
     intro k v hv
     have hk : k < 2 := (List.getElem?_eq_some_iff.1 hv).1
     have h2 := runs_get hc
     rw [Nat.add_assoc]
     match k, hk with
     | 0, _ => cases hv; exact hcx _ _ h2.1
     | 1, _ => cases hv; exact hcx _ _ h2.2
    have T3 := V.alloc (.cells #[.int .i64 0, .int .i64 0] 142)
    have hth : (wr.alloc (.cells #[.int .i64 0, .int .i64 0] 142)).there wr.heap.size 0 2 := T3.there1
    have HT3 := uh (T3.laid [.int .i64 c.1, .int .i64 c.2.size] rfl)
    have hoC : (#[.int .i64 c.1, .int .i64 c.2.size] : Array Value).all (·.oneCell') = true := all_one (cs := [.int .i64 c.1, .int .i64 c.2.size]) (by simp [Value.oneCell'])
    have HSn := uh (Hsn.out i c hc)
    have hle := Hle.out i
    have Hr4 := uh hr4
    have h63 : (sizesOf (os.take i)).length + 1 ≤ maxLen := by unfold maxLen; omega
    have hby : ((sizesOf (os.take i)).length + 1) * 8 ≤ 140737488355328 := by omega
    clear V hc hr4 hS8 hcx T3
    go_wp2_with (first
     | (show wpList _ _ _ (⟨_, Op.load 142 _, _, _, _, _⟩ :: _) _ _; refine wpList_load_mid rfl 142 _ rfl b (off + i * 2) rfl [.int .i64 c.1, .int .i64 c.2.size] _ hrg Tryz.underlying142 rfl hsz ?_; clear hrg)
     | (show wpList _ _ _ (⟨_, Op.store 142 _ _, _, _, _, _⟩ :: _) _ _; refine wpList_store_mid rfl 142 _ _ rfl wr.heap.size 0 #[.int .i64 c.1, .int .i64 c.2.size] rfl rfl hth hsz hoC ?_; clear hth; generalize (wr.alloc (.cells #[.int .i64 0, .int .i64 0] 142)).setCells wr.heap.size 0 [.int .i64 c.1, .int .i64 c.2.size] = w3 at *; generalize wr.heap.size = nb at *; have q1 := HT3.out.cell1 1)
     | (at_builtin; have T6 := uh (HT3.out.alloc (.cells #[.int .i64 c.2.size] 3)); refine wpList_append_row rfl _ _ rfl el_int rfl Hr4.out (R := (w3.heap.size, .cells #[.int .i64 c.2.size] 3) :: (nb, .cells #[.int .i64 c.1, .int .i64 c.2.size] 142) :: l8) (T6.out.perm (perm_of fun c => by simp; omega)).has rfl (news := [.int .i64 c.2.size]) rfl (news_of (heap_alloc_new _ _)) (by simp [Value.oneCell']) h63 hby ?_; intro a9 p9 l9 w6 hr9 V9 hno; have HV9 := uh (((T6.out.perm (perm_of fun c => by simp; omega)).trans V9).perm (l2 := [(w3.heap.size, .cells #[.int .i64 c.2.size] 3), (nb, .cells #[.int .i64 c.1, .int .i64 c.2.size] 142)] ++ (l9 ++ l8)) (perm_of fun c => by simp; omega)); have Hr9 := uh hr9; clear V9 hr9 hno)
     | fail)
    go_roundw
    case rel =>
     have hl1 : (sizesOf (os.take (i + 1))).length = (sizesOf (os.take i)).length + 1 := by rw [HSn.out]; simp
     refine ⟨i + 1, a9, p9, l9, by omega, by go_num, by rw [hl1], ?_, HV9.out.drop⟩
     rw [hl1, HSn.out, nats_append]
     exact Hr9.out
    case measure => simp [intOf]; omega
  · obtain rfl : i = os.length := by omega
    have hnl : ¬ ((os.length : Nat) : Int) < (os.length : Int) := by omega
    rw [List.take_length] at hr4 ⊢
    have hsl : (sizesOf os).length ≤ 65536 := by unfold sizesOf; rw [List.length_map]; omega
    have HCl := uh (classes wr (sizesOf os) a4 p4 (hr4.src V.has) hsl Hsm.out)
    have HV := uh V
    clear hr4 V
    go_wp2_with fail
    refine HCl.out.mono ?_
    rintro e w9 ⟨a9, p9, l9, rfl, hr9, T9⟩
    have Hr9 := uh hr9
    have HT9 := uh (HV.out.grow T9)
    clear hr9 T9 HCl HV
    go_wp2_with fail
    go_ret
    exact ⟨a9, p9, l9, rfl, Hr9.out, HT9.out.sub (List.sublist_append_left l9 _)⟩
end
end Go.Proofs.YtbecgkejdacidaaGreatDoor
