/-
  A part of a proof: texts packed by a program of mine (Sz4, Sz5, Pb3, Sz6, Sz7, Sz8, Sz9, Sz10, Sz11, Sn2, Sn3, Sn4, Sz12, Sz13, Sr1).
  Conditions: those that each theorem states.
-/
import Derived.Laws.EntriesVeiled
import Derived.Deep.RegionLaw
import Derived.Test.YtbecgkejdacidaaGreatDoorQa3
namespace Go.Proofs.YtbecgkejdacidaaGreatDoor
section
open Go Go.RowKit Go.Shelf Go.IntWalk
attribute [local go_sem] Oper.semAt_some
theorem stepIn_store {F : Fence} {nn : Nat} {P : Program} {ops : Array Oper} {Q : Exit → Act → World → Prop} {o : Oper} {ts : List Value} {ds : List Deferred} {K : Act → World → Prop} {E : Prop} {w : World} (hdst : o.dst = none) (hg : o.guard = none) (ty : TypeId) (x y : Operand) (ho : o.op = .store ty x y)
  (b off : Nat) (cells : Array Value) (hx : Act.eval { tmps := ts.toArray, defers := ds } x = .pointer (some ⟨b, off, none⟩)) (hy : Act.eval { tmps := ts.toArray, defers := ds } y = .agg cells)
  (ht : w.there b off cells.size) (hi : (P.info? ty).map (·.size) = some cells.size) (h1 : cells.all (·.oneCell') = true) (hF : Follows F nn P) (hK : K { tmps := ts.toArray, defers := ds } (w.setCells b off cells.toList)) :
  if Region.wanted o (yielded ops (Act.tmps { tmps := ts.toArray, defers := ds })) = true then Oper.wpIn F nn P o { tmps := ts.toArray, defers := ds } w K Q else E := by
 have hw : Region.wanted o (yielded ops (Act.tmps { tmps := ts.toArray, defers := ds })) = true := by simp [Region.wanted, hg]
 rw [if_pos hw]
 refine hF.op o _ w K Q (by intro c hc; rw [ho] at hc; cases hc) ?_
 refine wp_store_mid ty x y ho b off cells hx hy ht hi h1 ?_
 simpa [Act.put, hdst] using hK
theorem wpIn_mid1 {F : Fence} {nn : Nat} {P : Program} {c : Code} {Q : Exit → Act → World → Prop} {a : Act} {w : World} {I : Nat → World → Prop} {FA : Nat → Act} (h : c.wpIn F nn P (fun e a w => e = .normal ∧ ∃ b : Nat, a = FA b ∧ I b w) a w) (hq : ∀ b w, I b w → Q .normal (FA b) w) : c.wpIn F nn P Q a w :=
 wpIn_mono h fun e a w ⟨he, b, ha, hI⟩ => by subst he; subst ha; exact hq b w hI
def putBx (s sb : Nat) (g id n : Nat) (er : Value) : List Blk :=
 [(s + 1 + 1 + 1 + 1, .cells #[er] 33), (s + 1 + 1 + 1, .cells #[.int .i64 n] 3), (s + 1 + 1, .cells #[.int .i64 id] 3), (s + 1, .cells #[.int .i64 g] 3), (s, .cells #[.pointer (some ⟨sb, 0, none⟩)] 26)]
theorem putBx_cells (s sb g id n : Nat) (er : Value) : ∀ x ∈ putBx s sb g id n er, x.2.isCells = true := by
 intro x hx
 simp only [putBx, List.mem_cons, List.not_mem_nil, or_false] at hx
 rcases hx with rfl | rfl | rfl | rfl | rfl <;> rfl
def PutEnd (sb a aw tb bb : Nat) (W B : List Nat) (lb : List Blk) (cw : Int) (cs : List Ce) (g id n sz z : Nat) (er : Int) (l' : List Blk) : Prop :=
 (er = 3 ∧ l' = arBlks a aw W cw ++ (spBlk sb a tb bb :: lb) ∧ ∀ c ∈ cs, ¬ takes c g sz) ∨
 (er = 0 ∧ ∃ c ∈ cs, takes c g sz ∧ ∃ (B' : List Nat) (lb' : List Blk) (cw' : Int), SetIn B B' g 1 ∧ BitIs bb B' z lb' ∧ l' = arBlks a aw (putW W c g ⟨1, id, n, sz⟩) cw' ++ (spBlk sb a tb bb :: lb'))
theorem arBlks_cells (a aw : Nat) (W : List Nat) (n : Int) : ∀ x ∈ arBlks a aw W n, x.2.isCells = true := by
 intro x hx
 simp only [arBlks, List.mem_cons, List.not_mem_nil, or_false] at hx
 rcases hx with rfl | rfl <;> rfl
theorem PutEnd.cells {sb a aw tb bb : Nat} {W B : List Nat} {lb : List Blk} {cw : Int} {cs : List Ce} {g id n sz z : Nat} {er : Int} {l' : List Blk} (hB : BitIs bb B z lb) (h : PutEnd sb a aw tb bb W B lb cw cs g id n sz z er l') : ∀ x ∈ l', x.2.isCells = true := by
 have go : ∀ {W' : List Nat} {c : Int} {B' : List Nat} {lb' : List Blk}, BitIs bb B' z lb' → ∀ x ∈ arBlks a aw W' c ++ (spBlk sb a tb bb :: lb'), x.2.isCells = true := by
  intro W' c B' lb' hb x hx
  rcases List.mem_append.1 hx with hx | hx
  · exact arBlks_cells _ _ _ _ x hx
  · rcases List.mem_cons.1 hx with rfl | hx
    · rfl
    · exact hb.cells x hx
 rcases h with ⟨-, rfl, -⟩ | ⟨-, c, -, -, B', lb', cw', -, hb, rfl⟩
 · exact go hB
 · exact go hb
theorem KxC.of {Bs sb m nb : Nat} {onb oB oS : Obj} {X X' : List Blk} {A B : World} (h : Turn ((nb, onb) :: X) A ((nb, onb) :: X') B) (hH : Has A ((nb, onb) :: X)) (hX : ∀ b ∈ keys X, b < m) (h1 : (Bs, oB) ∈ X) (h1' : (Bs, oB) ∈ X') (h2 : (sb, oS) ∈ X) (h2' : (sb, oS) ∈ X') : KxC Bs sb m A B := by
 refine ⟨(h.has.own _ _ (List.mem_cons_of_mem _ h1')).trans (hH.own _ _ (List.mem_cons_of_mem _ h1)).symm, (h.has.own _ _ (List.mem_cons_of_mem _ h2')).trans (hH.own _ _ (List.mem_cons_of_mem _ h2)).symm, fun b o e1 _ e3 => ?_⟩
 by_cases hb : b = nb
 · subst hb
   rw [hH.own _ _ (List.mem_cons_self ..)] at e1
   cases e1
   exact h.has.own _ _ (List.mem_cons_self ..)
 · refine (h.same b (lt_of_block e1) (fun hm => ?_)).trans e1
   simp only [keys, List.map_cons, List.mem_cons] at hm
   rcases hm with hm | hm
   · exact hb hm
   · have := hX b hm
     omega
theorem KpC.refl (n₀ Bs : Nat) (D : Nat → Prop) (A : World) : KpC n₀ Bs D A A := ⟨Below.refl _ _, rfl, Nat.le_refl _, fun _ _ h _ _ => h⟩
theorem chain_upto {L : List Ty} {W : List Nat} {g : Nat} : ∀ {cs : List Ce} {a e : Nat}, Chain L W a cs e → a ≤ g → (∀ c ∈ cs, c.1 + c.2.size ≤ g) → e ≤ g
 | [], _, _, h, ha, _ => by cases h; exact ha
 | c :: cs, a, e, h, _, hc => chain_upto h.2.2 (by have := hc c (List.mem_cons_self ..); have := h.1; omega) (fun d hd => hc d (List.mem_cons_of_mem _ hd))
def ceObj (x : Ce) : Obj := .cells #[.int .i64 x.1, .int .u8 x.2.tag, .int .i64 x.2.typ, .int .i64 x.2.len, .int .i64 x.2.size] 81
set_option maxRecDepth 100000 in
set_option maxHeartbeats 6400000 in
theorem sput_in (nn : Nat) (hn : 5 ≤ nn) {w0 : World} (w : World) (sb a aw tb bb : Nat) {W B : List Nat} {lb R : List Blk} {cw : Int} (tao : Option Addr) (tcap : Nat) (L : List Ty) (hA : SpAt w sb a aw tb W tao tcap L) (hB : BitIs bb B (W.length / 2) lb) (hBu : u64ok B) (hBl : (W.length / 2 + 63) / 64 ≤ B.length) (hRc : ∀ x ∈ R, x.2.isCells = true)
  (T : Turn [] w0 (arBlks a aw W cw ++ (spBlk sb a tb bb :: lb) ++ R) w) (hTab : TabAt w0 tb tao tcap L) (hF0 : Fields w0) (hf : W.length ≤ 65536) (hu : ∀ v ∈ W, v < 18446744073709551616) (hTy : ∀ t ∈ L, TyIn t) (hL : L.length ≤ 1000)
  (cs : List Ce) (hC : Chain L W 0 cs (W.length / 2)) (g id n sz : Nat) (he : tyErr L id n = 0) (hs : tySize L id n = sz) (hm : (Hd.mk 1 id n sz).may) (hg : g < W.length / 2) :
  CallsIn Fence.wide nn Tryz.prog 16 #[.pointer (some ⟨sb, 0, none⟩), .int .i64 g, .int .i64 id, .int .i64 n] w fun e w' => ∃ (er : Int) (l' : List Blk), e = .returned (.int .i64 er) ∧ Turn [] w0 (l' ++ R) w' ∧ PutEnd sb a aw tb bb W B lb cw cs g id n sz (W.length / 2) er l' := by
 have h1 : 1 ≤ nn := by omega
 have h2 : 1 ≤ nn - 1 - 1 := by omega
 have h3 : Fence.wide.fn 16 := trivial
 have h5 : Fence.wide.fn 65 := trivial
 have h6 : Fence.wide.fn 64 := trivial
 have h7 : Fence.wide.fn 149 := trivial
 have h8 : Fence.wide.fn 13 := trivial
 have hro : Fence.wide.round = none := rfl
 have hszH := sz_head
 have hoH := hd_one ⟨1, id, n, sz⟩
 simp only at hoH
 have Hof := uh (fun w' (hB : Below w.heap.size w w') => hof w' L hTy hL tb tao tcap (hA.below hB).tab id n)
 unfold ofCells at Hof
 rw [he, if_pos rfl, hs] at Hof
 have Hgr := uh (fun w' (hB : Below w.heap.size w w') => sgran w' (hA.below hB).c0 (hA.below hB).ar hf)
 have T0 := (((((Turn.refl (Has.nil w)).alloc (.cells #[.pointer (some ⟨sb, 0, none⟩)] 26)).alloc (.cells #[.int .i64 g] 3)).alloc (.cells #[.int .i64 id] 3)).alloc (.cells #[.int .i64 n] 3)).alloc (.cells #[.int .i64 0] 33)
 simp only [World.size_alloc] at T0
 have HT0 : Hid (Turn [] w (putBx w.heap.size sb g id n (.int .i64 0)) (((((w.alloc (.cells #[.pointer (some ⟨sb, 0, none⟩)] 26)).alloc (.cells #[.int .i64 g] 3)).alloc (.cells #[.int .i64 id] 3)).alloc (.cells #[.int .i64 n] 3)).alloc (.cells #[.int .i64 0] 33))) := uh T0
 have hq0 : ∀ w' (Y : List Blk), Turn [] w (Y ++ putBx w.heap.size sb g id n (.int .i64 0)) w' → w'.cell? ⟨w.heap.size, 0, none⟩ = some (.pointer (some ⟨sb, 0, none⟩)) := fun w' Y V => V.has.cell (b := w.heap.size) (c := #[.pointer (some ⟨sb, 0, none⟩)]) (e := 26) (f := (0, 0)) (by simp [putBx]) 0
 have hq := hq0 _ [] HT0.out
 have HS := uh (fun w' (Y : List Blk) (V : Turn [] w (Y ++ putBx w.heap.size sb g id n (.int .i64 0)) w') => (⟨hq0 w' Y V, (hA.below V.below).c1,
    V.has.cell (b := w.heap.size + 1 + 1) (c := #[.int .i64 id]) (e := 3) (f := (0, 0)) (by simp [putBx]) 0, V.has.cell (b := w.heap.size + 1 + 1 + 1) (c := #[.int .i64 n]) (e := 3) (f := (0, 0)) (by simp [putBx]) 0⟩ :
    w'.cell? ⟨w.heap.size, 0, none⟩ = some (.pointer (some ⟨sb, 0, none⟩)) ∧ w'.cell? ⟨sb, 1, none⟩ = some (.pointer (some ⟨tb, 0, none⟩)) ∧ w'.cell? ⟨w.heap.size + 1 + 1, 0, none⟩ = some (.int .i64 id) ∧ w'.cell? ⟨w.heap.size + 1 + 1 + 1, 0, none⟩ = some (.int .i64 n)))
 have HS6 := uh (fun w' (Y : List Blk) (V : Turn [] w (Y ++ putBx w.heap.size sb g id n (.int .i64 0)) w') => (⟨hq0 w' Y V, V.has.cell (b := w.heap.size + 1) (c := #[.int .i64 g]) (e := 3) (f := (0, 0)) (by simp [putBx]) 0⟩ :
    w'.cell? ⟨w.heap.size, 0, none⟩ = some (.pointer (some ⟨sb, 0, none⟩)) ∧ w'.cell? ⟨w.heap.size + 1, 0, none⟩ = some (.int .i64 g)))
 have Hmake := uh (fun (l0 Lr : List Blk) (wa w' : World) (c : Int) (V : Turn l0 wa (arBlks a aw W c ++ Lr) w') (hF : Fields w') (hT : TabAt w' tb tao tcap L) (hr : g + sz ≤ W.length / 2) => smake w' hF V hf L hTy hL tao tcap hT g id n sz he hs hm hr)
 have HA := uh hA
 have HT := uh T
 have HB := uh hB
 have HTab := uh hTab
 have HF0 := uh hF0
 have HC := uh hC
 have hzb : W.length / 2 ≤ 32768 := by omega
 obtain ⟨z, hz⟩ : ∃ z : Nat, W.length / 2 = z := ⟨_, rfl⟩
 rw [hz] at Hgr HB hg HC hBl hzb ⊢
 have HZ := uh hz
 have k0 : decide ((g : Int) < 0) = false := decide_eq_false (by omega)
 have k1 : decide ((z : Int) ≤ (g : Int)) = false := decide_eq_false (by omega)
 have k2 : decide (z ≤ g) = false := decide_eq_false (by omega)
 clear T0 hA T hB hTab hF0 hC hz he hs hq0
 refine callsIn_of_wp_marks Tryz.func16 rfl h3 ?_ hro
 simp only [Tryz.ntmps16, List.size_toArray, List.length_cons, List.length_nil, Nat.reduceAdd, Nat.reduceSub, Array.replicate_succ, Array.replicate_zero, List.push_toArray, List.append_toArray, List.nil_append, List.cons_append]
 gi_wp2_with fail
 have HT1 := uh HT0.out.drew
 generalize ((((w.alloc (.cells #[.pointer (some ⟨sb, 0, none⟩)] 26)).alloc (.cells #[.int .i64 g] 3)).alloc (.cells #[.int .i64 id] 3)).alloc (.cells #[.int .i64 n] 3)).alloc (.cells #[.int .i64 0] 33) = W1 at *
 clear HT0 hq
 apply wpIn_mid1 (I := fun b9 w' => Turn [] w ((b9, .cells #[.int .u8 1, .int .i64 id, .int .i64 n, .int .i64 sz] 79) :: putBx w.heap.size sb g id n (.int .i64 0)) w')
 case h =>
  have T1 := HT1.out
  have hS1 := HS.out _ [] T1
  refine wpIn_region_noPanic ?_
  refine wpIn_region_listedHI (S := fun W' => W'.cell? ⟨w.heap.size, 0, none⟩ = some (.pointer (some ⟨sb, 0, none⟩)) ∧ W'.cell? ⟨sb, 1, none⟩ = some (.pointer (some ⟨tb, 0, none⟩)) ∧ W'.cell? ⟨w.heap.size + 1 + 1, 0, none⟩ = some (.int .i64 id) ∧ W'.cell? ⟨w.heap.size + 1 + 1 + 1, 0, none⟩ = some (.int .i64 n)) 13 [false, false, false, false, false, false, false, false, false, false, false, false, false] rfl rfl (by kernel_rfl) ?_
  refine takeGI 0 17 hro rfl rfl (by rfl) (by kernel_rfl) (by kernel_rfl) (by kernel_rfl) (fun _ _ _ _ h => h) hS1 (fun _ => rfl) (by (intro w hSw; have hc := hSw.1; clear hSw; go_simp; try rfl)) ?_
  simp only [st1, st2]
  refine takeGI 1 18 hro rfl rfl (by rfl) (by kernel_rfl) (by kernel_rfl) (by kernel_rfl) (fun _ _ _ _ h => h) hS1 (fun _ => rfl) (by (intro w hSw; clear hSw; go_simp; try rfl)) ?_
  simp only [st1, st2]
  refine takeGI 2 19 hro rfl rfl (by rfl) (by kernel_rfl) (by kernel_rfl) (by kernel_rfl) (fun _ _ _ _ h => h) hS1 (fun _ => rfl) (by (intro w hSw; clear hSw; go_simp; try rfl)) ?_
  simp only [st1, st2]
  refine takeGI 3 20 hro rfl rfl (by rfl) (by kernel_rfl) (by kernel_rfl) (by kernel_rfl) (fun _ _ _ _ h => h) hS1 (fun _ => rfl) (by (intro w hSw; have hc := hSw.2.1; clear hSw; go_simp; try rfl)) ?_
  simp only [st1, st2]
  refine takeGI 4 21 hro rfl rfl (by rfl) (by kernel_rfl) (by kernel_rfl) (by kernel_rfl) (fun _ _ _ _ h => h) hS1 (fun _ => rfl) (by (intro w hSw; have hc := hSw.2.2.1; clear hSw; go_simp; try rfl)) ?_
  simp only [st1, st2]
  refine takeGI 5 22 hro rfl rfl (by rfl) (by kernel_rfl) (by kernel_rfl) (by kernel_rfl) (fun _ _ _ _ h => h) hS1 (fun _ => rfl) (by (intro w hSw; have hc := hSw.2.2.2; clear hSw; go_simp; try rfl)) ?_
  simp only [st1, st2]
  clear hS1
  generalize W1.drew = V0 at T1 ⊢
  refine wpAnyHI_two (i := 6) (j := 10) (by kernel_rfl) rfl rfl (fun K hK => ?_) (fun K hK => ?_)
  · go_simp
    refine (callsIn_wide.2 (Hof.out _ T1.below)).mono ?_
    rintro e V1 ⟨rfl, hB⟩
    have T2 := T1.call hB
    have hS2 := HS.out _ [] T2
    refine hK.out _ _ hS2 ?_
    clear hK K
    simp only [st0, st1, st2]
    refine takeGI 7 16 hro rfl rfl (by rfl) (by kernel_rfl) (by kernel_rfl) (by kernel_rfl) (fun _ _ _ _ h => h) hS2 (fun _ => rfl) (by (intro w hSw; clear hSw; go_simp; try rfl)) ?_
    simp only [st1, st2]
    refine takeGI 8 24 hro rfl rfl (by rfl) (by kernel_rfl) (by kernel_rfl) (by kernel_rfl) (fun _ _ _ _ h => h) hS2 (fun _ => rfl) (by (intro w hSw; clear hSw; go_simp; try rfl)) ?_
    simp only [st1, st2]
    refine takeGI 9 25 hro rfl rfl (by rfl) (by kernel_rfl) (by kernel_rfl) (by kernel_rfl) (fun _ _ _ _ h => h) hS2 (fun _ => rfl) (by (intro w hSw; clear hSw; go_simp; try rfl)) ?_
    simp only [st1, st2]
    refine wpAnyHI_call (i := 10) (by kernel_rfl) rfl (fun K hK => ?_)
    go_simp
    have T3 : Turn [] w ([(V1.heap.size, .cells #[.int .u8 0, .int .i64 0, .int .i64 0, .int .i64 0] 79)] ++ putBx w.heap.size sb g id n (.int .i64 0)) (V1.alloc (.cells #[.int .u8 0, .int .i64 0, .int .i64 0, .int .i64 0] 79)) := T2.alloc (.cells #[.int .u8 0, .int .i64 0, .int .i64 0, .int .i64 0] 79)
    have hS3 := HS.out _ _ T3
    refine hK.out _ _ hS3 ?_
    clear hK K
    simp only [st0, st1, st2]
    clear hS3 hS2 T2
    generalize V1.alloc (.cells #[.int .u8 0, .int .i64 0, .int .i64 0, .int .i64 0] 79) = V3 at *
    generalize V1.heap.size = b9 at *
    have hth := T3.there1
    have U := T3.laid [.int .u8 1, .int .i64 id, .int .i64 n, .int .i64 sz] rfl
    refine wpAnyHI_call (i := 11) (by kernel_rfl) rfl (fun K hK => ?_)
    refine stepIn_store rfl rfl 79 _ _ rfl _ 0 #[.int .u8 1, .int .i64 id, .int .i64 n, .int .i64 sz] rfl rfl hth hszH hoH (follows_wide _ _) ?_
    have hS4 := HS.out _ [_] U
    refine hK.out _ _ hS4 ?_
    clear hK K
    simp only [st0, st1, st2]
    refine takeGI 12 10 hro rfl rfl (by rfl) (by kernel_rfl) (by kernel_rfl) (by kernel_rfl) (fun _ _ _ _ h => h) hS4 (fun _ => rfl) (by (intro w hSw; clear hSw; go_simp; try rfl)) ?_
    simp only [st1, st2]
    refine wpAnyHI_done (by kernel_rfl) ?_ _
    refine NoPanic.normal ?_
    exact ⟨rfl, b9, rfl, U⟩
  · go_simp
    have T2 : Turn [] w ([(V0.heap.size, .cells #[.int .u8 0, .int .i64 0, .int .i64 0, .int .i64 0] 79)] ++ putBx w.heap.size sb g id n (.int .i64 0)) (V0.alloc (.cells #[.int .u8 0, .int .i64 0, .int .i64 0, .int .i64 0] 79)) := T1.alloc (.cells #[.int .u8 0, .int .i64 0, .int .i64 0, .int .i64 0] 79)
    have hS2 := HS.out _ _ T2
    refine hK.out _ _ hS2 ?_
    clear hK K
    simp only [st0, st1, st2]
    clear hS2
    generalize V0.alloc (.cells #[.int .u8 0, .int .i64 0, .int .i64 0, .int .i64 0] 79) = V2 at T2 ⊢
    generalize V0.heap.size = b9 at T2 ⊢
    refine wpAnyHI_call (i := 6) (by kernel_rfl) rfl (fun K hK => ?_)
    go_simp
    refine (callsIn_wide.2 (Hof.out _ T2.below)).mono ?_
    rintro e V3 ⟨rfl, hB⟩
    have T3 := T2.call hB
    have hS3 := HS.out _ [_] T3
    refine hK.out _ _ hS3 ?_
    clear hK K
    simp only [st0, st1, st2]
    refine takeGI 7 16 hro rfl rfl (by rfl) (by kernel_rfl) (by kernel_rfl) (by kernel_rfl) (fun _ _ _ _ h => h) hS3 (fun _ => rfl) (by (intro w hSw; clear hSw; go_simp; try rfl)) ?_
    simp only [st1, st2]
    refine takeGI 8 24 hro rfl rfl (by rfl) (by kernel_rfl) (by kernel_rfl) (by kernel_rfl) (fun _ _ _ _ h => h) hS3 (fun _ => rfl) (by (intro w hSw; clear hSw; go_simp; try rfl)) ?_
    simp only [st1, st2]
    refine takeGI 9 25 hro rfl rfl (by rfl) (by kernel_rfl) (by kernel_rfl) (by kernel_rfl) (fun _ _ _ _ h => h) hS3 (fun _ => rfl) (by (intro w hSw; clear hSw; go_simp; try rfl)) ?_
    simp only [st1, st2]
    clear hS3
    have hth := T3.there1
    have U := T3.laid [.int .u8 1, .int .i64 id, .int .i64 n, .int .i64 sz] rfl
    refine wpAnyHI_call (i := 11) (by kernel_rfl) rfl (fun K hK => ?_)
    refine stepIn_store rfl rfl 79 _ _ rfl _ 0 #[.int .u8 1, .int .i64 id, .int .i64 n, .int .i64 sz] rfl rfl hth hszH hoH (follows_wide _ _) ?_
    have hS4 := HS.out _ [_] U
    refine hK.out _ _ hS4 ?_
    clear hK K
    simp only [st0, st1, st2]
    refine takeGI 12 10 hro rfl rfl (by rfl) (by kernel_rfl) (by kernel_rfl) (by kernel_rfl) (fun _ _ _ _ h => h) hS4 (fun _ => rfl) (by (intro w hSw; clear hSw; go_simp; try rfl)) ?_
    simp only [st1, st2]
    refine wpAnyHI_done (by kernel_rfl) ?_ _
    refine NoPanic.normal ?_
    exact ⟨rfl, b9, rfl, U⟩
 case hq =>
  intro b9 w6 T5
  have HT5 := uh T5
  have T6 : Turn [] w ([(b9, .cells #[.int .u8 1, .int .i64 id, .int .i64 n, .int .i64 sz] 79)] ++ putBx w.heap.size sb g id n (.int .i64 0)) w6.drew := T5.drew
  have hS6 := HS6.out _ _ T6
  clear T5
  gi_wp2_with fail
  refine wpIn_region_noPanic ?_
  refine wpIn_region_listedHI (S := fun W' => W'.cell? ⟨w.heap.size, 0, none⟩ = some (.pointer (some ⟨sb, 0, none⟩)) ∧ W'.cell? ⟨w.heap.size + 1, 0, none⟩ = some (.int .i64 g)) 8 [false, false, false, false, false, false, false, false] rfl rfl (by kernel_rfl) ?_
  refine takeGI 0 29 hro rfl rfl (by rfl) (by kernel_rfl) (by kernel_rfl) (by kernel_rfl) (fun _ _ _ _ h => h) hS6 (fun _ => rfl) (by (intro w hSw; have hc := hSw.2; clear hSw; go_simp; try rfl)) ?_
  simp only [st1, st2]
  refine takeGI 1 30 hro rfl rfl (by rfl) (by kernel_rfl) (by kernel_rfl) (by kernel_rfl) (fun _ _ _ _ h => h) hS6 (fun _ => rfl) (by (intro w hSw; clear hSw; go_simp; try rfl)) ?_
  simp only [st1, st2]
  refine takeGI 2 31 hro rfl rfl (by rfl) (by kernel_rfl) (by kernel_rfl) (by kernel_rfl) (fun _ _ _ _ h => h) hS6 (fun _ => rfl) (by (intro w hSw; clear hSw; go_simp; try rfl)) ?_
  simp only [st1, st2]
  refine takeGI 3 32 hro rfl rfl (by rfl) (by kernel_rfl) (by kernel_rfl) (by kernel_rfl) (fun _ _ _ _ h => h) hS6 (fun _ => rfl) (by (intro w hSw; have hc := hSw.2; clear hSw; go_simp; try rfl)) ?_
  simp only [st1, st2]
  refine takeGI 4 33 hro rfl rfl (by rfl) (by kernel_rfl) (by kernel_rfl) (by kernel_rfl) (fun _ _ _ _ h => h) hS6 (fun _ => rfl) (by (intro w hSw; have hc := hSw.1; clear hSw; go_simp; try rfl)) ?_
  simp only [st1, st2]
  refine wpAnyHI_call (i := 5) (by kernel_rfl) rfl (fun K hK => ?_)
  go_simp
  refine (callsIn_wide.2 (Hgr.out _ T6.below)).mono ?_
  rintro e V6 ⟨rfl, hw6⟩
  rw [hw6]
  clear hw6 V6
  refine hK.out _ _ hS6 ?_
  clear hK K
  simp only [st0, st1, st2]
  refine takeGI 6 35 hro rfl rfl (by rfl) (by kernel_rfl) (by kernel_rfl) (by kernel_rfl) (fun _ _ _ _ h => h) hS6 (fun _ => rfl) (by (intro w hSw; clear hSw; go_simp; try rfl)) ?_
  simp only [st1, st2]
  refine takeGI 7 36 hro rfl rfl (by rfl) (by kernel_rfl) (by kernel_rfl) (by kernel_rfl) (fun _ _ _ _ h => h) hS6 (fun _ => rfl) (by (intro w hSw; clear hSw; go_simp; try rfl)) ?_
  simp only [st1, st2]
  refine wpAnyHI_done (by kernel_rfl) ?_ _
  refine NoPanic.normal ?_
  have hq6 := hS6.1
  have T7 := (HT5.out.alloc (.cells #[.pointer (some ⟨sb, 0, none⟩)] 26)).drew
  have hsz7 : w6.heap.size < (w6.alloc (.cells #[.pointer (some ⟨sb, 0, none⟩)] 26)).drew.heap.size := by simp
  have hsz6 := T6.size
  clear hS6 HS HS6 T6
  gi_wp2_with (first
   | (gi_at_call 65; refine (scells_in (nn - 1) sb _).mono ?_; rintro e w' ⟨rfl, hw⟩; rw [hw]; clear hw w')
   | fail)
  generalize (w6.alloc (.cells #[.pointer (some ⟨sb, 0, none⟩)] 26)).drew = W0 at *
  have T8 : Turn [] w ((w6.heap.size, .cells #[.pointer (some ⟨sb, 0, none⟩)] 26) :: (b9, .cells #[.int .u8 1, .int .i64 id, .int .i64 n, .int .i64 sz] 79) :: putBx w.heap.size sb g id n (.int .i64 0)) W0 := T7
  have hsz6' : w.heap.size ≤ w6.heap.size := hsz6
  clear T7 hsz6 hq6
  generalize w6.heap.size = Bs at *
  have hBs : W0.heap[Bs]? = some (.cells #[.pointer (some ⟨sb, 0, none⟩)] 26) := T8.has.own _ _ (List.mem_cons_self ..)
  have hsbl : sb < w.heap.size := World.block_lt_of_cell? w _ HA.out.c0
  have hBLc : ∀ x ∈ (Bs, .cells #[.pointer (some ⟨sb, 0, none⟩)] 26) :: (b9, .cells #[.int .u8 1, .int .i64 id, .int .i64 n, .int .i64 sz] 79) :: putBx w.heap.size sb g id n (.int .i64 0), x.2.isCells = true := by
   intro x hx
   rcases List.mem_cons.1 hx with rfl | hx
   · rfl
   rcases List.mem_cons.1 hx with rfl | hx
   · rfl
   · exact putBx_cells _ _ _ _ _ _ x hx
  apply wpIn_rangeFunc_f (β := Nat) hro h1 (gf := 149) (lb := #[.pointer (some ⟨Bs, 0, none⟩)]) rfl h7 (enters_of Tryz.func149 (by kernel_rfl) rfl)
   (scells_next (nn - 1) (by omega) w sb a aw tb W tao tcap L HA.out hf hu hTy hL cs (by rw [HZ.out]; exact HC.out) Bs (fun b => w.heap.size ≤ b ∧ b < W0.heap.size ∧ b ≠ Bs) W0 (fun b h => h.2.1) T8.below hBs)
   (fun h k => h.t k) (KpC.b T8.size hsz7) (fun h k => h.x hsbl (fun b hb => hb.2.1) k) (fun h k => h.p hsbl (fun b hb => hb.2.1) k) (Below.refl _ _) (fun _ => rfl)
   (fun pre W' => (∀ c ∈ pre, c.1 + c.2.size ≤ g) ∧ Turn [] w ((Bs, .cells #[.pointer (some ⟨sb, 0, none⟩)] 26) :: (b9, .cells #[.int .u8 1, .int .i64 id, .int .i64 n, .int .i64 sz] 79) :: putBx w.heap.size sb g id n (.int .i64 0)) W')
   (fun c pre W' => c = .ret ∧ ∃ (er : Int) (l' : List Blk), PutEnd sb a aw tb bb W B lb cw cs g id n sz z er l' ∧ Turn [] w0 (putBx w.heap.size sb g id n (.int .i64 er) ++ (l' ++ R)) W')
   (fun x nb pre W' => (∀ c ∈ pre, c.1 + c.2.size ≤ g) ∧ Turn [] w ((nb, ceObj x) :: (Bs, .cells #[.pointer (some ⟨sb, 0, none⟩)] 26) :: (b9, .cells #[.int .u8 1, .int .i64 id, .int .i64 n, .int .i64 sz] 79) :: putBx w.heap.size sb g id n (.int .i64 0)) W')
   (fun s A D row ⟨e1, hT⟩ hg hr => ⟨e1, hT.grownB T8.size hBLc hg hr⟩)
   (fun c s A D row ⟨e0, er, l', e1, hT⟩ hg hr => ⟨e0, er, l', e1, hT.grownB (Nat.le_trans HT.out.size T8.size) (fun x hx => (List.mem_append.1 hx).elim (putBx_cells _ _ _ _ _ _ x) (fun hx => (List.mem_append.1 hx).elim (e1.cells HB.out x) (hRc x))) hg hr⟩)
   (fun x nb s A D row ⟨e1, hT⟩ hg hr => ⟨e1, hT.grownB T8.size (by
     intro y hy
     rcases List.mem_cons.1 hy with rfl | hy
     · rfl
     · exact hBLc y hy) hg hr⟩)
   ⟨fun c hc => (by cases hc), T8⟩
  case hassign =>
   rintro l1 pre x W2 hnx ⟨e1, hT⟩
   have T2 := hT.alloc (.cells #[.int .i64 0, .int .u8 0, .int .i64 0, .int .i64 0, .int .i64 0] 81)
   have hth : (W2.alloc (.cells #[.int .i64 0, .int .u8 0, .int .i64 0, .int .i64 0, .int .i64 0] 81)).there W2.heap.size 0 5 := T2.there1
   have HT2 := uh (T2.laid [.int .i64 x.1, .int .u8 x.2.tag, .int .i64 x.2.typ, .int .i64 x.2.len, .int .i64 x.2.size] rfl)
   have HX := uh (((Turn.refl (Has.nil W2)).alloc (.cells #[.int .i64 0, .int .u8 0, .int .i64 0, .int .i64 0, .int .i64 0] 81)).laid [.int .i64 x.1, .int .u8 x.2.tag, .int .i64 x.2.typ, .int .i64 x.2.len, .int .i64 x.2.size] rfl)
   have hszC := sz_cell
   have hoC := ce_one x
   have hl9 : w.heap.size ≤ W2.heap.size := hT.size
   have hB9 : Bs < W2.heap.size := hT.has.lt (by simp [keys])
   unfold ceArgs
   clear T2 hnx hT
   gi_wp2_with (first
    | (show wpListIn _ _ _ _ _ (⟨_, Op.store 81 _ _, _, _, _, _⟩ :: _) _ _; refine wpListIn_by (follows_round _ _ _) rfl (by intro c h; cases h) (wp_store_mid 81 _ _ rfl _ 0 #[.int .i64 x.1, .int .u8 x.2.tag, .int .i64 x.2.typ, .int .i64 x.2.len, .int .i64 x.2.size] rfl rfl hth hszC hoC ?_); clear hth)
    | fail)
   have HK := uh (⟨((KeepsOthers.alloc _ _).trans (keepsOthers_setCells _ _ _)).from _, KpC.of HX.out hl9 hB9 (fun b hb => by cases hb) (fun b hb => ⟨hb.1, hb.2.2⟩)⟩ :
    KeepsFrom W0.heap.size W2 ((W2.alloc (.cells #[.int .i64 0, .int .u8 0, .int .i64 0, .int .i64 0, .int .i64 0] 81)).setCells W2.heap.size 0 [.int .i64 x.1, .int .u8 x.2.tag, .int .i64 x.2.typ, .int .i64 x.2.len, .int .i64 x.2.size]) ∧
    KpC w.heap.size Bs (fun b => w.heap.size ≤ b ∧ b < W0.heap.size ∧ b ≠ Bs) W2 ((W2.alloc (.cells #[.int .i64 0, .int .u8 0, .int .i64 0, .int .i64 0, .int .i64 0] 81)).setCells W2.heap.size 0 [.int .i64 x.1, .int .u8 x.2.tag, .int .i64 x.2.typ, .int .i64 x.2.len, .int .i64 x.2.size]))
   clear HX hl9 hB9 hoC
   generalize (W2.alloc (.cells #[.int .i64 0, .int .u8 0, .int .i64 0, .int .i64 0, .int .i64 0] 81)).setCells W2.heap.size 0 [.int .i64 x.1, .int .u8 x.2.tag, .int .i64 x.2.typ, .int .i64 x.2.len, .int .i64 x.2.size] = W3 at *
   generalize W2.heap.size = nb at *
   exact ⟨HK.out.1, HK.out.2, nb, rfl, e1, HT2.out⟩
  case hbody =>
   rintro l1 pre x nb W2 ⟨post, hcs⟩ ⟨e1, hT⟩
   have hch := HC.out
   rw [hcs] at hch
   obtain ⟨hc1, hst, hc2⟩ := hch.split
   have hge := chain_upto hc1 (Nat.zero_le _) e1
   have hend := hc2.le
   have hlt3 := hst.2.2
   have q0 : W2.cell? ⟨nb, 0, none⟩ = some (.int .i64 x.1) := hT.cell1 0
   have q1 : W2.cell? ⟨nb, 1, none⟩ = some (.int .u8 x.2.tag) := hT.cell1 1
   have q4 : W2.cell? ⟨nb, 4, none⟩ = some (.int .i64 x.2.size) := hT.cell1 4
   have qg : W2.cell? ⟨w.heap.size + 1, 0, none⟩ = some (.int .i64 g) := hT.has.cell (b := w.heap.size + 1) (c := #[.int .i64 g]) (e := 3) (f := (0, 0)) (by simp [putBx]) 0
   have q9 : W2.cell? ⟨b9, 3, none⟩ = some (.int .i64 sz) := hT.has.cell (b := b9) (c := #[.int .u8 1, .int .i64 id, .int .i64 n, .int .i64 sz]) (e := 79) (f := (0, 0)) (by simp) 3
   have hxm : x ∈ cs := by rw [hcs]; simp
   by_cases hskip : x.1 + x.2.size ≤ g
   · have k3 : decide ((x.1 : Int) + (x.2.size : Int) ≤ (g : Int)) = true := decide_eq_true (by omega)
     have k4 : decide (x.1 + x.2.size ≤ g) = true := decide_eq_true hskip
     have HX := uh (⟨fun c hc => (List.mem_append.1 hc).elim (e1 c) (fun h => by rw [List.mem_singleton.1 h]; exact hskip), hT.tail⟩ : (∀ c ∈ pre ++ [x], c.1 + c.2.size ≤ g) ∧ Turn [] w ((Bs, .cells #[.pointer (some ⟨sb, 0, none⟩)] 26) :: (b9, .cells #[.int .u8 1, .int .i64 id, .int .i64 n, .int .i64 sz] 79) :: putBx w.heap.size sb g id n (.int .i64 0)) W2)
     have hxb : x.1 + x.2.size ≤ 32768 := by omega
     clear hT e1 hch hc1 hst hc2 hcs HC hskip
     gi_wp2_with fail
     exact ⟨KeepsFrom.refl _ _, KpC.refl _ _ _ _, HX.out.1, HX.out.2⟩
   · have k3 : decide ((x.1 : Int) + (x.2.size : Int) ≤ (g : Int)) = false := decide_eq_false (by omega)
     have k4 : decide (x.1 + x.2.size ≤ g) = false := decide_eq_false hskip
     have hxb : x.1 + x.2.size ≤ 32768 := by omega
     have Tabs := (HT.out.grow hT)
     have TX : Turn ((nb, ceObj x) :: (((Bs, .cells #[.pointer (some ⟨sb, 0, none⟩)] 26) :: (b9, .cells #[.int .u8 1, .int .i64 id, .int .i64 n, .int .i64 sz] 79) :: putBx w.heap.size sb g id n (.int .i64 0)) ++ (arBlks a aw W cw ++ (spBlk sb a tb bb :: lb) ++ R))) W2 ((nb, ceObj x) :: (((Bs, .cells #[.pointer (some ⟨sb, 0, none⟩)] 26) :: (b9, .cells #[.int .u8 1, .int .i64 id, .int .i64 n, .int .i64 sz] 79) :: putBx w.heap.size sb g id n (.int .i64 0)) ++ (arBlks a aw W cw ++ (spBlk sb a tb bb :: lb) ++ R))) W2 := Turn.refl Tabs.has
     have HkX := uh (fun b (hb : b ∈ keys (((Bs, .cells #[.pointer (some ⟨sb, 0, none⟩)] 26) :: (b9, .cells #[.int .u8 1, .int .i64 id, .int .i64 n, .int .i64 sz] 79) :: putBx w.heap.size sb g id n (.int .i64 0)) ++ (arBlks a aw W cw ++ (spBlk sb a tb bb :: lb) ++ R))) => (HT.out.grow T8).has.lt hb)
     have HH2 := uh TX.has
     have HTabs := uh Tabs
     have HTX := uh TX
     clear TX Tabs
     by_cases htak : takes x g sz
     · have ⟨t1, t2, t3, t4⟩ := htak
       have k5 : ((x.2.tag : Int) == 1) = false := by rw [beq_eq_false_iff_ne]; omega
       have k6 : (x.2.tag == 1) = false := by rw [beq_eq_false_iff_ne]; exact t1
       have k7 : decide ((x.1 : Int) + (x.2.size : Int) - (g : Int) < (sz : Int)) = false := decide_eq_false (by omega)
       have HFT := uh (fun w' X (V : Turn ((nb, ceObj x) :: (((Bs, .cells #[.pointer (some ⟨sb, 0, none⟩)] 26) :: (b9, .cells #[.int .u8 1, .int .i64 id, .int .i64 n, .int .i64 sz] 79) :: putBx w.heap.size sb g id n (.int .i64 0)) ++ (arBlks a aw W cw ++ (spBlk sb a tb bb :: lb) ++ R))) W2 X w') => (⟨range_below HF0.out (HTabs.out.trans V).below, HTab.out.below (HTabs.out.trans V).below⟩ : Fields w' ∧ TabAt w' tb tao tcap L))
       have HT14 := uh ((HTX.out.perm (l2 := arBlks a aw W cw ++ ((nb, ceObj x) :: (((Bs, .cells #[.pointer (some ⟨sb, 0, none⟩)] 26) :: (b9, .cells #[.int .u8 1, .int .i64 id, .int .i64 n, .int .i64 sz] 79) :: putBx w.heap.size sb g id n (.int .i64 0)) ++ ((spBlk sb a tb bb :: lb) ++ R)))) (perm_of fun c => by simp; omega)).drew)
       have HS14 := uh (fun w' (W' : List Nat) (c' : Int) (V : Turn ((nb, ceObj x) :: (((Bs, .cells #[.pointer (some ⟨sb, 0, none⟩)] 26) :: (b9, .cells #[.int .u8 1, .int .i64 id, .int .i64 n, .int .i64 sz] 79) :: putBx w.heap.size sb g id n (.int .i64 0)) ++ (arBlks a aw W cw ++ (spBlk sb a tb bb :: lb) ++ R))) W2 (arBlks a aw W' c' ++ ((nb, ceObj x) :: (((Bs, .cells #[.pointer (some ⟨sb, 0, none⟩)] 26) :: (b9, .cells #[.int .u8 1, .int .i64 id, .int .i64 n, .int .i64 sz] 79) :: putBx w.heap.size sb g id n (.int .i64 0)) ++ ((spBlk sb a tb bb :: lb) ++ R)))) w') => (⟨V.has.cell (b := w.heap.size) (c := #[.pointer (some ⟨sb, 0, none⟩)]) (e := 26) (f := (0, 0)) (by simp [putBx, spBlk]) 0, V.has.cell (b := sb) (c := #[.pointer (some ⟨a, 0, none⟩), .pointer (some ⟨tb, 0, none⟩), .pointer (some ⟨bb, 0, none⟩)]) (e := 146) (f := (0, 0)) (by simp [putBx, spBlk]) 0, V.has.cell (b := sb) (c := #[.pointer (some ⟨a, 0, none⟩), .pointer (some ⟨tb, 0, none⟩), .pointer (some ⟨bb, 0, none⟩)]) (e := 146) (f := (0, 0)) (by simp [putBx, spBlk]) 1, V.has.cell (b := w.heap.size + 1) (c := #[.int .i64 g]) (e := 3) (f := (0, 0)) (by simp [putBx, spBlk]) 0, V.has.cell (b := w.heap.size + 1 + 1) (c := #[.int .i64 id]) (e := 3) (f := (0, 0)) (by simp [putBx, spBlk]) 0, V.has.cell (b := w.heap.size + 1 + 1 + 1) (c := #[.int .i64 n]) (e := 3) (f := (0, 0)) (by simp [putBx, spBlk]) 0⟩ :
        w'.cell? ⟨w.heap.size, 0, none⟩ = some (.pointer (some ⟨sb, 0, none⟩)) ∧ w'.cell? ⟨sb, 0, none⟩ = some (.pointer (some ⟨a, 0, none⟩)) ∧ w'.cell? ⟨sb, 1, none⟩ = some (.pointer (some ⟨tb, 0, none⟩)) ∧ w'.cell? ⟨w.heap.size + 1, 0, none⟩ = some (.int .i64 g) ∧ w'.cell? ⟨w.heap.size + 1 + 1, 0, none⟩ = some (.int .i64 id) ∧ w'.cell? ⟨w.heap.size + 1 + 1 + 1, 0, none⟩ = some (.int .i64 n)))
       have Hm14 := uh (Hmake.out _ _ _ _ _ HT14.out (HFT.out _ _ HT14.out).1 (HFT.out _ _ HT14.out).2 (by rw [HZ.out]; omega))
       have hS14 := HS14.out _ _ _ HT14.out
       have Hge := uh (⟨hxm, htak⟩ : x ∈ cs ∧ takes x g sz)
       clear hch hc1 hst hc2 hcs HC htak hT e1 t1
       gi_wp2_with fail
       refine wpIn_region_round (S := fun W' => W'.cell? ⟨w.heap.size, 0, none⟩ = some (.pointer (some ⟨sb, 0, none⟩)) ∧ W'.cell? ⟨sb, 0, none⟩ = some (.pointer (some ⟨a, 0, none⟩)) ∧ W'.cell? ⟨sb, 1, none⟩ = some (.pointer (some ⟨tb, 0, none⟩)) ∧ W'.cell? ⟨w.heap.size + 1, 0, none⟩ = some (.int .i64 g) ∧ W'.cell? ⟨w.heap.size + 1 + 1, 0, none⟩ = some (.int .i64 id) ∧ W'.cell? ⟨w.heap.size + 1 + 1 + 1, 0, none⟩ = some (.int .i64 n)) 13 [false, false, false, false, false, false, false, false, false, false, false, false, false] rfl rfl (by kernel_rfl) (by rfl) (by rintro ⟨a, w, h⟩; exact h) ?_
       refine tkB 0 61 hS14 (fun w hSw => hSw.1) ?_
       refine tkA 1 62 hS14 ?_
       refine tkA 2 63 hS14 ?_
       refine tkB 3 64 hS14 (fun w hSw => hSw.2.1) ?_
       refine tkB 4 65 hS14 (fun w hSw => hSw.1) ?_
       refine tkA 5 66 hS14 ?_
       refine tkA 6 67 hS14 ?_
       refine tkB 7 68 hS14 (fun w hSw => hSw.2.2.1) ?_
       refine tkB 8 69 hS14 (fun w hSw => hSw.2.2.2.1) ?_
       refine tkB 9 70 hS14 (fun w hSw => hSw.2.2.2.2.1) ?_
       refine tkB 10 71 hS14 (fun w hSw => hSw.2.2.2.2.2) ?_
       refine rdyA 11 (fun K hK => ?_)
       go_simp
       refine Hm14.out.mono ?_
       rintro e w3 ⟨rfl, c3, T15⟩
       have hS15 := HS14.out _ _ _ T15
       have HT15 := uh T15
       refine hK.out _ _ hS15 fun _ => ?_
       clear hK K T15 Hm14 hS14 HT14
       simp only [st0, st1, st2]
       refine tkA 12 13 hS15 ?_
       refine wpAnyH_done (by kernel_rfl) ?_ _
       clear hS15
       have HT17 := uh ((HT15.out.perm (l2 := lb ++ (arBlks a aw (mk W g ⟨1, id, n, sz⟩) c3 ++ ((nb, ceObj x) :: (((Bs, .cells #[.pointer (some ⟨sb, 0, none⟩)] 26) :: (b9, .cells #[.int .u8 1, .int .i64 id, .int .i64 n, .int .i64 sz] 79) :: putBx w.heap.size sb g id n (.int .i64 0)) ++ (spBlk sb a tb bb :: R))))) (perm_of fun c => by simp; omega)).drew)
       have HS17 := uh (fun w' (lb' : List Blk) (V : Turn ((nb, ceObj x) :: (((Bs, .cells #[.pointer (some ⟨sb, 0, none⟩)] 26) :: (b9, .cells #[.int .u8 1, .int .i64 id, .int .i64 n, .int .i64 sz] 79) :: putBx w.heap.size sb g id n (.int .i64 0)) ++ (arBlks a aw W cw ++ (spBlk sb a tb bb :: lb) ++ R))) W2 (lb' ++ (arBlks a aw (mk W g ⟨1, id, n, sz⟩) c3 ++ ((nb, ceObj x) :: (((Bs, .cells #[.pointer (some ⟨sb, 0, none⟩)] 26) :: (b9, .cells #[.int .u8 1, .int .i64 id, .int .i64 n, .int .i64 sz] 79) :: putBx w.heap.size sb g id n (.int .i64 0)) ++ (spBlk sb a tb bb :: R))))) w') => (⟨V.has.cell (b := w.heap.size) (c := #[.pointer (some ⟨sb, 0, none⟩)]) (e := 26) (f := (0, 0)) (by simp [putBx, spBlk]) 0, V.has.cell (b := sb) (c := #[.pointer (some ⟨a, 0, none⟩), .pointer (some ⟨tb, 0, none⟩), .pointer (some ⟨bb, 0, none⟩)]) (e := 146) (f := (0, 0)) (by simp [putBx, spBlk]) 2, V.has.cell (b := w.heap.size + 1) (c := #[.int .i64 g]) (e := 3) (f := (0, 0)) (by simp [putBx, spBlk]) 0⟩ :
        w'.cell? ⟨w.heap.size, 0, none⟩ = some (.pointer (some ⟨sb, 0, none⟩)) ∧ w'.cell? ⟨sb, 2, none⟩ = some (.pointer (some ⟨bb, 0, none⟩)) ∧ w'.cell? ⟨w.heap.size + 1, 0, none⟩ = some (.int .i64 g)))
       have Hb17 := uh (bset _ bb z g B lb (arBlks a aw (mk W g ⟨1, id, n, sz⟩) c3 ++ ((nb, ceObj x) :: (((Bs, .cells #[.pointer (some ⟨sb, 0, none⟩)] 26) :: (b9, .cells #[.int .u8 1, .int .i64 id, .int .i64 n, .int .i64 sz] 79) :: putBx w.heap.size sb g id n (.int .i64 0)) ++ (spBlk sb a tb bb :: R)))) HB.out hBu hBl hg (by omega) HT17.out)
       have hS17 := HS17.out _ _ HT17.out
       clear HT15 HS14
       gi_wp2_with fail
       refine wpIn_region_round (S := fun W' => W'.cell? ⟨w.heap.size, 0, none⟩ = some (.pointer (some ⟨sb, 0, none⟩)) ∧ W'.cell? ⟨sb, 2, none⟩ = some (.pointer (some ⟨bb, 0, none⟩)) ∧ W'.cell? ⟨w.heap.size + 1, 0, none⟩ = some (.int .i64 g)) 6 [false, false, false, false, false, false] rfl rfl (by kernel_rfl) (by rfl) (by rintro ⟨a, w, h⟩; exact h) ?_
       refine tkB 0 76 hS17 (fun w hSw => hSw.1) ?_
       refine tkA 1 77 hS17 ?_
       refine tkA 2 78 hS17 ?_
       refine tkB 3 79 hS17 (fun w hSw => hSw.2.1) ?_
       refine tkB 4 80 hS17 (fun w hSw => hSw.2.2) ?_
       refine rdyA 5 (fun K hK => ?_)
       go_simp
       refine Hb17.out.mono ?_
       rintro e w4 ⟨rfl, B', lb', hsi, hbi, T18⟩
       have hS18 := HS17.out _ _ T18
       have HT18 := uh T18
       have HSI := uh (⟨hsi, hbi⟩ : SetIn B B' g 1 ∧ BitIs bb B' z lb')
       refine hK.out _ _ hS18 fun _ => ?_
       clear hK K T18 Hb17 hS17 HT17 hsi hbi
       simp only [st0, st1, st2]
       refine wpAnyH_done (by kernel_rfl) ?_ _
       clear hS18
       have HS19 := uh (fun w' (W' : List Nat) (c' : Int) (V : Turn ((nb, ceObj x) :: (((Bs, .cells #[.pointer (some ⟨sb, 0, none⟩)] 26) :: (b9, .cells #[.int .u8 1, .int .i64 id, .int .i64 n, .int .i64 sz] 79) :: putBx w.heap.size sb g id n (.int .i64 0)) ++ (arBlks a aw W cw ++ (spBlk sb a tb bb :: lb) ++ R))) W2 (arBlks a aw W' c' ++ ((nb, ceObj x) :: (((Bs, .cells #[.pointer (some ⟨sb, 0, none⟩)] 26) :: (b9, .cells #[.int .u8 1, .int .i64 id, .int .i64 n, .int .i64 sz] 79) :: putBx w.heap.size sb g id n (.int .i64 0)) ++ (spBlk sb a tb bb :: (lb' ++ R))))) w') => (⟨V.has.cell (b := w.heap.size) (c := #[.pointer (some ⟨sb, 0, none⟩)]) (e := 26) (f := (0, 0)) (by simp [putBx, spBlk]) 0, V.has.cell (b := w.heap.size + 1) (c := #[.int .i64 g]) (e := 3) (f := (0, 0)) (by simp [putBx, spBlk]) 0, V.has.cell (b := nb) (c := #[.int .i64 x.1, .int .u8 x.2.tag, .int .i64 x.2.typ, .int .i64 x.2.len, .int .i64 x.2.size]) (e := 81) (f := (0, 0)) (by simp [ceObj]) 0, V.has.cell (b := b9) (c := #[.int .u8 1, .int .i64 id, .int .i64 n, .int .i64 sz]) (e := 79) (f := (0, 0)) (by simp) 3⟩ :
        w'.cell? ⟨w.heap.size, 0, none⟩ = some (.pointer (some ⟨sb, 0, none⟩)) ∧ w'.cell? ⟨w.heap.size + 1, 0, none⟩ = some (.int .i64 g) ∧ w'.cell? ⟨nb, 0, none⟩ = some (.int .i64 x.1) ∧ w'.cell? ⟨b9, 3, none⟩ = some (.int .i64 sz)))
       have T19 := HT18.out.perm (l2 := arBlks a aw (mk W g ⟨1, id, n, sz⟩) c3 ++ ((nb, ceObj x) :: (((Bs, .cells #[.pointer (some ⟨sb, 0, none⟩)] 26) :: (b9, .cells #[.int .u8 1, .int .i64 id, .int .i64 n, .int .i64 sz] 79) :: putBx w.heap.size sb g id n (.int .i64 0)) ++ (spBlk sb a tb bb :: (lb' ++ R))))) (perm_of fun c => by simp; omega)
       have HL1 := uh (sgap _ (HFT.out _ _ T19).1 T19 (s := sb) (tb := tb) (bb := bb) (by simp) (by rw [mk_len]; exact hf) x.1 (g - x.1) (by rw [mk_len, HZ.out]; omega))
       obtain ⟨u1, u2, u3, u4⟩ := HS19.out _ _ _ T19
       have hsub1 : (g : Int) - (x.1 : Int) = ((g - x.1 : Nat) : Int) := by omega
       have hsub2 : (x.1 : Int) + (x.2.size : Int) - (g : Int) - (sz : Int) = ((x.1 + x.2.size - g - sz : Nat) : Int) := by omega
       clear T19 HT18 HS17
       gi_wp2_with fail
       refine ⟨trivial, (CallsIn.inRound _ (callsIn_wide.2 HL1.out)).mono ?_⟩
       rintro e w5 ⟨⟨u, rfl⟩, c5, T20⟩
       have HT20 := uh T20
       clear u1 u2 u3 u4 HL1 T20
       obtain ⟨u1, u2, u3, u4⟩ := HS19.out _ _ _ HT20.out
       have HL2 := sgap _ (HFT.out _ _ HT20.out).1 HT20.out (s := sb) (tb := tb) (bb := bb) (by simp) (by rw [lay_len, mk_len]; exact hf) (g + sz) (x.1 + x.2.size - g - sz) (by rw [lay_len, mk_len, HZ.out]; omega)
       rw [Int.natCast_add] at HL2
       have HL2 := uh HL2
       have hgb : g ≤ 32768 := by omega
       have hsb9 : sz ≤ 32768 := by omega
       gi_wp2_with fail
       refine ⟨trivial, (CallsIn.inRound _ (callsIn_wide.2 HL2.out)).mono ?_⟩
       rintro e w6 ⟨⟨u, rfl⟩, c6, T21⟩
       have T21' : Turn ((nb, ceObj x) :: (((Bs, .cells #[.pointer (some ⟨sb, 0, none⟩)] 26) :: (b9, .cells #[.int .u8 1, .int .i64 id, .int .i64 n, .int .i64 sz] 79) :: putBx w.heap.size sb g id n (.int .i64 0)) ++ (arBlks a aw W cw ++ (spBlk sb a tb bb :: lb) ++ R))) W2 (arBlks a aw (putW W x g ⟨1, id, n, sz⟩) c6 ++ ((nb, ceObj x) :: (((Bs, .cells #[.pointer (some ⟨sb, 0, none⟩)] 26) :: (b9, .cells #[.int .u8 1, .int .i64 id, .int .i64 n, .int .i64 sz] 79) :: putBx w.heap.size sb g id n (.int .i64 0)) ++ (spBlk sb a tb bb :: (lb' ++ R))))) w6 := T21
       have T22 := T21'.perm (l2 := (w.heap.size + 1 + 1 + 1 + 1, .cells #[.int .i64 0] 33) :: ((nb, ceObj x) :: (Bs, .cells #[.pointer (some ⟨sb, 0, none⟩)] 26) :: (b9, .cells #[.int .u8 1, .int .i64 id, .int .i64 n, .int .i64 sz] 79) :: ((w.heap.size + 1 + 1 + 1, .cells #[.int .i64 n] 3) :: (w.heap.size + 1 + 1, .cells #[.int .i64 id] 3) :: (w.heap.size + 1, .cells #[.int .i64 g] 3) :: (w.heap.size, .cells #[.pointer (some ⟨sb, 0, none⟩)] 26) :: (arBlks a aw (putW W x g ⟨1, id, n, sz⟩) c6 ++ (spBlk sb a tb bb :: lb') ++ R)))) (perm_of fun c => by simp [putBx]; omega)
       have c8 : w6.cell? ⟨w.heap.size + 1 + 1 + 1 + 1, 0, none⟩ = some (.int .i64 0) := T22.cell1 0
       have f8 : w6.frozen? ⟨w.heap.size + 1 + 1 + 1 + 1, 0, none⟩ = false := T22.free1 0
       have T23 := (T22.setCell 0 (.int .i64 0)).perm (l2 := (nb, ceObj x) :: (((Bs, .cells #[.pointer (some ⟨sb, 0, none⟩)] 26) :: (b9, .cells #[.int .u8 1, .int .i64 id, .int .i64 n, .int .i64 sz] 79) :: putBx w.heap.size sb g id n (.int .i64 0)) ++ (arBlks a aw (putW W x g ⟨1, id, n, sz⟩) c6 ++ (spBlk sb a tb bb :: lb') ++ R))) (perm_of fun c => by simp [putBx]; omega)
       have HT23 := uh T23
       clear T21 T21' T22 T23 HL2 HT20 u1 u2 u3 u4 HS19
       gi_wp2_with fail
       have HK9 := uh (Turn.keepsOthers HT23.out HH2.out (fun y hy => by
        rcases List.mem_cons.1 hy with rfl | hy
        · rfl
        rcases List.mem_append.1 hy with hy | hy
        · exact hBLc y hy
        rcases List.mem_append.1 hy with hy | hy
        · rcases List.mem_append.1 hy with hy | hy
          · exact arBlks_cells _ _ _ _ y hy
          · rcases List.mem_cons.1 hy with rfl | hy
            · rfl
            · exact HB.out.cells y hy
        · exact hRc y hy))
       exact ⟨HK9.out.from _, KxC.of HT23.out HH2.out HkX.out (List.mem_append_left _ (List.mem_cons_self ..)) (List.mem_append_left _ (List.mem_cons_self ..)) (List.mem_append_right _ (List.mem_append_left _ (List.mem_append_right _ (List.mem_cons_self ..)))) (List.mem_append_right _ (List.mem_append_left _ (List.mem_append_right _ (List.mem_cons_self ..)))), rfl, 0, _, .inr ⟨rfl, x, Hge.out.1, Hge.out.2, B', lb', c6, HSI.out.1, HSI.out.2, rfl⟩, ((HTabs.out.trans HT23.out).tail.tail.tail)⟩
     · have hno : ∀ c ∈ cs, ¬ takes c g sz := by
         intro c hc
         rw [hcs] at hc
         rcases List.mem_append.1 hc with h | h
         · intro ht
           have := e1 c h
           have := ht.2.2.1
           omega
         · rcases List.mem_cons.1 h with rfl | h
           · exact htak
           · intro ht
             have := (hc2.mem c h).1
             have := ht.2.1
             omega
       have hcase : x.2.tag = 1 ∨ (x.2.tag ≠ 1 ∧ x.1 + x.2.size < g + sz) := by
        by_cases h9 : x.2.tag = 1
        · exact .inl h9
        · refine .inr ⟨h9, ?_⟩
          rcases Nat.lt_or_ge (x.1 + x.2.size) (g + sz) with h | h
          · exact h
          · exact absurd ⟨h9, hge, by omega, h⟩ htak
       have T9 := HTX.out.perm (l2 := (w.heap.size + 1 + 1 + 1 + 1, .cells #[.int .i64 0] 33) :: ((nb, ceObj x) :: (Bs, .cells #[.pointer (some ⟨sb, 0, none⟩)] 26) :: (b9, .cells #[.int .u8 1, .int .i64 id, .int .i64 n, .int .i64 sz] 79) :: ((w.heap.size + 1 + 1 + 1, .cells #[.int .i64 n] 3) :: (w.heap.size + 1 + 1, .cells #[.int .i64 id] 3) :: (w.heap.size + 1, .cells #[.int .i64 g] 3) :: (w.heap.size, .cells #[.pointer (some ⟨sb, 0, none⟩)] 26) :: (arBlks a aw W cw ++ (spBlk sb a tb bb :: lb) ++ R)))) (perm_of fun c => by simp [putBx]; omega)
       have c8 : W2.cell? ⟨w.heap.size + 1 + 1 + 1 + 1, 0, none⟩ = some (.int .i64 0) := T9.cell1 0
       have f8 : W2.frozen? ⟨w.heap.size + 1 + 1 + 1 + 1, 0, none⟩ = false := T9.free1 0
       have T10 := (T9.setCell 0 (.int .i64 3)).perm (l2 := (nb, ceObj x) :: (((Bs, .cells #[.pointer (some ⟨sb, 0, none⟩)] 26) :: (b9, .cells #[.int .u8 1, .int .i64 id, .int .i64 n, .int .i64 sz] 79) :: putBx w.heap.size sb g id n (.int .i64 3)) ++ (arBlks a aw W cw ++ (spBlk sb a tb bb :: lb) ++ R))) (perm_of fun c => by simp [putBx]; omega)
       have HT10 := uh T10
       have Hno := uh hno
       clear T9 T10 hno hch hc1 hst hc2 hcs HC htak hT e1
       rcases hcase with h9 | ⟨h9, h10⟩
       case' inl => (
        have k5 : ((x.2.tag : Int) == 1) = true := by rw [beq_iff_eq]; omega
        have k6 : (x.2.tag == 1) = true := by rw [beq_iff_eq]; exact h9
        clear h9
        gi_wp2_with fail)
       case' inr => (
        have k5 : ((x.2.tag : Int) == 1) = false := by rw [beq_eq_false_iff_ne]; omega
        have k6 : (x.2.tag == 1) = false := by rw [beq_eq_false_iff_ne]; exact h9
        have k7 : decide ((x.1 : Int) + (x.2.size : Int) - (g : Int) < (sz : Int)) = true := decide_eq_true (by omega)
        clear h9
        gi_wp2_with fail)
       all_goals exact ⟨(KeepsOthers.setCell _ _ _).from _, KxC.of HT10.out HH2.out HkX.out (List.mem_append_left _ (List.mem_cons_self ..)) (List.mem_append_left _ (List.mem_cons_self ..)) (List.mem_append_right _ (List.mem_append_left _ (List.mem_append_right _ (List.mem_cons_self ..)))) (List.mem_append_right _ (List.mem_append_left _ (List.mem_append_right _ (List.mem_cons_self ..)))), rfl, 3, _, .inl ⟨rfl, rfl, Hno.out⟩, ((HTabs.out.trans HT10.out).tail.tail.tail)⟩
  case hdone =>
   rintro D xs W2 hD rfl ⟨e1, hT⟩ hK
   exfalso
   obtain ⟨pa, c, pb, hcs, h8, h9, -, -⟩ := HC.out.find g (Nat.zero_le _) hg
   have := e1 c (by rw [hcs]; simp)
   omega
  case hstop =>
   rintro D c pre W2 hD ⟨rfl, er, l', e1, hT⟩ hK
   have T5 := hT.grownB (B := W0.heap.size) (Nat.le_trans HT.out.size T8.size) (fun x hx => (List.mem_append.1 hx).elim (putBx_cells _ _ _ _ _ _ x) (fun hx => (List.mem_append.1 hx).elim (e1.cells HB.out x) (hRc x))) (grownBy_putObj' W2 D (.deferred none)) (fun r e => by cases e; exact ⟨hD, _, hK, rfl⟩)
   have c8 : (W2.putObj D (.deferred none)).cell? ⟨w.heap.size + 1 + 1 + 1 + 1, 0, none⟩ = some (.int .i64 er) := T5.cell1 0
   have HX := uh (⟨T5.drop, e1⟩ : Turn [] w0 (l' ++ R) (W2.putObj D (.deferred none)) ∧ PutEnd sb a aw tb bb W B lb cw cs g id n sz z er l')
   clear T5 hT e1
   gi_wp2_with fail
   refine ⟨by simp, .inl ⟨_, _, rfl, run_takeDeferred hK, ?_⟩⟩
   refine ⟨.int .i64 er, ?_, er, l', rfl, HX.out.1, HX.out.2⟩
   simp [results, Tryz.results16, go_sem, c8]
end
section
open Go Go.RowKit Go.IntWalk
def grBx (gb ob fb tb : Nat) (g : Nat) (ov : Bool) (f t : Nat) : List Blk :=
 [(gb, .cells #[.int .i64 g] 3), (ob, .cells #[.bool ov] 4), (fb, .cells #[.int .i64 f] 3), (tb, .cells #[.int .i64 t] 3)]
set_option maxRecDepth 100000 in
set_option maxHeartbeats 1600000 in
theorem drop1 {l0 R : List Blk} {w0 : World} (w : World) (gb ob fb tb g f t : Nat) (ov : Bool) (x : Ce) (T : Turn l0 w0 (grBx gb ob fb tb g ov f t ++ R) w) (hx : x.1 + x.2.size ≤ 65536) :
  Calls Tryz.prog 73 #[.agg #[.int .i64 x.1, .int .u8 x.2.tag, .int .i64 x.2.typ, .int .i64 x.2.len, .int .i64 x.2.size], .pointer (some ⟨gb, 0, none⟩), .pointer (some ⟨ob, 0, none⟩), .pointer (some ⟨fb, 0, none⟩), .pointer (some ⟨tb, 0, none⟩)] w fun e w' => (∃ v, e = .returned v) ∧
   Turn l0 w0 (grBx gb ob fb tb g ov (if x.2.tag = 1 ∧ x.1 ≠ g ∧ ov = false then x.1 + x.2.size else f) (if x.2.tag = 1 ∧ x.1 ≠ g then t else x.1 + x.2.size) ++ R) w' := by
 obtain ⟨cg, ⟨xa, xb, xc, xd⟩⟩ := x
 simp only at hx ⊢
 have T1 := T.alloc (.cells #[.int .i64 cg, .int .u8 xa, .int .i64 xb, .int .i64 xc, .int .i64 xd] 81)
 have d0 : (w.alloc (.cells #[.int .i64 cg, .int .u8 xa, .int .i64 xb, .int .i64 xc, .int .i64 xd] 81)).cell? ⟨w.heap.size, 0, none⟩ = some (.int .i64 cg) := T1.cell1 0
 have d1 : (w.alloc (.cells #[.int .i64 cg, .int .u8 xa, .int .i64 xb, .int .i64 xc, .int .i64 xd] 81)).cell? ⟨w.heap.size, 1, none⟩ = some (.int .u8 xa) := T1.cell1 1
 have d4 : (w.alloc (.cells #[.int .i64 cg, .int .u8 xa, .int .i64 xb, .int .i64 xc, .int .i64 xd] 81)).cell? ⟨w.heap.size, 4, none⟩ = some (.int .i64 xd) := T1.cell1 4
 have qg : (w.alloc (.cells #[.int .i64 cg, .int .u8 xa, .int .i64 xb, .int .i64 xc, .int .i64 xd] 81)).cell? ⟨gb, 0, none⟩ = some (.int .i64 g) := T1.has.cell (b := gb) (c := #[.int .i64 g]) (e := 3) (f := (0, 0)) (by simp [grBx]) 0
 have qo : (w.alloc (.cells #[.int .i64 cg, .int .u8 xa, .int .i64 xb, .int .i64 xc, .int .i64 xd] 81)).cell? ⟨ob, 0, none⟩ = some (.bool ov) := T1.has.cell (b := ob) (c := #[.bool ov]) (e := 4) (f := (0, 0)) (by simp [grBx]) 0
 have qf : (w.alloc (.cells #[.int .i64 cg, .int .u8 xa, .int .i64 xb, .int .i64 xc, .int .i64 xd] 81)).cell? ⟨fb, 0, none⟩ = some (.int .i64 f) := T1.has.cell (b := fb) (c := #[.int .i64 f]) (e := 3) (f := (0, 0)) (by simp [grBx]) 0
 have ff : (w.alloc (.cells #[.int .i64 cg, .int .u8 xa, .int .i64 xb, .int .i64 xc, .int .i64 xd] 81)).frozen? ⟨fb, 0, none⟩ = false := T1.has.free (b := fb) (c := #[.int .i64 f]) (e := 3) (by simp [grBx]) 0
 have qt : (w.alloc (.cells #[.int .i64 cg, .int .u8 xa, .int .i64 xb, .int .i64 xc, .int .i64 xd] 81)).cell? ⟨tb, 0, none⟩ = some (.int .i64 t) := T1.has.cell (b := tb) (c := #[.int .i64 t]) (e := 3) (f := (0, 0)) (by simp [grBx]) 0
 have ft : (w.alloc (.cells #[.int .i64 cg, .int .u8 xa, .int .i64 xb, .int .i64 xc, .int .i64 xd] 81)).frozen? ⟨tb, 0, none⟩ = false := T1.has.free (b := tb) (c := #[.int .i64 t]) (e := 3) (by simp [grBx]) 0
 have HTf := uh (((T1.perm (l2 := (fb, .cells #[.int .i64 f] 3) :: ((w.heap.size, .cells #[.int .i64 cg, .int .u8 xa, .int .i64 xb, .int .i64 xc, .int .i64 xd] 81) :: (gb, .cells #[.int .i64 g] 3) :: (ob, .cells #[.bool ov] 4) :: (tb, .cells #[.int .i64 t] 3) :: R)) (perm_of fun c => by simp [grBx]; omega)).setCell 0 (.int .i64 ((cg : Int) + (xd : Int)))).perm (l2 := (w.heap.size, .cells #[.int .i64 cg, .int .u8 xa, .int .i64 xb, .int .i64 xc, .int .i64 xd] 81) :: ((gb, .cells #[.int .i64 g] 3) :: (ob, .cells #[.bool ov] 4) :: (fb, .cells #[.int .i64 ((cg : Int) + (xd : Int))] 3) :: (tb, .cells #[.int .i64 t] 3) :: R)) (perm_of fun c => by simp; omega))
 have HTt := uh (((T1.perm (l2 := (tb, .cells #[.int .i64 t] 3) :: ((w.heap.size, .cells #[.int .i64 cg, .int .u8 xa, .int .i64 xb, .int .i64 xc, .int .i64 xd] 81) :: (gb, .cells #[.int .i64 g] 3) :: (ob, .cells #[.bool ov] 4) :: (fb, .cells #[.int .i64 f] 3) :: R)) (perm_of fun c => by simp [grBx]; omega)).setCell 0 (.int .i64 ((cg : Int) + (xd : Int)))).perm (l2 := (w.heap.size, .cells #[.int .i64 cg, .int .u8 xa, .int .i64 xb, .int .i64 xc, .int .i64 xd] 81) :: ((gb, .cells #[.int .i64 g] 3) :: (ob, .cells #[.bool ov] 4) :: (fb, .cells #[.int .i64 f] 3) :: (tb, .cells #[.int .i64 ((cg : Int) + (xd : Int))] 3) :: R)) (perm_of fun c => by simp; omega))
 have HT1 := uh T1.tail
 have hcast : ((cg + xd : Nat) : Int) = (cg : Int) + (xd : Int) := Int.natCast_add ..
 have Hc := uh hcast
 clear T T1 hcast
 by_cases ht : xa = 1
 · have k1 : ((xa : Int) == 1) = true := by rw [beq_iff_eq]; omega
   have k2 : (xa == 1) = true := by rw [beq_iff_eq]; exact ht
   by_cases hg : cg = g
   · rw [if_neg (fun h => h.2.1 hg), if_neg (fun h => h.2 hg)]
     have k3 : ((cg : Int) != (g : Int)) = false := by rw [bne_eq_false_iff_eq]; omega
     have k4 : (cg != g) = false := by rw [bne_eq_false_iff_eq]; exact hg
     clear ht hg
     go_enter Tryz.func73, Tryz.ntmps73
     go_wp2_with fail
     go_end0
     exact ⟨⟨_, rfl⟩, by unfold grBx; rw [Hc.out]; exact HTt.out.tail⟩
   · have k3 : ((cg : Int) != (g : Int)) = true := by rw [bne_iff_ne]; omega
     have k4 : (cg != g) = true := by rw [bne_iff_ne]; exact hg
     cases ov with
     | false =>
      rw [if_pos ⟨ht, hg, rfl⟩, if_pos ⟨ht, hg⟩]
      clear ht hg
      go_enter Tryz.func73, Tryz.ntmps73
      go_wp2_with fail
      go_end0
      exact ⟨⟨_, rfl⟩, by unfold grBx; rw [Hc.out]; exact HTf.out.tail⟩
     | true =>
      rw [if_neg (fun h => absurd h.2.2 (by decide)), if_pos ⟨ht, hg⟩]
      clear ht hg
      go_enter Tryz.func73, Tryz.ntmps73
      go_wp2_with fail
      go_end0
      exact ⟨⟨_, rfl⟩, HT1.out⟩
 · rw [if_neg (fun h => ht h.1), if_neg (fun h => ht h.1)]
   have k1 : ((xa : Int) == 1) = false := by rw [beq_eq_false_iff_ne]; omega
   have k2 : (xa == 1) = false := by rw [beq_eq_false_iff_ne]; exact ht
   clear ht
   go_enter Tryz.func73, Tryz.ntmps73
   go_wp2_with fail
   go_end0
   exact ⟨⟨_, rfl⟩, by unfold grBx; rw [Hc.out]; exact HTt.out.tail⟩
end
section
def DropSt (P : List Ce) (c0 : Ce) (Q : List Ce) (pre : List Ce) (f t : Nat) (ov : Bool) : Prop :=
 (ov = false ∧ f = dropFrm 0 pre ∧ ∃ rest, P = pre ++ rest) ∨
 (ov = true ∧ f = dropFrm 0 P ∧ ∃ Q1 Q2, pre = P ++ c0 :: Q1 ∧ Q = Q1 ++ Q2 ∧ dropTill (c0.1 + c0.2.size) Q = dropTill t Q2)
theorem DropSt.step {L : List Ty} {W : List Nat} {P Q pre post : List Ce} {c0 x : Ce} {f t e : Nat} {ov : Bool} (hC : Chain L W 0 (P ++ c0 :: Q) e) (h : DropSt P c0 Q pre f t ov) (hx : P ++ c0 :: Q = pre ++ x :: post) :
  (c0.1 < x.1 ∧ x.2.tag = 1 ∧ f = dropFrm 0 P ∧ t = dropTill (c0.1 + c0.2.size) Q) ∨
  (¬ (c0.1 < x.1 ∧ x.2.tag = 1) ∧ DropSt P c0 Q (pre ++ [x]) (if x.2.tag = 1 ∧ x.1 ≠ c0.1 ∧ ov = false then x.1 + x.2.size else f) (if x.2.tag = 1 ∧ x.1 ≠ c0.1 then t else x.1 + x.2.size) (ov || x.1 == c0.1)) := by
 obtain ⟨h1, h2, h3⟩ := hC.split
 rcases h with ⟨rfl, hf, rest, rfl⟩ | ⟨rfl, hf, Q1, Q2, rfl, rfl, ht⟩
 · cases rest with
   | nil =>
    rw [List.append_nil] at hx h1
    rw [List.append_nil]
    have hxc : c0 = x ∧ Q = post := by
     have := List.append_cancel_left hx
     exact ⟨(List.cons.inj this).1, (List.cons.inj this).2⟩
    obtain ⟨rfl, rfl⟩ := hxc
    refine .inr ⟨fun h => by omega, .inr ⟨by simp, ?_, [], Q, rfl, rfl, ?_⟩⟩
    · rw [if_neg (fun h => h.2.1 rfl)]
      exact hf
    · rw [if_neg (fun h => h.2 rfl)]
   | cons y ys =>
    have hxy : y = x := by
     rw [List.append_assoc] at hx
     have := List.append_cancel_left hx
     exact (List.cons.inj this).1
    subst hxy
    have hm := h1.mem y (by simp)
    have hp := hm.2.2.pos
    have hlt : y.1 < c0.1 := by omega
    refine .inr ⟨fun h => by omega, .inl ⟨?_, ?_, ys, by simp⟩⟩
    · simp
      omega
    · rw [dropFrm_append, dropFrm, dropFrm, ← hf]
      by_cases ht : y.2.tag = 1
      · rw [if_pos ⟨ht, by omega, rfl⟩, if_pos ht]
      · rw [if_neg (fun h => ht h.1), if_neg ht]
 · have hxq : Q2 = x :: post := by
     have h9 : P ++ c0 :: (Q1 ++ Q2) = (P ++ c0 :: Q1) ++ Q2 := by simp
     rw [h9] at hx
     exact List.append_cancel_left hx
   subst hxq
   have hm := h3.mem x (by simp)
   have hp := h2.pos
   have hlt : c0.1 < x.1 := by omega
   by_cases hxt : x.2.tag = 1
   · refine .inl ⟨hlt, hxt, hf, ?_⟩
     rw [ht, dropTill, if_pos hxt]
   · refine .inr ⟨fun h => hxt h.2, .inr ⟨by simp, ?_, Q1 ++ [x], post, by simp, by simp, ?_⟩⟩
     · rw [if_neg (fun h => hxt h.1)]
       exact hf
     · rw [if_neg (fun h => hxt h.1), ht, dropTill, if_neg hxt]
theorem DropSt.done {P Q : List Ce} {c0 : Ce} {f t : Nat} {ov : Bool} (h : DropSt P c0 Q (P ++ c0 :: Q) f t ov) : f = dropFrm 0 P ∧ t = dropTill (c0.1 + c0.2.size) Q := by
 rcases h with ⟨-, -, rest, hr⟩ | ⟨-, hf, Q1, Q2, hp, hq, ht⟩
 · have := congrArg List.length hr
   simp at this
 · have h1 : Q = Q1 := by
     have := List.append_cancel_left hp
     exact (List.cons.inj this).2
   subst h1
   have h2 : Q2 = [] := by
    have := congrArg List.length hq
    simp at this
    exact this
   subst h2
   exact ⟨hf, ht.symm⟩
theorem DropSt.start (P : List Ce) (c0 : Ce) (Q : List Ce) : DropSt P c0 Q [] 0 0 false := .inl ⟨rfl, rfl, P, rfl⟩
end
section
open Go Go.RowKit Go.Shelf Go.IntWalk
attribute [local go_sem] Oper.semAt_some
theorem Turn.unless {C C' Y : List Blk} {A B : World} (h : Turn (C ++ Y) A (C' ++ Y) B) (hH : Has A (C ++ Y)) {b : Nat} (hb : b < A.heap.size) (hn : b ∉ keys C) : B.heap[b]? = A.heap[b]? := by
 by_cases hY : b ∈ keys Y
 · obtain ⟨o, ho⟩ := mem_keys.1 hY
   exact (h.has.own b o (List.mem_append_right _ ho)).trans (hH.own b o (List.mem_append_right _ ho)).symm
 · exact h.same b hb (fun hm => by
     rw [keys_append] at hm
     exact (List.mem_append.1 hm).elim hn hY)
theorem KpC.un {n₀ Bs : Nat} {D : Nat → Prop} {C C' Y : List Blk} {A B : World} (h : Turn (C ++ Y) A (C' ++ Y) B) (hH : Has A (C ++ Y)) (hn : n₀ ≤ A.heap.size) (hB : Bs < A.heap.size) (hL : ∀ b ∈ keys C, D b) (hD : ∀ b, D b → n₀ ≤ b ∧ b ≠ Bs) : KpC n₀ Bs D A B :=
 ⟨⟨h.os, h.tape, h.output, h.size, fun b hb => h.unless hH (Nat.lt_of_lt_of_le hb hn) (fun hm => by have := (hD b (hL b hm)).1; omega)⟩,
  h.unless hH hB (fun hm => (hD Bs (hL Bs hm)).2 rfl), h.size, fun b o h1 _ h3 => (h.unless hH (lt_of_block h1) (fun hm => h3 (hL b hm))).trans h1⟩
def grC (ob fb tb : Nat) (ov : Bool) (f t : Nat) : List Blk := [(ob, .cells #[.bool ov] 4), (fb, .cells #[.int .i64 f] 3), (tb, .cells #[.int .i64 t] 3)]
theorem grBx_cells (gb ob fb tb g f t : Nat) (ov : Bool) : ∀ x ∈ grBx gb ob fb tb g ov f t, x.2.isCells = true := by
 intro x hx
 simp only [grBx, List.mem_cons, List.not_mem_nil, or_false] at hx
 rcases hx with rfl | rfl | rfl | rfl <;> rfl
set_option maxRecDepth 100000 in
set_option maxHeartbeats 6400000 in
theorem sdrop_in (nn : Nat) (hn : 5 ≤ nn) {w0 : World} (w : World) (sb a aw tb bb : Nat) {W B : List Nat} {lb R : List Blk} {cw : Int} (tao : Option Addr) (tcap : Nat) (L : List Ty) (hB : BitIs bb B (W.length / 2) lb) (hBu : u64ok B) (hBl : (W.length / 2 + 63) / 64 ≤ B.length) (hRc : ∀ x ∈ R, x.2.isCells = true)
  (T : Turn [] w0 (arBlks a aw W cw ++ (spBlk sb a tb bb :: lb) ++ R) w) (hTab : TabAt w0 tb tao tcap L) (hF0 : Fields w0) (hf : W.length ≤ 65536) (hu : ∀ v ∈ W, v < 18446744073709551616) (hTy : ∀ t ∈ L, TyIn t) (hL : L.length ≤ 1000)
  (P Q : List Ce) (c0 : Ce) (hC : Chain L W 0 (P ++ c0 :: Q) (W.length / 2)) (hbit : bitAt B c0.1 = true) :
  CallsIn Fence.wide nn Tryz.prog 22 #[.pointer (some ⟨sb, 0, none⟩), .int .i64 c0.1] w fun e w' => ∃ (B' : List Nat) (lb' : List Blk) (cw' : Int), e = .returned (.int .i64 0) ∧ ClrIn B B' c0.1 1 ∧ BitIs bb B' (W.length / 2) lb' ∧ Turn [] w0 (arBlks a aw (dropW W P c0 Q) cw' ++ (spBlk sb a tb bb :: lb') ++ R) w' := by
 have h1 : 1 ≤ nn := by omega
 have h2 : 1 ≤ nn - 1 - 1 := by omega
 have h3 : Fence.wide.fn 22 := trivial
 have h5 : Fence.wide.fn 65 := trivial
 have h6 : Fence.wide.fn 71 := trivial
 have h7 : Fence.wide.fn 149 := trivial
 have h8 : Fence.wide.fn 72 := trivial
 have h9 : Fence.wide.fn 68 := trivial
 have hro : Fence.wide.round = none := rfl
 have hzb : W.length / 2 ≤ 32768 := by omega
 have hst := hC.split.2.1
 have hpos := hst.pos
 have hg : c0.1 < W.length / 2 := by have := hst.2.2; omega
 have T0 := T.alloc (.cells #[.int .i64 c0.1] 3)
 have HT1 := uh (show Turn [] w0 (((w.heap.size, .cells #[.int .i64 c0.1] 3) :: lb) ++ (arBlks a aw W cw ++ (spBlk sb a tb bb :: R))) (w.alloc (.cells #[.int .i64 c0.1] 3)).drew from (T0.perm (perm_of fun c => by simp; omega)).drew)
 have HS := uh (fun w' (lb' : List Blk) (W' : List Nat × Int) (V : Turn [] w0 (((w.heap.size, .cells #[.int .i64 c0.1] 3) :: lb') ++ (arBlks a aw W'.1 W'.2 ++ (spBlk sb a tb bb :: R))) w') => (⟨V.has.cell (b := sb) (c := #[.pointer (some ⟨a, 0, none⟩), .pointer (some ⟨tb, 0, none⟩), .pointer (some ⟨bb, 0, none⟩)]) (e := 146) (f := (0, 0)) (by simp [spBlk]) 2, V.cell1 0⟩ :
  w'.cell? ⟨sb, 2, none⟩ = some (.pointer (some ⟨bb, 0, none⟩)) ∧ w'.cell? ⟨w.heap.size, 0, none⟩ = some (.int .i64 c0.1)))
 have Hhas := uh (fun w' (X : List Blk) (V : Turn [] w0 (((w.heap.size, .cells #[.int .i64 c0.1] 3) :: lb) ++ X) w') => by
  obtain ⟨bo, cap, hA⟩ := hB.at_ (R := (w.heap.size, .cells #[.int .i64 c0.1] 3) :: X) (V.has.perm (perm_of fun c => by simp; omega))
  exact bhas w' bb _ B bo cap hA hBu hBl c0.1 hg (by omega))
 rw [hbit] at Hhas
 have hS1 := HS.out _ lb (W, cw) HT1.out
 have HB := uh hB
 have HC := uh hC
 have HTab := uh hTab
 have HF0 := uh hF0
 have HT := uh T
 have Hclr0 := uh (fun w' (X : List Blk) (V : Turn [] w0 (lb ++ X) w') => bclear w' bb _ c0.1 B lb X hB hBu hBl hg (by omega) V)
 clear T0 T hB hbit hC hTab hF0 hst
 refine callsIn_of_wp_marks Tryz.func22 rfl h3 ?_ hro
 simp only [Tryz.ntmps22, List.size_toArray, List.length_cons, List.length_nil, Nat.reduceAdd, Nat.reduceSub, Array.replicate_succ, Array.replicate_zero, List.push_toArray, List.append_toArray, List.nil_append, List.cons_append]
 gi_wp2_with fail
 refine wpIn_region_noPanic ?_
 refine wpIn_region_listedHI (S := fun W' => W'.cell? ⟨sb, 2, none⟩ = some (.pointer (some ⟨bb, 0, none⟩)) ∧ W'.cell? ⟨w.heap.size, 0, none⟩ = some (.int .i64 c0.1)) 7 [false, false, false, false, false, false, false] rfl rfl (by kernel_rfl) ?_
 refine takeGI 0 12 hro rfl rfl (by rfl) (by kernel_rfl) (by kernel_rfl) (by kernel_rfl) (fun _ _ _ _ h => h) hS1 (fun _ => rfl) (by (intro w hSw; clear hSw; go_simp; try rfl)) ?_
 simp only [st1, st2]
 refine takeGI 1 13 hro rfl rfl (by rfl) (by kernel_rfl) (by kernel_rfl) (by kernel_rfl) (fun _ _ _ _ h => h) hS1 (fun _ => rfl) (by (intro w hSw; clear hSw; go_simp; try rfl)) ?_
 simp only [st1, st2]
 refine takeGI 2 14 hro rfl rfl (by rfl) (by kernel_rfl) (by kernel_rfl) (by kernel_rfl) (fun _ _ _ _ h => h) hS1 (fun _ => rfl) (by (intro w hSw; clear hSw; go_simp; try rfl)) ?_
 simp only [st1, st2]
 refine takeGI 3 15 hro rfl rfl (by rfl) (by kernel_rfl) (by kernel_rfl) (by kernel_rfl) (fun _ _ _ _ h => h) hS1 (fun _ => rfl) (by (intro w hSw; have hc := hSw.1; clear hSw; go_simp; try rfl)) ?_
 simp only [st1, st2]
 refine takeGI 4 16 hro rfl rfl (by rfl) (by kernel_rfl) (by kernel_rfl) (by kernel_rfl) (fun _ _ _ _ h => h) hS1 (fun _ => rfl) (by (intro w hSw; have hc := hSw.2; clear hSw; go_simp; try rfl)) ?_
 simp only [st1, st2]
 refine wpAnyHI_call (i := 5) (by kernel_rfl) rfl (fun K hK => ?_)
 go_simp
 refine (callsIn_wide.2 (Hhas.out _ _ HT1.out)).mono ?_
 rintro e w2 ⟨rfl, hB2⟩
 have HT2 := uh (HT1.out.call hB2)
 have hS2 := HS.out _ lb (W, cw) HT2.out
 refine hK.out _ _ hS2 ?_
 clear hK K
 simp only [st0, st1, st2]
 refine takeGI 6 18 hro rfl rfl (by rfl) (by kernel_rfl) (by kernel_rfl) (by kernel_rfl) (fun _ _ _ _ h => h) hS2 (fun _ => rfl) (by (intro w hSw; clear hSw; go_simp; try rfl)) ?_
 simp only [st1, st2]
 refine wpAnyHI_done (by kernel_rfl) ?_ _
 refine NoPanic.normal ?_
 clear hS1 hS2 HT1 hB2
 have HT3 := uh HT2.out.drew
 have hS3 := HS.out _ lb (W, cw) HT3.out
 have Hclr := uh (Hclr0.out _ _ (HT3.out.perm (l2 := lb ++ ((w.heap.size, .cells #[.int .i64 c0.1] 3) :: (arBlks a aw W cw ++ (spBlk sb a tb bb :: R)))) (perm_of fun c => by simp; omega)))
 clear HT2
 gi_wp2_with fail
 refine wpIn_region_noPanic ?_
 refine wpIn_region_listedHI (S := fun W' => W'.cell? ⟨sb, 2, none⟩ = some (.pointer (some ⟨bb, 0, none⟩)) ∧ W'.cell? ⟨w.heap.size, 0, none⟩ = some (.int .i64 c0.1)) 6 [false, false, false, false, false, false] rfl rfl (by kernel_rfl) ?_
 refine takeGI 0 19 hro rfl rfl (by rfl) (by kernel_rfl) (by kernel_rfl) (by kernel_rfl) (fun _ _ _ _ h => h) hS3 (fun _ => rfl) (by (intro w hSw; clear hSw; go_simp; try rfl)) ?_
 simp only [st1, st2]
 refine takeGI 1 20 hro rfl rfl (by rfl) (by kernel_rfl) (by kernel_rfl) (by kernel_rfl) (fun _ _ _ _ h => h) hS3 (fun _ => rfl) (by (intro w hSw; clear hSw; go_simp; try rfl)) ?_
 simp only [st1, st2]
 refine takeGI 2 21 hro rfl rfl (by rfl) (by kernel_rfl) (by kernel_rfl) (by kernel_rfl) (fun _ _ _ _ h => h) hS3 (fun _ => rfl) (by (intro w hSw; clear hSw; go_simp; try rfl)) ?_
 simp only [st1, st2]
 refine takeGI 3 22 hro rfl rfl (by rfl) (by kernel_rfl) (by kernel_rfl) (by kernel_rfl) (fun _ _ _ _ h => h) hS3 (fun _ => rfl) (by (intro w hSw; have hc := hSw.1; clear hSw; go_simp; try rfl)) ?_
 simp only [st1, st2]
 refine takeGI 4 23 hro rfl rfl (by rfl) (by kernel_rfl) (by kernel_rfl) (by kernel_rfl) (fun _ _ _ _ h => h) hS3 (fun _ => rfl) (by (intro w hSw; have hc := hSw.2; clear hSw; go_simp; try rfl)) ?_
 simp only [st1, st2]
 refine wpAnyHI_call (i := 5) (by kernel_rfl) rfl (fun K hK => ?_)
 go_simp
 refine (callsIn_wide.2 Hclr.out).mono ?_
 rintro e w4 ⟨rfl, B', lb', hci, hbi, T4⟩
 have T4' := T4.perm (l2 := ((w.heap.size, .cells #[.int .i64 c0.1] 3) :: lb') ++ (arBlks a aw W cw ++ (spBlk sb a tb bb :: R))) (perm_of fun c => by simp; omega)
 have hS4 := HS.out _ lb' (W, cw) T4'
 have HT4 := uh T4'
 refine hK.out _ _ hS4 ?_
 clear hK K
 simp only [st0, st1, st2]
 refine wpAnyHI_done (by kernel_rfl) ?_ _
 refine NoPanic.normal ?_
 clear hS3 hS4 HT3 T4 T4' Hclr
 gi_wp2_with (first
  | (gi_at_call 65; refine (scells_in (nn - 1) sb _).mono ?_; rintro e w' ⟨rfl, hw⟩; rw [hw]; clear hw w')
  | fail)
 obtain ⟨n4, hn4⟩ : ∃ n4, w4.heap.size = n4 := ⟨_, rfl⟩
 have T5 := ((((HT4.out.alloc (.cells #[.int .i64 0] 3)).alloc (.cells #[.int .i64 0] 3)).alloc (.cells #[.bool false] 4)).alloc (.cells #[.func (.func 73) #[] #[.pointer (some ⟨w.heap.size, 0, none⟩), .pointer (some ⟨w4.heap.size + 1 + 1, 0, none⟩), .pointer (some ⟨w4.heap.size, 0, none⟩), .pointer (some ⟨w4.heap.size + 1, 0, none⟩)]] 156)).alloc (.cells #[.pointer (some ⟨sb, 0, none⟩)] 26)
 have R5 := (((((Turn.refl (Has.nil w4)).alloc (.cells #[.int .i64 0] 3)).alloc (.cells #[.int .i64 0] 3)).alloc (.cells #[.bool false] 4)).alloc (.cells #[.func (.func 73) #[] #[.pointer (some ⟨w.heap.size, 0, none⟩), .pointer (some ⟨w4.heap.size + 1 + 1, 0, none⟩), .pointer (some ⟨w4.heap.size, 0, none⟩), .pointer (some ⟨w4.heap.size + 1, 0, none⟩)]] 156)).alloc (.cells #[.pointer (some ⟨sb, 0, none⟩)] 26)
 have hsz0 : (((((w4.alloc (.cells #[.int .i64 0] 3)).alloc (.cells #[.int .i64 0] 3)).alloc (.cells #[.bool false] 4)).alloc (.cells #[.func (.func 73) #[] #[.pointer (some ⟨w.heap.size, 0, none⟩), .pointer (some ⟨w4.heap.size + 1 + 1, 0, none⟩), .pointer (some ⟨w4.heap.size, 0, none⟩), .pointer (some ⟨w4.heap.size + 1, 0, none⟩)]] 156)).alloc (.cells #[.pointer (some ⟨sb, 0, none⟩)] 26)).heap.size = w4.heap.size + 5 := by simp
 simp only [World.size_alloc] at T5
 have hws : w.heap.size < w4.heap.size := HT4.out.has.lt (by simp [keys])
 have hA4 : SpAt w4 sb a aw tb W tao tcap L := by
  have T6 := HT4.out.perm (l2 := arBlks a aw W cw ++ (spBlk sb a tb bb :: ((w.heap.size, .cells #[.int .i64 c0.1] 3) :: lb' ++ R))) (perm_of fun c => by simp; omega)
  exact ⟨T6.has.cell (b := sb) (c := #[.pointer (some ⟨a, 0, none⟩), .pointer (some ⟨tb, 0, none⟩), .pointer (some ⟨bb, 0, none⟩)]) (e := 146) (f := (0, 0)) (by simp [spBlk]) 0, T6.has.cell (b := sb) (c := #[.pointer (some ⟨a, 0, none⟩), .pointer (some ⟨tb, 0, none⟩), .pointer (some ⟨bb, 0, none⟩)]) (e := 146) (f := (0, 0)) (by simp [spBlk]) 1, arBlks_at T6.has hf, HTab.out.below T6.below, range_below HF0.out T6.below⟩
 generalize ((((w4.alloc (.cells #[.int .i64 0] 3)).alloc (.cells #[.int .i64 0] 3)).alloc (.cells #[.bool false] 4)).alloc (.cells #[.func (.func 73) #[] #[.pointer (some ⟨w.heap.size, 0, none⟩), .pointer (some ⟨w4.heap.size + 1 + 1, 0, none⟩), .pointer (some ⟨w4.heap.size, 0, none⟩), .pointer (some ⟨w4.heap.size + 1, 0, none⟩)]] 156)).alloc (.cells #[.pointer (some ⟨sb, 0, none⟩)] 26) = W0 at *
 rw [hn4] at T5 hsz0 hws ⊢
 have T8 : Turn [] w0 (grBx w.heap.size (n4 + 1 + 1) n4 (n4 + 1) c0.1 false 0 0 ++ ((n4 + 1 + 1 + 1, .cells #[.func (.func 73) #[] #[.pointer (some ⟨w.heap.size, 0, none⟩), .pointer (some ⟨n4 + 1 + 1, 0, none⟩), .pointer (some ⟨n4, 0, none⟩), .pointer (some ⟨n4 + 1, 0, none⟩)]] 156) :: (n4 + 1 + 1 + 1 + 1, .cells #[.pointer (some ⟨sb, 0, none⟩)] 26) :: (arBlks a aw W cw ++ (spBlk sb a tb bb :: lb') ++ R))) W0 := T5.perm (perm_of fun c => by simp [grBx]; omega)
 have R8 : Below w4.heap.size w4 W0 := R5.below
 have hR4 := R5.size
 rw [hn4] at hR4
 clear T5 R5
 have hsbl : sb < n4 := by rw [← hn4]; exact World.block_lt_of_cell? w4 _ hA4.c0
 have hBs : W0.heap[n4 + 1 + 1 + 1 + 1]? = some (.cells #[.pointer (some ⟨sb, 0, none⟩)] 26) := T8.has.own _ _ (by simp)
 have hXc : ∀ x ∈ (n4 + 1 + 1 + 1, .cells #[.func (.func 73) #[] #[.pointer (some ⟨w.heap.size, 0, none⟩), .pointer (some ⟨n4 + 1 + 1, 0, none⟩), .pointer (some ⟨n4, 0, none⟩), .pointer (some ⟨n4 + 1, 0, none⟩)]] 156) :: (n4 + 1 + 1 + 1 + 1, .cells #[.pointer (some ⟨sb, 0, none⟩)] 26) :: (arBlks a aw W cw ++ (spBlk sb a tb bb :: lb') ++ R), x.2.isCells = true := by
  intro y hy
  rcases List.mem_cons.1 hy with rfl | hy
  · rfl
  rcases List.mem_cons.1 hy with rfl | hy
  · rfl
  rcases List.mem_append.1 hy with hy | hy
  · rcases List.mem_append.1 hy with hy | hy
    · exact arBlks_cells _ _ _ _ y hy
    · rcases List.mem_cons.1 hy with rfl | hy
      · rfl
      · exact hbi.cells y hy
  · exact hRc y hy
 have hAc : ∀ (f t : Nat) (ov : Bool), ∀ x ∈ grBx w.heap.size (n4 + 1 + 1) n4 (n4 + 1) c0.1 ov f t ++ ((n4 + 1 + 1 + 1, .cells #[.func (.func 73) #[] #[.pointer (some ⟨w.heap.size, 0, none⟩), .pointer (some ⟨n4 + 1 + 1, 0, none⟩), .pointer (some ⟨n4, 0, none⟩), .pointer (some ⟨n4 + 1, 0, none⟩)]] 156) :: (n4 + 1 + 1 + 1 + 1, .cells #[.pointer (some ⟨sb, 0, none⟩)] 26) :: (arBlks a aw W cw ++ (spBlk sb a tb bb :: lb') ++ R)), x.2.isCells = true := fun f t ov x hx => (List.mem_append.1 hx).elim (grBx_cells _ _ _ _ _ _ _ _ x) (hXc x)
 have hw0W : w0.heap.size ≤ W0.heap.size := T8.size
 have hDD : ∀ b, (n4 ≤ b ∧ b < W0.heap.size ∧ b ≠ n4 + 1 + 1 + 1 + 1) → w4.heap.size ≤ b ∧ b ≠ n4 + 1 + 1 + 1 + 1 := fun b h => ⟨by have := h.1; omega, h.2.2⟩
 apply wpIn_rangeFunc_f (β := Nat) hro h1 (gf := 149) (lb := #[.pointer (some ⟨n4 + 1 + 1 + 1 + 1, 0, none⟩)]) rfl h7 (enters_of Tryz.func149 (by kernel_rfl) rfl)
  (scells_next (nn - 1) (by omega) w4 sb a aw tb W tao tcap L hA4 hf hu hTy hL _ HC.out (n4 + 1 + 1 + 1 + 1) (fun b => n4 ≤ b ∧ b < W0.heap.size ∧ b ≠ n4 + 1 + 1 + 1 + 1) W0 (fun b h => h.2.1) R8 hBs)
  (fun h k => h.t k) (KpC.b (by omega) (by omega)) (fun h k => h.x (by omega) (fun b hb => hb.2.1) k) (fun h k => h.p (by omega) (fun b hb => hb.2.1) k) (Below.refl _ _) (fun _ => rfl)
  (fun pre W' => ∃ f t ov, DropSt P c0 Q pre f t ov ∧ f ≤ W.length / 2 ∧ t ≤ W.length / 2 ∧ Turn [] w0 (grBx w.heap.size (n4 + 1 + 1) n4 (n4 + 1) c0.1 ov f t ++ ((n4 + 1 + 1 + 1, .cells #[.func (.func 73) #[] #[.pointer (some ⟨w.heap.size, 0, none⟩), .pointer (some ⟨n4 + 1 + 1, 0, none⟩), .pointer (some ⟨n4, 0, none⟩), .pointer (some ⟨n4 + 1, 0, none⟩)]] 156) :: (n4 + 1 + 1 + 1 + 1, .cells #[.pointer (some ⟨sb, 0, none⟩)] 26) :: (arBlks a aw W cw ++ (spBlk sb a tb bb :: lb') ++ R))) W')
  (fun c pre W' => c = .exit 0 ∧ ∃ f t ov, f = dropFrm 0 P ∧ t = dropTill (c0.1 + c0.2.size) Q ∧ Turn [] w0 (grBx w.heap.size (n4 + 1 + 1) n4 (n4 + 1) c0.1 ov f t ++ ((n4 + 1 + 1 + 1, .cells #[.func (.func 73) #[] #[.pointer (some ⟨w.heap.size, 0, none⟩), .pointer (some ⟨n4 + 1 + 1, 0, none⟩), .pointer (some ⟨n4, 0, none⟩), .pointer (some ⟨n4 + 1, 0, none⟩)]] 156) :: (n4 + 1 + 1 + 1 + 1, .cells #[.pointer (some ⟨sb, 0, none⟩)] 26) :: (arBlks a aw W cw ++ (spBlk sb a tb bb :: lb') ++ R))) W')
  (fun x nb pre W' => ∃ f t ov, DropSt P c0 Q pre f t ov ∧ f ≤ W.length / 2 ∧ t ≤ W.length / 2 ∧ Turn [] w0 ((nb, ceObj x) :: (grBx w.heap.size (n4 + 1 + 1) n4 (n4 + 1) c0.1 ov f t ++ ((n4 + 1 + 1 + 1, .cells #[.func (.func 73) #[] #[.pointer (some ⟨w.heap.size, 0, none⟩), .pointer (some ⟨n4 + 1 + 1, 0, none⟩), .pointer (some ⟨n4, 0, none⟩), .pointer (some ⟨n4 + 1, 0, none⟩)]] 156) :: (n4 + 1 + 1 + 1 + 1, .cells #[.pointer (some ⟨sb, 0, none⟩)] 26) :: (arBlks a aw W cw ++ (spBlk sb a tb bb :: lb') ++ R)))) W')
  (fun s A D row ⟨f, t, ov, e1, e2, e3, hT⟩ hg hr => ⟨f, t, ov, e1, e2, e3, hT.grownB hw0W (hAc f t ov) hg hr⟩)
  (fun c s A D row ⟨e0, f, t, ov, e1, e2, hT⟩ hg hr => ⟨e0, f, t, ov, e1, e2, hT.grownB hw0W (hAc f t ov) hg hr⟩)
  (fun x nb s A D row ⟨f, t, ov, e1, e2, e3, hT⟩ hg hr => ⟨f, t, ov, e1, e2, e3, hT.grownB hw0W (by
    intro y hy
    rcases List.mem_cons.1 hy with rfl | hy
    · rfl
    · exact hAc f t ov y hy) hg hr⟩)
  ⟨0, 0, false, DropSt.start _ _ _, Nat.zero_le _, Nat.zero_le _, T8⟩
 case hassign =>
  rintro l1 pre x W2 hnx ⟨f, t, ov, e1, e2, e3, hT⟩
  have T2 := hT.alloc (.cells #[.int .i64 0, .int .u8 0, .int .i64 0, .int .i64 0, .int .i64 0] 81)
  have hth : (W2.alloc (.cells #[.int .i64 0, .int .u8 0, .int .i64 0, .int .i64 0, .int .i64 0] 81)).there W2.heap.size 0 5 := T2.there1
  have HT2 := uh (T2.laid [.int .i64 x.1, .int .u8 x.2.tag, .int .i64 x.2.typ, .int .i64 x.2.len, .int .i64 x.2.size] rfl)
  have HX := uh (((Turn.refl (Has.nil W2)).alloc (.cells #[.int .i64 0, .int .u8 0, .int .i64 0, .int .i64 0, .int .i64 0] 81)).laid [.int .i64 x.1, .int .u8 x.2.tag, .int .i64 x.2.typ, .int .i64 x.2.len, .int .i64 x.2.size] rfl)
  have hszC := sz_cell
  have hoC := ce_one x
  have hB9 : n4 + 1 + 1 + 1 + 1 < W2.heap.size := hT.has.lt (by simp [keys])
  unfold ceArgs
  clear T2 hnx hT
  gi_wp2_with (first
   | (show wpListIn _ _ _ _ _ (⟨_, Op.store 81 _ _, _, _, _, _⟩ :: _) _ _; refine wpListIn_by (follows_round _ _ _) rfl (by intro c h; cases h) (wp_store_mid 81 _ _ rfl _ 0 #[.int .i64 x.1, .int .u8 x.2.tag, .int .i64 x.2.typ, .int .i64 x.2.len, .int .i64 x.2.size] rfl rfl hth hszC hoC ?_); clear hth)
   | fail)
  have HK := uh (⟨((KeepsOthers.alloc _ _).trans (keepsOthers_setCells _ _ _)).from _, KpC.of HX.out (by omega) hB9 (fun b hb => by cases hb) hDD⟩ :
   KeepsFrom W0.heap.size W2 ((W2.alloc (.cells #[.int .i64 0, .int .u8 0, .int .i64 0, .int .i64 0, .int .i64 0] 81)).setCells W2.heap.size 0 [.int .i64 x.1, .int .u8 x.2.tag, .int .i64 x.2.typ, .int .i64 x.2.len, .int .i64 x.2.size]) ∧
   KpC w4.heap.size (n4 + 1 + 1 + 1 + 1) (fun b => n4 ≤ b ∧ b < W0.heap.size ∧ b ≠ n4 + 1 + 1 + 1 + 1) W2 ((W2.alloc (.cells #[.int .i64 0, .int .u8 0, .int .i64 0, .int .i64 0, .int .i64 0] 81)).setCells W2.heap.size 0 [.int .i64 x.1, .int .u8 x.2.tag, .int .i64 x.2.typ, .int .i64 x.2.len, .int .i64 x.2.size]))
  clear HX hB9 hoC
  generalize (W2.alloc (.cells #[.int .i64 0, .int .u8 0, .int .i64 0, .int .i64 0, .int .i64 0] 81)).setCells W2.heap.size 0 [.int .i64 x.1, .int .u8 x.2.tag, .int .i64 x.2.typ, .int .i64 x.2.len, .int .i64 x.2.size] = W3 at *
  generalize W2.heap.size = nb at *
  exact ⟨HK.out.1, HK.out.2, nb, rfl, f, t, ov, e1, e2, e3, HT2.out⟩
 case hbody =>
  rintro l1 pre x nb W2 ⟨post, hcs⟩ ⟨f, t, ov, e1, e2, e3, hT⟩
  have hstep := e1.step HC.out hcs
  have hxm := (HC.out.mem x (by rw [hcs]; simp)).2.1
  have q0 : W2.cell? ⟨nb, 0, none⟩ = some (.int .i64 x.1) := hT.cell1 0
  have q1 : W2.cell? ⟨nb, 1, none⟩ = some (.int .u8 x.2.tag) := hT.cell1 1
  have hrg : W2.rangeAt nb 0 [.int .i64 x.1, .int .u8 x.2.tag, .int .i64 x.2.typ, .int .i64 x.2.len, .int .i64 x.2.size] := hT.range1
  have qs : W2.cell? ⟨w.heap.size, 0, none⟩ = some (.int .i64 c0.1) := hT.has.cell (b := w.heap.size) (c := #[.int .i64 c0.1]) (e := 3) (f := (0, 0)) (by simp [grBx]) 0
  have qfn : W2.cell? ⟨n4 + 1 + 1 + 1, 0, none⟩ = some (.func (.func 73) #[] #[.pointer (some ⟨w.heap.size, 0, none⟩), .pointer (some ⟨n4 + 1 + 1, 0, none⟩), .pointer (some ⟨n4, 0, none⟩), .pointer (some ⟨n4 + 1, 0, none⟩)]) := hT.has.cell (b := n4 + 1 + 1 + 1) (c := #[.func (.func 73) #[] #[.pointer (some ⟨w.heap.size, 0, none⟩), .pointer (some ⟨n4 + 1 + 1, 0, none⟩), .pointer (some ⟨n4, 0, none⟩), .pointer (some ⟨n4 + 1, 0, none⟩)]]) (e := 156) (f := (0, 0)) (by simp) 0
  have hszC := sz_cell
  rcases hstep with ⟨s1, s2, s3, s4⟩ | ⟨s1, s2⟩
  · have k1 : decide ((c0.1 : Int) < (x.1 : Int)) = true := decide_eq_true (by omega)
    have k2 : decide (c0.1 < x.1) = true := decide_eq_true s1
    have k3 : ((x.2.tag : Int) == 1) = true := by rw [beq_iff_eq]; omega
    have k4 : (x.2.tag == 1) = true := by rw [beq_iff_eq]; exact s2
    have HX := uh (⟨s3, s4, hT.tail⟩ : f = dropFrm 0 P ∧ t = dropTill (c0.1 + c0.2.size) Q ∧ Turn [] w0 (grBx w.heap.size (n4 + 1 + 1) n4 (n4 + 1) c0.1 ov f t ++ ((n4 + 1 + 1 + 1, .cells #[.func (.func 73) #[] #[.pointer (some ⟨w.heap.size, 0, none⟩), .pointer (some ⟨n4 + 1 + 1, 0, none⟩), .pointer (some ⟨n4, 0, none⟩), .pointer (some ⟨n4 + 1, 0, none⟩)]] 156) :: (n4 + 1 + 1 + 1 + 1, .cells #[.pointer (some ⟨sb, 0, none⟩)] 26) :: (arBlks a aw W cw ++ (spBlk sb a tb bb :: lb') ++ R))) W2)
    clear s1 s2 s3 s4 hT e1 hcs
    gi_wp2_with fail
    exact ⟨KeepsFrom.refl _ _, ⟨rfl, rfl, fun _ _ h _ _ => h⟩, rfl, f, t, ov, HX.out.1, HX.out.2.1, HX.out.2.2⟩
  · have hH : Has W2 (grC (n4 + 1 + 1) n4 (n4 + 1) ov f t ++ ((w.heap.size, .cells #[.int .i64 c0.1] 3) :: (nb, ceObj x) :: ((n4 + 1 + 1 + 1, .cells #[.func (.func 73) #[] #[.pointer (some ⟨w.heap.size, 0, none⟩), .pointer (some ⟨n4 + 1 + 1, 0, none⟩), .pointer (some ⟨n4, 0, none⟩), .pointer (some ⟨n4 + 1, 0, none⟩)]] 156) :: (n4 + 1 + 1 + 1 + 1, .cells #[.pointer (some ⟨sb, 0, none⟩)] 26) :: (arBlks a aw W cw ++ (spBlk sb a tb bb :: lb') ++ R)))) := hT.has.perm (perm_of fun c => by simp [grBx, grC]; omega)
    have HH := uh hH
    have TG : Turn (grC (n4 + 1 + 1) n4 (n4 + 1) ov f t ++ ((w.heap.size, .cells #[.int .i64 c0.1] 3) :: (nb, ceObj x) :: ((n4 + 1 + 1 + 1, .cells #[.func (.func 73) #[] #[.pointer (some ⟨w.heap.size, 0, none⟩), .pointer (some ⟨n4 + 1 + 1, 0, none⟩), .pointer (some ⟨n4, 0, none⟩), .pointer (some ⟨n4 + 1, 0, none⟩)]] 156) :: (n4 + 1 + 1 + 1 + 1, .cells #[.pointer (some ⟨sb, 0, none⟩)] 26) :: (arBlks a aw W cw ++ (spBlk sb a tb bb :: lb') ++ R)))) W2 (grBx w.heap.size (n4 + 1 + 1) n4 (n4 + 1) c0.1 ov f t ++ ((nb, ceObj x) :: ((n4 + 1 + 1 + 1, .cells #[.func (.func 73) #[] #[.pointer (some ⟨w.heap.size, 0, none⟩), .pointer (some ⟨n4 + 1 + 1, 0, none⟩), .pointer (some ⟨n4, 0, none⟩), .pointer (some ⟨n4 + 1, 0, none⟩)]] 156) :: (n4 + 1 + 1 + 1 + 1, .cells #[.pointer (some ⟨sb, 0, none⟩)] 26) :: (arBlks a aw W cw ++ (spBlk sb a tb bb :: lb') ++ R)))) W2 := (Turn.refl hH).perm (perm_of fun c => by simp [grBx, grC]; omega)
    have HG := uh (drop1 W2 w.heap.size (n4 + 1 + 1) n4 (n4 + 1) c0.1 f t ov x TG (by omega))
    have hb1 : (if x.2.tag = 1 ∧ x.1 ≠ c0.1 ∧ ov = false then x.1 + x.2.size else f) ≤ W.length / 2 := by split <;> omega
    have hb2 : (if x.2.tag = 1 ∧ x.1 ≠ c0.1 then t else x.1 + x.2.size) ≤ W.length / 2 := by split <;> omega
    have HS2 := uh s2
    have HTa := uh hT
    generalize (if x.2.tag = 1 ∧ x.1 ≠ c0.1 ∧ ov = false then x.1 + x.2.size else f) = f' at *
    generalize (if x.2.tag = 1 ∧ x.1 ≠ c0.1 then t else x.1 + x.2.size) = t' at *
    have hcase : (¬ c0.1 < x.1) ∨ (c0.1 < x.1 ∧ x.2.tag ≠ 1) := by
     by_cases h : c0.1 < x.1
     · exact .inr ⟨h, fun h' => s1 ⟨h, h'⟩⟩
     · exact .inl h
    clear s1 s2 hT e1 hcs hH TG
    rcases hcase with hgt | ⟨hgt, htg⟩
    case' inl => (
     have k1 : decide ((c0.1 : Int) < (x.1 : Int)) = false := decide_eq_false (by omega)
     have k2 : decide (c0.1 < x.1) = false := decide_eq_false hgt
     clear hgt
     gi_wp2_with (first
      | (show wpListIn _ _ _ _ _ (⟨_, Op.load 81 _, _, _, _, _⟩ :: _) _ _; refine wpListIn_by (follows_round _ _ _) rfl (by intro c h; cases h) (wp_load_mid 81 _ rfl nb 0 rfl [.int .i64 x.1, .int .u8 x.2.tag, .int .i64 x.2.typ, .int .i64 x.2.len, .int .i64 x.2.size] _ hrg Tryz.underlying81 rfl hszC ?_))
      | fail))
    case' inr => (
     have k1 : decide ((c0.1 : Int) < (x.1 : Int)) = true := decide_eq_true (by omega)
     have k2 : decide (c0.1 < x.1) = true := decide_eq_true hgt
     have k3 : ((x.2.tag : Int) == 1) = false := by rw [beq_eq_false_iff_ne]; omega
     have k4 : (x.2.tag == 1) = false := by rw [beq_eq_false_iff_ne]; exact htg
     clear hgt htg
     gi_wp2_with (first
      | (show wpListIn _ _ _ _ _ (⟨_, Op.load 81 _, _, _, _, _⟩ :: _) _ _; refine wpListIn_by (follows_round _ _ _) rfl (by intro c h; cases h) (wp_load_mid 81 _ rfl nb 0 rfl [.int .i64 x.1, .int .u8 x.2.tag, .int .i64 x.2.typ, .int .i64 x.2.len, .int .i64 x.2.size] _ hrg Tryz.underlying81 rfl hszC ?_))
      | fail))
    all_goals (
     refine ⟨trivial, (CallsIn.inRound _ (callsIn_wide.2 HG.out)).mono ?_⟩
     rintro e w5 ⟨⟨v, rfl⟩, T5⟩
     clear q0 qs qfn q1 hrg HG
     have q0 : w5.cell? ⟨nb, 0, none⟩ = some (.int .i64 x.1) := T5.has.cell (b := nb) (c := #[.int .i64 x.1, .int .u8 x.2.tag, .int .i64 x.2.typ, .int .i64 x.2.len, .int .i64 x.2.size]) (e := 81) (f := (0, 0)) (by simp [ceObj]) 0
     have qs : w5.cell? ⟨w.heap.size, 0, none⟩ = some (.int .i64 c0.1) := T5.has.cell (b := w.heap.size) (c := #[.int .i64 c0.1]) (e := 3) (f := (0, 0)) (by simp [grBx]) 0
     have qo : w5.cell? ⟨n4 + 1 + 1, 0, none⟩ = some (.bool ov) := T5.has.cell (b := n4 + 1 + 1) (c := #[.bool ov]) (e := 4) (f := (0, 0)) (by simp [grBx]) 0
     have fo : w5.frozen? ⟨n4 + 1 + 1, 0, none⟩ = false := T5.has.free (b := n4 + 1 + 1) (c := #[.bool ov]) (e := 4) (by simp [grBx]) 0
     have T6 := ((T5.perm (l2 := (n4 + 1 + 1, .cells #[.bool ov] 4) :: ((n4, .cells #[.int .i64 f'] 3) :: (n4 + 1, .cells #[.int .i64 t'] 3) :: ((w.heap.size, .cells #[.int .i64 c0.1] 3) :: (nb, ceObj x) :: ((n4 + 1 + 1 + 1, .cells #[.func (.func 73) #[] #[.pointer (some ⟨w.heap.size, 0, none⟩), .pointer (some ⟨n4 + 1 + 1, 0, none⟩), .pointer (some ⟨n4, 0, none⟩), .pointer (some ⟨n4 + 1, 0, none⟩)]] 156) :: (n4 + 1 + 1 + 1 + 1, .cells #[.pointer (some ⟨sb, 0, none⟩)] 26) :: (arBlks a aw W cw ++ (spBlk sb a tb bb :: lb') ++ R))))) (perm_of fun c => by simp [grBx]; omega)).setCell 0 (.bool (ov || x.1 == c0.1)))
     have HT6 : Hid (Turn (grC (n4 + 1 + 1) n4 (n4 + 1) ov f t ++ ((w.heap.size, .cells #[.int .i64 c0.1] 3) :: (nb, ceObj x) :: ((n4 + 1 + 1 + 1, .cells #[.func (.func 73) #[] #[.pointer (some ⟨w.heap.size, 0, none⟩), .pointer (some ⟨n4 + 1 + 1, 0, none⟩), .pointer (some ⟨n4, 0, none⟩), .pointer (some ⟨n4 + 1, 0, none⟩)]] 156) :: (n4 + 1 + 1 + 1 + 1, .cells #[.pointer (some ⟨sb, 0, none⟩)] 26) :: (arBlks a aw W cw ++ (spBlk sb a tb bb :: lb') ++ R)))) W2 (grC (n4 + 1 + 1) n4 (n4 + 1) (ov || x.1 == c0.1) f' t' ++ ((w.heap.size, .cells #[.int .i64 c0.1] 3) :: (nb, ceObj x) :: ((n4 + 1 + 1 + 1, .cells #[.func (.func 73) #[] #[.pointer (some ⟨w.heap.size, 0, none⟩), .pointer (some ⟨n4 + 1 + 1, 0, none⟩), .pointer (some ⟨n4, 0, none⟩), .pointer (some ⟨n4 + 1, 0, none⟩)]] 156) :: (n4 + 1 + 1 + 1 + 1, .cells #[.pointer (some ⟨sb, 0, none⟩)] 26) :: (arBlks a aw W cw ++ (spBlk sb a tb bb :: lb') ++ R)))) (w5.setCell ⟨n4 + 1 + 1, 0, none⟩ (.bool (ov || x.1 == c0.1)))) := uh T6
     have HFI := uh (⟨(Turn.keepsOthers HT6.out HH.out (fun y hy => by
       rcases List.mem_append.1 hy with hy | hy
       · exact grBx_cells w.heap.size (n4 + 1 + 1) n4 (n4 + 1) c0.1 f t ov y (by simp only [grC, List.mem_cons, List.not_mem_nil, or_false] at hy; simp only [grBx, List.mem_cons, List.not_mem_nil, or_false]; exact .inr hy)
       rcases List.mem_cons.1 hy with rfl | hy
       · rfl
       rcases List.mem_cons.1 hy with rfl | hy
       · rfl
       · exact hXc y hy)).from W0.heap.size, KpC.un HT6.out HH.out (by have := HTa.out.has.lt (b := n4) (by simp [keys, grBx]); omega) (HTa.out.has.lt (by simp [keys])) (fun b hb => by simp only [keys, grC, List.map_cons, List.map_nil, List.mem_cons, List.not_mem_nil, or_false] at hb; omega) hDD,
       ((HTa.out.perm (l2 := grC (n4 + 1 + 1) n4 (n4 + 1) ov f t ++ ((w.heap.size, .cells #[.int .i64 c0.1] 3) :: (nb, ceObj x) :: ((n4 + 1 + 1 + 1, .cells #[.func (.func 73) #[] #[.pointer (some ⟨w.heap.size, 0, none⟩), .pointer (some ⟨n4 + 1 + 1, 0, none⟩), .pointer (some ⟨n4, 0, none⟩), .pointer (some ⟨n4 + 1, 0, none⟩)]] 156) :: (n4 + 1 + 1 + 1 + 1, .cells #[.pointer (some ⟨sb, 0, none⟩)] 26) :: (arBlks a aw W cw ++ (spBlk sb a tb bb :: lb') ++ R)))) (perm_of fun c => by simp [grBx, grC]; omega)).trans HT6.out).perm (l2 := (nb, ceObj x) :: (grBx w.heap.size (n4 + 1 + 1) n4 (n4 + 1) c0.1 (ov || x.1 == c0.1) f' t' ++ ((n4 + 1 + 1 + 1, .cells #[.func (.func 73) #[] #[.pointer (some ⟨w.heap.size, 0, none⟩), .pointer (some ⟨n4 + 1 + 1, 0, none⟩), .pointer (some ⟨n4, 0, none⟩), .pointer (some ⟨n4 + 1, 0, none⟩)]] 156) :: (n4 + 1 + 1 + 1 + 1, .cells #[.pointer (some ⟨sb, 0, none⟩)] 26) :: (arBlks a aw W cw ++ (spBlk sb a tb bb :: lb') ++ R)))) (perm_of fun c => by simp [grBx, grC]; omega)⟩ :
       KeepsFrom W0.heap.size W2 (w5.setCell ⟨n4 + 1 + 1, 0, none⟩ (.bool (ov || x.1 == c0.1))) ∧ KpC w4.heap.size (n4 + 1 + 1 + 1 + 1) (fun b => n4 ≤ b ∧ b < W0.heap.size ∧ b ≠ n4 + 1 + 1 + 1 + 1) W2 (w5.setCell ⟨n4 + 1 + 1, 0, none⟩ (.bool (ov || x.1 == c0.1))) ∧ Turn [] w0 ((nb, ceObj x) :: (grBx w.heap.size (n4 + 1 + 1) n4 (n4 + 1) c0.1 (ov || x.1 == c0.1) f' t' ++ ((n4 + 1 + 1 + 1, .cells #[.func (.func 73) #[] #[.pointer (some ⟨w.heap.size, 0, none⟩), .pointer (some ⟨n4 + 1 + 1, 0, none⟩), .pointer (some ⟨n4, 0, none⟩), .pointer (some ⟨n4 + 1, 0, none⟩)]] 156) :: (n4 + 1 + 1 + 1 + 1, .cells #[.pointer (some ⟨sb, 0, none⟩)] 26) :: (arBlks a aw W cw ++ (spBlk sb a tb bb :: lb') ++ R)))) (w5.setCell ⟨n4 + 1 + 1, 0, none⟩ (.bool (ov || x.1 == c0.1))))
     clear T5 T6 HT6 HH HTa
     by_cases hov : ov = true
     · subst hov
       simp only [Bool.true_or] at HFI HS2
       gi_wp2_with fail
       exact ⟨HFI.out.1, HFI.out.2.1, f', t', true, HS2.out, hb1, hb2, HFI.out.2.2.tail⟩
     · have hov' : ov = false := by simpa using hov
       subst hov'
       clear hov
       by_cases hxe : x.1 = c0.1
       · have k8 : ((x.1 : Int) == (c0.1 : Int)) = true := by rw [beq_iff_eq]; omega
         have k9 : (x.1 == c0.1) = true := by rw [beq_iff_eq]; exact hxe
         rw [k9] at HFI HS2
         simp only [Bool.or_true] at HFI HS2
         clear hxe
         gi_wp2_with fail
         exact ⟨HFI.out.1, HFI.out.2.1, f', t', true, HS2.out, hb1, hb2, HFI.out.2.2.tail⟩
       · have k8 : ((x.1 : Int) == (c0.1 : Int)) = false := by rw [beq_eq_false_iff_ne]; omega
         have k9 : (x.1 == c0.1) = false := by rw [beq_eq_false_iff_ne]; exact hxe
         rw [k9] at HFI HS2
         simp only [Bool.or_false] at HFI HS2
         clear hxe
         gi_wp2_with fail
         exact ⟨HFI.out.1, HFI.out.2.1, f', t', false, HS2.out, hb1, hb2, HFI.out.2.2.tail⟩)
 case hdone =>
  rintro D xs W2 hD rfl ⟨f, t, ov, e1, e2, e3, hT⟩ hK
  obtain ⟨ef, et⟩ := e1.done
  obtain ⟨ya, yb, yc, yd, -, -, -, -, -, -, hx1, hx2, hx3⟩ := drop_parts HC.out
  have hle1 := hx2.le
  have hle2 := hx3.le
  have HDW := uh (show dropW W P c0 Q = lay W f (t - f) by unfold dropW; rw [← ef, ← et])
  rw [← ef, ← et] at hle1
  rw [← et] at hle2
  clear hx1 hx2 hx3 ef et
  have hT9 := hT.perm (l2 := arBlks a aw W cw ++ ((grBx w.heap.size (n4 + 1 + 1) n4 (n4 + 1) c0.1 ov f t) ++ ((n4 + 1 + 1 + 1, .cells #[.func (.func 73) #[] #[.pointer (some ⟨w.heap.size, 0, none⟩), .pointer (some ⟨n4 + 1 + 1, 0, none⟩), .pointer (some ⟨n4, 0, none⟩), .pointer (some ⟨n4 + 1, 0, none⟩)]] 156) :: (n4 + 1 + 1 + 1 + 1, .cells #[.pointer (some ⟨sb, 0, none⟩)] 26) :: (spBlk sb a tb bb :: (lb' ++ R))))) (perm_of fun c => by simp; omega)
  have qf : W2.cell? ⟨n4, 0, none⟩ = some (.int .i64 f) := hT.has.cell (b := n4) (c := #[.int .i64 f]) (e := 3) (f := (0, 0)) (by simp [grBx]) 0
  have qt : W2.cell? ⟨n4 + 1, 0, none⟩ = some (.int .i64 t) := hT.has.cell (b := n4 + 1) (c := #[.int .i64 t]) (e := 3) (f := (0, 0)) (by simp [grBx]) 0
  have HG := uh (sgap W2 (range_below HF0.out hT9.below) (Turn.refl hT9.has) (s := sb) (tb := tb) (bb := bb) (by simp) hf f (t - f) (by omega))
  have hsub : (t : Int) - (f : Int) = ((t - f : Nat) : Int) := by omega
  have hcl : ∀ x ∈ arBlks a aw W cw ++ ((grBx w.heap.size (n4 + 1 + 1) n4 (n4 + 1) c0.1 ov f t) ++ ((n4 + 1 + 1 + 1, .cells #[.func (.func 73) #[] #[.pointer (some ⟨w.heap.size, 0, none⟩), .pointer (some ⟨n4 + 1 + 1, 0, none⟩), .pointer (some ⟨n4, 0, none⟩), .pointer (some ⟨n4 + 1, 0, none⟩)]] 156) :: (n4 + 1 + 1 + 1 + 1, .cells #[.pointer (some ⟨sb, 0, none⟩)] 26) :: (spBlk sb a tb bb :: (lb' ++ R)))), x.2.isCells = true := fun y hy => hAc f t ov y ((perm_of (l := arBlks a aw W cw ++ ((grBx w.heap.size (n4 + 1 + 1) n4 (n4 + 1) c0.1 ov f t) ++ ((n4 + 1 + 1 + 1, .cells #[.func (.func 73) #[] #[.pointer (some ⟨w.heap.size, 0, none⟩), .pointer (some ⟨n4 + 1 + 1, 0, none⟩), .pointer (some ⟨n4, 0, none⟩), .pointer (some ⟨n4 + 1, 0, none⟩)]] 156) :: (n4 + 1 + 1 + 1 + 1, .cells #[.pointer (some ⟨sb, 0, none⟩)] 26) :: (spBlk sb a tb bb :: (lb' ++ R))))) (l' := grBx w.heap.size (n4 + 1 + 1) n4 (n4 + 1) c0.1 ov f t ++ ((n4 + 1 + 1 + 1, .cells #[.func (.func 73) #[] #[.pointer (some ⟨w.heap.size, 0, none⟩), .pointer (some ⟨n4 + 1 + 1, 0, none⟩), .pointer (some ⟨n4, 0, none⟩), .pointer (some ⟨n4 + 1, 0, none⟩)]] 156) :: (n4 + 1 + 1 + 1 + 1, .cells #[.pointer (some ⟨sb, 0, none⟩)] 26) :: (arBlks a aw W cw ++ (spBlk sb a tb bb :: lb') ++ R))) (fun c => by simp; omega)).mem_iff.1 hy)
  have hDn : D ∉ keys (arBlks a aw W cw ++ ((grBx w.heap.size (n4 + 1 + 1) n4 (n4 + 1) c0.1 ov f t) ++ ((n4 + 1 + 1 + 1, .cells #[.func (.func 73) #[] #[.pointer (some ⟨w.heap.size, 0, none⟩), .pointer (some ⟨n4 + 1 + 1, 0, none⟩), .pointer (some ⟨n4, 0, none⟩), .pointer (some ⟨n4 + 1, 0, none⟩)]] 156) :: (n4 + 1 + 1 + 1 + 1, .cells #[.pointer (some ⟨sb, 0, none⟩)] 26) :: (spBlk sb a tb bb :: (lb' ++ R))))) := fun hm => by
   obtain ⟨o, ho⟩ := mem_keys.1 hm
   have h1 := hT9.has.own D o ho
   rw [hK] at h1
   cases h1
   have := hcl _ ho
   cases this
  have HT9 := uh hT9
  have HK := uh hK
  have HDn := uh hDn
  have HBC := uh (⟨hci, hbi⟩ : ClrIn B B' c0.1 1 ∧ BitIs bb B' (W.length / 2) lb')
  clear hT hT9 hK hDn hcl
  gi_wp2_with fail
  refine (callsIn_wide.2 HG.out).mono ?_
  rintro e w5 ⟨⟨u, rfl⟩, c5, T6⟩
  have hK5 := (T6.same D (lt_of_block HK.out) HDn.out).trans HK.out
  have T7 := (HT9.out.trans T6).perm (l2 := ((grBx w.heap.size (n4 + 1 + 1) n4 (n4 + 1) c0.1 ov f t) ++ [(n4 + 1 + 1 + 1, .cells #[.func (.func 73) #[] #[.pointer (some ⟨w.heap.size, 0, none⟩), .pointer (some ⟨n4 + 1 + 1, 0, none⟩), .pointer (some ⟨n4, 0, none⟩), .pointer (some ⟨n4 + 1, 0, none⟩)]] 156), (n4 + 1 + 1 + 1 + 1, .cells #[.pointer (some ⟨sb, 0, none⟩)] 26)]) ++ (arBlks a aw (lay W f (t - f)) c5 ++ (spBlk sb a tb bb :: lb') ++ R)) (perm_of fun c => by simp; omega)
  have T8 := T7.drop.grownB (B := W0.heap.size) hw0W (fun y hy => by
   rcases List.mem_append.1 hy with hy | hy
   · rcases List.mem_append.1 hy with hy | hy
     · exact arBlks_cells _ _ _ _ y hy
     · rcases List.mem_cons.1 hy with rfl | hy
       · rfl
       · exact hbi.cells y hy
   · exact hRc y hy) (grownBy_putObj' w5 D (.deferred none)) (fun r e => by cases e; exact ⟨hD, _, hK5, rfl⟩)
  have HT8 := uh T8
  clear T6 T7 T8 HG qf qt HT9
  gi_wp2_with fail
  refine ⟨by simp, .inl ⟨_, _, rfl, run_takeDeferred hK5, ?_⟩⟩
  refine ⟨.int .i64 0, ?_, B', lb', c5, rfl, HBC.out.1, HBC.out.2, by rw [HDW.out]; exact HT8.out⟩
  simp [results, Tryz.results22, go_sem]
 case hstop =>
  rintro D c pre W2 hD ⟨rfl, f, t, ov, ef, et, hT⟩ hK
  obtain ⟨ya, yb, yc, yd, -, -, -, -, -, -, hx1, hx2, hx3⟩ := drop_parts HC.out
  have hle1 := hx2.le
  have hle2 := hx3.le
  have HDW := uh (show dropW W P c0 Q = lay W f (t - f) by unfold dropW; rw [← ef, ← et])
  rw [← ef, ← et] at hle1
  rw [← et] at hle2
  clear hx1 hx2 hx3 ef et
  have hT9 := hT.perm (l2 := arBlks a aw W cw ++ ((grBx w.heap.size (n4 + 1 + 1) n4 (n4 + 1) c0.1 ov f t) ++ ((n4 + 1 + 1 + 1, .cells #[.func (.func 73) #[] #[.pointer (some ⟨w.heap.size, 0, none⟩), .pointer (some ⟨n4 + 1 + 1, 0, none⟩), .pointer (some ⟨n4, 0, none⟩), .pointer (some ⟨n4 + 1, 0, none⟩)]] 156) :: (n4 + 1 + 1 + 1 + 1, .cells #[.pointer (some ⟨sb, 0, none⟩)] 26) :: (spBlk sb a tb bb :: (lb' ++ R))))) (perm_of fun c => by simp; omega)
  have qf : W2.cell? ⟨n4, 0, none⟩ = some (.int .i64 f) := hT.has.cell (b := n4) (c := #[.int .i64 f]) (e := 3) (f := (0, 0)) (by simp [grBx]) 0
  have qt : W2.cell? ⟨n4 + 1, 0, none⟩ = some (.int .i64 t) := hT.has.cell (b := n4 + 1) (c := #[.int .i64 t]) (e := 3) (f := (0, 0)) (by simp [grBx]) 0
  have HG := uh (sgap W2 (range_below HF0.out hT9.below) (Turn.refl hT9.has) (s := sb) (tb := tb) (bb := bb) (by simp) hf f (t - f) (by omega))
  have hsub : (t : Int) - (f : Int) = ((t - f : Nat) : Int) := by omega
  have hcl : ∀ x ∈ arBlks a aw W cw ++ ((grBx w.heap.size (n4 + 1 + 1) n4 (n4 + 1) c0.1 ov f t) ++ ((n4 + 1 + 1 + 1, .cells #[.func (.func 73) #[] #[.pointer (some ⟨w.heap.size, 0, none⟩), .pointer (some ⟨n4 + 1 + 1, 0, none⟩), .pointer (some ⟨n4, 0, none⟩), .pointer (some ⟨n4 + 1, 0, none⟩)]] 156) :: (n4 + 1 + 1 + 1 + 1, .cells #[.pointer (some ⟨sb, 0, none⟩)] 26) :: (spBlk sb a tb bb :: (lb' ++ R)))), x.2.isCells = true := fun y hy => hAc f t ov y ((perm_of (l := arBlks a aw W cw ++ ((grBx w.heap.size (n4 + 1 + 1) n4 (n4 + 1) c0.1 ov f t) ++ ((n4 + 1 + 1 + 1, .cells #[.func (.func 73) #[] #[.pointer (some ⟨w.heap.size, 0, none⟩), .pointer (some ⟨n4 + 1 + 1, 0, none⟩), .pointer (some ⟨n4, 0, none⟩), .pointer (some ⟨n4 + 1, 0, none⟩)]] 156) :: (n4 + 1 + 1 + 1 + 1, .cells #[.pointer (some ⟨sb, 0, none⟩)] 26) :: (spBlk sb a tb bb :: (lb' ++ R))))) (l' := grBx w.heap.size (n4 + 1 + 1) n4 (n4 + 1) c0.1 ov f t ++ ((n4 + 1 + 1 + 1, .cells #[.func (.func 73) #[] #[.pointer (some ⟨w.heap.size, 0, none⟩), .pointer (some ⟨n4 + 1 + 1, 0, none⟩), .pointer (some ⟨n4, 0, none⟩), .pointer (some ⟨n4 + 1, 0, none⟩)]] 156) :: (n4 + 1 + 1 + 1 + 1, .cells #[.pointer (some ⟨sb, 0, none⟩)] 26) :: (arBlks a aw W cw ++ (spBlk sb a tb bb :: lb') ++ R))) (fun c => by simp; omega)).mem_iff.1 hy)
  have hDn : D ∉ keys (arBlks a aw W cw ++ ((grBx w.heap.size (n4 + 1 + 1) n4 (n4 + 1) c0.1 ov f t) ++ ((n4 + 1 + 1 + 1, .cells #[.func (.func 73) #[] #[.pointer (some ⟨w.heap.size, 0, none⟩), .pointer (some ⟨n4 + 1 + 1, 0, none⟩), .pointer (some ⟨n4, 0, none⟩), .pointer (some ⟨n4 + 1, 0, none⟩)]] 156) :: (n4 + 1 + 1 + 1 + 1, .cells #[.pointer (some ⟨sb, 0, none⟩)] 26) :: (spBlk sb a tb bb :: (lb' ++ R))))) := fun hm => by
   obtain ⟨o, ho⟩ := mem_keys.1 hm
   have h1 := hT9.has.own D o ho
   rw [hK] at h1
   cases h1
   have := hcl _ ho
   cases this
  have HT9 := uh hT9
  have HK := uh hK
  have HDn := uh hDn
  have HBC := uh (⟨hci, hbi⟩ : ClrIn B B' c0.1 1 ∧ BitIs bb B' (W.length / 2) lb')
  clear hT hT9 hK hDn hcl
  gi_wp2_with fail
  refine (callsIn_wide.2 HG.out).mono ?_
  rintro e w5 ⟨⟨u, rfl⟩, c5, T6⟩
  have hK5 := (T6.same D (lt_of_block HK.out) HDn.out).trans HK.out
  have T7 := (HT9.out.trans T6).perm (l2 := ((grBx w.heap.size (n4 + 1 + 1) n4 (n4 + 1) c0.1 ov f t) ++ [(n4 + 1 + 1 + 1, .cells #[.func (.func 73) #[] #[.pointer (some ⟨w.heap.size, 0, none⟩), .pointer (some ⟨n4 + 1 + 1, 0, none⟩), .pointer (some ⟨n4, 0, none⟩), .pointer (some ⟨n4 + 1, 0, none⟩)]] 156), (n4 + 1 + 1 + 1 + 1, .cells #[.pointer (some ⟨sb, 0, none⟩)] 26)]) ++ (arBlks a aw (lay W f (t - f)) c5 ++ (spBlk sb a tb bb :: lb') ++ R)) (perm_of fun c => by simp; omega)
  have T8 := T7.drop.grownB (B := W0.heap.size) hw0W (fun y hy => by
   rcases List.mem_append.1 hy with hy | hy
   · rcases List.mem_append.1 hy with hy | hy
     · exact arBlks_cells _ _ _ _ y hy
     · rcases List.mem_cons.1 hy with rfl | hy
       · rfl
       · exact hbi.cells y hy
   · exact hRc y hy) (grownBy_putObj' w5 D (.deferred none)) (fun r e => by cases e; exact ⟨hD, _, hK5, rfl⟩)
  have HT8 := uh T8
  clear T6 T7 T8 HG qf qt HT9
  gi_wp2_with fail
  refine ⟨by simp, .inl ⟨_, _, rfl, run_takeDeferred hK5, ?_⟩⟩
  refine ⟨.int .i64 0, ?_, B', lb', c5, rfl, HBC.out.1, HBC.out.2, by rw [HDW.out]; exact HT8.out⟩
  simp [results, Tryz.results22, go_sem]
end
section
open Go Go.RowKit Go.Shelf Go.IntWalk
set_option maxRecDepth 100000 in
set_option maxHeartbeats 1600000 in
theorem sdrop_none {w0 : World} (w : World) (sb a aw tb bb : Nat) {W B : List Nat} {lb R : List Blk} {cw : Int} (hB : BitIs bb B (W.length / 2) lb) (hBu : u64ok B) (hBl : (W.length / 2 + 63) / 64 ≤ B.length)
  (T : Turn [] w0 (arBlks a aw W cw ++ (spBlk sb a tb bb :: lb) ++ R) w) (hf : W.length ≤ 65536) (g : Int) (hno : g < 0 ∨ ((W.length / 2 : Nat) : Int) ≤ g ∨ bitAt B g.toNat = false) :
  Calls Tryz.prog 22 #[.pointer (some ⟨sb, 0, none⟩), .int .i64 g] w fun e w' => e = .returned (.int .i64 3) ∧ Turn [] w0 (arBlks a aw W cw ++ (spBlk sb a tb bb :: lb) ++ R) w' := by
 have Hhas := uh (show ∀ w' (X : List Blk), Turn [] w0 (((w.heap.size, .cells #[.int .i64 g] 3) :: lb) ++ X) w' → Calls Tryz.prog 71 #[.pointer (some ⟨bb, 0, none⟩), .int .i64 g] w' fun e w'' => e = .returned (.bool false) ∧ Below w'.heap.size w' w'' from fun w' X V => by
  obtain ⟨bo, cap, hA⟩ := hB.at_ (R := (w.heap.size, .cells #[.int .i64 g] 3) :: X) (V.has.perm (perm_of fun c => by simp; omega))
  by_cases h : g < 0 ∨ ((W.length / 2 : Nat) : Int) ≤ g
  · exact bhas_out w' bb _ B bo cap hA g h
  · obtain ⟨k, rfl⟩ : ∃ k : Nat, g = k := ⟨g.toNat, by omega⟩
    have hb : bitAt B k = false := by
     rcases hno with h1 | h1 | h1
     · exact absurd (.inl h1) h
     · exact absurd (.inr h1) h
     · simpa using h1
    have := bhas w' bb _ B bo cap hA hBu hBl k (by omega) (by omega)
    rw [hb] at this
    exact this)
 have T0 := T.alloc (.cells #[.int .i64 g] 3)
 have HT0 := uh (show Turn [] w0 (((w.heap.size, .cells #[.int .i64 g] 3) :: lb) ++ (arBlks a aw W cw ++ (spBlk sb a tb bb :: R))) (w.alloc (.cells #[.int .i64 g] 3)).drew from (T0.perm (perm_of fun c => by simp; omega)).drew)
 have HS := uh (fun w' (V : Turn [] w0 (((w.heap.size, .cells #[.int .i64 g] 3) :: lb) ++ (arBlks a aw W cw ++ (spBlk sb a tb bb :: R))) w') => (⟨V.has.cell (b := sb) (c := #[.pointer (some ⟨a, 0, none⟩), .pointer (some ⟨tb, 0, none⟩), .pointer (some ⟨bb, 0, none⟩)]) (e := 146) (f := (0, 0)) (by simp [spBlk]) 2, V.cell1 0⟩ :
  w'.cell? ⟨sb, 2, none⟩ = some (.pointer (some ⟨bb, 0, none⟩)) ∧ w'.cell? ⟨w.heap.size, 0, none⟩ = some (.int .i64 g)))
 clear T0 T hB hno
 go_enter Tryz.func22, Tryz.ntmps22
 go_wp2_with fail
 refine wp_abs (fun W' => Turn [] w0 (((w.heap.size, .cells #[.int .i64 g] 3) :: lb) ++ (arBlks a aw W cw ++ (spBlk sb a tb bb :: R))) W'.drew) HT0.out fun W1 T1 => ?_
 have hS1 := HS.out _ T1
 have HT1 := uh T1
 clear T1 HT0
 refine wp_region_noPanic ?_
 refine wp_region_listed (S := fun W' => W'.cell? ⟨sb, 2, none⟩ = some (.pointer (some ⟨bb, 0, none⟩)) ∧ W'.cell? ⟨w.heap.size, 0, none⟩ = some (.int .i64 g)) 7 [false, false, false, false, false, false, false] rfl rfl (by kernel_rfl) ?_
 refine tkA 0 12 hS1 ?_
 refine tkA 1 13 hS1 ?_
 refine tkA 2 14 hS1 ?_
 refine tkB 3 15 hS1 (fun w hSw => hSw.1) ?_
 refine tkB 4 16 hS1 (fun w hSw => hSw.2) ?_
 refine rdyA 5 (fun K hK => ?_)
 go_simp
 refine (Hhas.out _ _ HT1.out).mono ?_
 rintro e w2 ⟨rfl, hB2⟩
 have HT2 := uh (HT1.out.call hB2)
 have hS2 := HS.out _ HT2.out
 clear HT1 hB2 hS1
 refine hK.out _ _ hS2 fun _ => ?_
 clear hK K
 simp only [st0, st1, st2]
 refine tkA 6 18 hS2 ?_
 refine wpAnyH_done (by kernel_rfl) ?_ _
 refine NoPanic.normal ?_
 have HT3 := uh ((HT2.out.perm (l2 := (w.heap.size, .cells #[.int .i64 g] 3) :: (arBlks a aw W cw ++ (spBlk sb a tb bb :: lb) ++ R)) (perm_of fun c => by simp; omega)).tail)
 clear hS2 HT2 HS Hhas
 go_wp2_with fail
 go_ret
 exact ⟨rfl, HT3.out⟩
end
section
open Go Go.RowKit Go.Shelf Go.IntWalk
attribute [local go_sem] Oper.semAt_some
def putBz (s sb : Nat) (g id n : Int) (er : Value) : List Blk :=
 [(s + 1 + 1 + 1 + 1, .cells #[er] 33), (s + 1 + 1 + 1, .cells #[.int .i64 n] 3), (s + 1 + 1, .cells #[.int .i64 id] 3), (s + 1, .cells #[.int .i64 g] 3), (s, .cells #[.pointer (some ⟨sb, 0, none⟩)] 26)]
set_option maxRecDepth 100000 in
set_option maxHeartbeats 3200000 in
theorem sput_err_in (nn : Nat) (w : World) (sb a aw tb : Nat) {W : List Nat} (tao : Option Addr) (tcap : Nat) (L : List Ty) (hA : SpAt w sb a aw tb W tao tcap L) (hf : W.length ≤ 65536) (hTy : ∀ t ∈ L, TyIn t) (hL : L.length ≤ 1000)
  (g id n : Int) (hno : tyErr L id n ≠ 0 ∨ g < 0 ∨ ((W.length / 2 : Nat) : Int) ≤ g) (hn : 3 ≤ nn) :
  CallsIn Fence.wide nn Tryz.prog 16 #[.pointer (some ⟨sb, 0, none⟩), .int .i64 g, .int .i64 id, .int .i64 n] w fun e w' => e = .returned (.int .i64 (if tyErr L id n ≠ 0 then tyErr L id n else 2)) ∧ Below w.heap.size w w' := by
 have h1 : 1 ≤ nn := by omega
 have h3 : Fence.wide.fn 16 := trivial
 have h6 : Fence.wide.fn 64 := trivial
 have h8 : Fence.wide.fn 13 := trivial
 have hro : Fence.wide.round = none := rfl
 have hszH := sz_head
 have Hof := uh (fun w' (hB : Below w.heap.size w w') => hof w' L hTy hL tb tao tcap (hA.below hB).tab id n)
 obtain ⟨x0, x1, x2, x3, hx, hox⟩ : ∃ x0 x1 x2 x3 : Value, ofCells L id n = [x0, x1, x2, x3] ∧ (#[x0, x1, x2, x3] : Array Value).all (·.oneCell') = true := by
  unfold ofCells
  split
  · exact ⟨_, _, _, _, rfl, all_one (cs := [.int .u8 1, .int .i64 id, .int .i64 n, .int .i64 (tySize L id n : Nat)]) (by simp [Value.oneCell'])⟩
  · exact ⟨_, _, _, _, rfl, hd0_one⟩
 rw [hx] at Hof
 have Hgr := uh (fun w' (hB : Below w.heap.size w w') => sgran w' (hA.below hB).c0 (hA.below hB).ar hf)
 have T0 := (((((Turn.refl (Has.nil w)).alloc (.cells #[.pointer (some ⟨sb, 0, none⟩)] 26)).alloc (.cells #[.int .i64 g] 3)).alloc (.cells #[.int .i64 id] 3)).alloc (.cells #[.int .i64 n] 3)).alloc (.cells #[.int .i64 0] 33)
 simp only [World.size_alloc] at T0
 have HT0 : Hid (Turn [] w (putBz w.heap.size sb g id n (.int .i64 0)) (((((w.alloc (.cells #[.pointer (some ⟨sb, 0, none⟩)] 26)).alloc (.cells #[.int .i64 g] 3)).alloc (.cells #[.int .i64 id] 3)).alloc (.cells #[.int .i64 n] 3)).alloc (.cells #[.int .i64 0] 33))) := uh T0
 have hq0 : ∀ w' (Y : List Blk), Turn [] w (Y ++ putBz w.heap.size sb g id n (.int .i64 0)) w' → w'.cell? ⟨w.heap.size, 0, none⟩ = some (.pointer (some ⟨sb, 0, none⟩)) := fun w' Y V => V.has.cell (b := w.heap.size) (c := #[.pointer (some ⟨sb, 0, none⟩)]) (e := 26) (f := (0, 0)) (by simp [putBz]) 0
 have hq := hq0 _ [] HT0.out
 have HS := uh (fun w' (Y : List Blk) (V : Turn [] w (Y ++ putBz w.heap.size sb g id n (.int .i64 0)) w') => (⟨hq0 w' Y V, (hA.below V.below).c1,
    V.has.cell (b := w.heap.size + 1 + 1) (c := #[.int .i64 id]) (e := 3) (f := (0, 0)) (by simp [putBz]) 0, V.has.cell (b := w.heap.size + 1 + 1 + 1) (c := #[.int .i64 n]) (e := 3) (f := (0, 0)) (by simp [putBz]) 0⟩ :
    w'.cell? ⟨w.heap.size, 0, none⟩ = some (.pointer (some ⟨sb, 0, none⟩)) ∧ w'.cell? ⟨sb, 1, none⟩ = some (.pointer (some ⟨tb, 0, none⟩)) ∧ w'.cell? ⟨w.heap.size + 1 + 1, 0, none⟩ = some (.int .i64 id) ∧ w'.cell? ⟨w.heap.size + 1 + 1 + 1, 0, none⟩ = some (.int .i64 n)))
 have HS6 := uh (fun w' (Y : List Blk) (V : Turn [] w (Y ++ putBz w.heap.size sb g id n (.int .i64 0)) w') => (⟨hq0 w' Y V, V.has.cell (b := w.heap.size + 1) (c := #[.int .i64 g]) (e := 3) (f := (0, 0)) (by simp [putBz]) 0⟩ :
    w'.cell? ⟨w.heap.size, 0, none⟩ = some (.pointer (some ⟨sb, 0, none⟩)) ∧ w'.cell? ⟨w.heap.size + 1, 0, none⟩ = some (.int .i64 g)))
 have HR := uh (fun w' (b9 : Nat) (er : Int) (V : Turn [] w ([(b9, .cells #[x0, x1, x2, x3] 79)] ++ putBz w.heap.size sb g id n (.int .i64 0)) w') => by
  have V' := V.perm (l2 := (w.heap.size + 1 + 1 + 1 + 1, .cells #[.int .i64 0] 33) :: (b9, .cells #[x0, x1, x2, x3] 79) :: (w.heap.size + 1 + 1 + 1, .cells #[.int .i64 n] 3) :: (w.heap.size + 1 + 1, .cells #[.int .i64 id] 3) :: (w.heap.size + 1, .cells #[.int .i64 g] 3) :: [(w.heap.size, .cells #[.pointer (some ⟨sb, 0, none⟩)] 26)]) (perm_of fun c => by simp [putBz]; omega)
  have V2 := V'.setCell 0 (.int .i64 er)
  exact (⟨V'.cell1 0, V'.free1 0, V2.cell1 0, V2.below⟩ : w'.cell? ⟨w.heap.size + 1 + 1 + 1 + 1, 0, none⟩ = some (.int .i64 0) ∧ w'.frozen? ⟨w.heap.size + 1 + 1 + 1 + 1, 0, none⟩ = false ∧ (w'.setCell ⟨w.heap.size + 1 + 1 + 1 + 1, 0, none⟩ (.int .i64 er)).cell? ⟨w.heap.size + 1 + 1 + 1 + 1, 0, none⟩ = some (.int .i64 er) ∧ Below w.heap.size w (w'.setCell ⟨w.heap.size + 1 + 1 + 1 + 1, 0, none⟩ (.int .i64 er))))
 have hzb : W.length / 2 ≤ 32768 := by omega
 obtain ⟨z, hz⟩ : ∃ z : Nat, W.length / 2 = z := ⟨_, rfl⟩
 rw [hz] at Hgr hno hzb
 generalize tyErr L id n = er at *
 obtain ⟨res, hres⟩ : ∃ res : Int, (if er ≠ 0 then er else 2) = res := ⟨_, rfl⟩
 rw [hres]
 have Hres := uh hres
 clear hres
 clear T0 hA hz hq0 hx
 refine callsIn_of_wp Tryz.func16 rfl h3 ?_ hro
 simp only [Tryz.ntmps16, List.size_toArray, List.length_cons, List.length_nil, Nat.reduceAdd, Nat.reduceSub, Array.replicate_succ, Array.replicate_zero, List.push_toArray, List.append_toArray, List.nil_append, List.cons_append]
 gi_wp2_with fail
 have HT1 := uh HT0.out.drew
 generalize ((((w.alloc (.cells #[.pointer (some ⟨sb, 0, none⟩)] 26)).alloc (.cells #[.int .i64 g] 3)).alloc (.cells #[.int .i64 id] 3)).alloc (.cells #[.int .i64 n] 3)).alloc (.cells #[.int .i64 0] 33) = W1 at *
 clear HT0 hq
 apply wpIn_mid1 (I := fun b9 w' => Turn [] w ((b9, .cells #[x0, x1, x2, x3] 79) :: putBz w.heap.size sb g id n (.int .i64 0)) w')
 case h =>
  have T1 := HT1.out
  have hS1 := HS.out _ [] T1
  refine wpIn_region_noPanic ?_
  refine wpIn_region_listedHI (S := fun W' => W'.cell? ⟨w.heap.size, 0, none⟩ = some (.pointer (some ⟨sb, 0, none⟩)) ∧ W'.cell? ⟨sb, 1, none⟩ = some (.pointer (some ⟨tb, 0, none⟩)) ∧ W'.cell? ⟨w.heap.size + 1 + 1, 0, none⟩ = some (.int .i64 id) ∧ W'.cell? ⟨w.heap.size + 1 + 1 + 1, 0, none⟩ = some (.int .i64 n)) 13 [false, false, false, false, false, false, false, false, false, false, false, false, false] rfl rfl (by kernel_rfl) ?_
  refine takeGI 0 17 hro rfl rfl (by rfl) (by kernel_rfl) (by kernel_rfl) (by kernel_rfl) (fun _ _ _ _ h => h) hS1 (fun _ => rfl) (by (intro w hSw; have hc := hSw.1; clear hSw; go_simp; try rfl)) ?_
  simp only [st1, st2]
  refine takeGI 1 18 hro rfl rfl (by rfl) (by kernel_rfl) (by kernel_rfl) (by kernel_rfl) (fun _ _ _ _ h => h) hS1 (fun _ => rfl) (by (intro w hSw; clear hSw; go_simp; try rfl)) ?_
  simp only [st1, st2]
  refine takeGI 2 19 hro rfl rfl (by rfl) (by kernel_rfl) (by kernel_rfl) (by kernel_rfl) (fun _ _ _ _ h => h) hS1 (fun _ => rfl) (by (intro w hSw; clear hSw; go_simp; try rfl)) ?_
  simp only [st1, st2]
  refine takeGI 3 20 hro rfl rfl (by rfl) (by kernel_rfl) (by kernel_rfl) (by kernel_rfl) (fun _ _ _ _ h => h) hS1 (fun _ => rfl) (by (intro w hSw; have hc := hSw.2.1; clear hSw; go_simp; try rfl)) ?_
  simp only [st1, st2]
  refine takeGI 4 21 hro rfl rfl (by rfl) (by kernel_rfl) (by kernel_rfl) (by kernel_rfl) (fun _ _ _ _ h => h) hS1 (fun _ => rfl) (by (intro w hSw; have hc := hSw.2.2.1; clear hSw; go_simp; try rfl)) ?_
  simp only [st1, st2]
  refine takeGI 5 22 hro rfl rfl (by rfl) (by kernel_rfl) (by kernel_rfl) (by kernel_rfl) (fun _ _ _ _ h => h) hS1 (fun _ => rfl) (by (intro w hSw; have hc := hSw.2.2.2; clear hSw; go_simp; try rfl)) ?_
  simp only [st1, st2]
  clear hS1
  generalize W1.drew = V0 at T1 ⊢
  refine wpAnyHI_two (i := 6) (j := 10) (by kernel_rfl) rfl rfl (fun K hK => ?_) (fun K hK => ?_)
  · go_simp
    refine (callsIn_wide.2 (Hof.out _ T1.below)).mono ?_
    rintro e V1 ⟨rfl, hB⟩
    have T2 := T1.call hB
    have hS2 := HS.out _ [] T2
    refine hK.out _ _ hS2 ?_
    clear hK K
    simp only [st0, st1, st2]
    refine takeGI 7 16 hro rfl rfl (by rfl) (by kernel_rfl) (by kernel_rfl) (by kernel_rfl) (fun _ _ _ _ h => h) hS2 (fun _ => rfl) (by (intro w hSw; clear hSw; go_simp; try rfl)) ?_
    simp only [st1, st2]
    refine takeGI 8 24 hro rfl rfl (by rfl) (by kernel_rfl) (by kernel_rfl) (by kernel_rfl) (fun _ _ _ _ h => h) hS2 (fun _ => rfl) (by (intro w hSw; clear hSw; go_simp; try rfl)) ?_
    simp only [st1, st2]
    refine takeGI 9 25 hro rfl rfl (by rfl) (by kernel_rfl) (by kernel_rfl) (by kernel_rfl) (fun _ _ _ _ h => h) hS2 (fun _ => rfl) (by (intro w hSw; clear hSw; go_simp; try rfl)) ?_
    simp only [st1, st2]
    refine wpAnyHI_call (i := 10) (by kernel_rfl) rfl (fun K hK => ?_)
    go_simp
    have T3 : Turn [] w ([(V1.heap.size, .cells #[.int .u8 0, .int .i64 0, .int .i64 0, .int .i64 0] 79)] ++ putBz w.heap.size sb g id n (.int .i64 0)) (V1.alloc (.cells #[.int .u8 0, .int .i64 0, .int .i64 0, .int .i64 0] 79)) := T2.alloc (.cells #[.int .u8 0, .int .i64 0, .int .i64 0, .int .i64 0] 79)
    have hS3 := HS.out _ _ T3
    refine hK.out _ _ hS3 ?_
    clear hK K
    simp only [st0, st1, st2]
    clear hS3 hS2 T2
    generalize V1.alloc (.cells #[.int .u8 0, .int .i64 0, .int .i64 0, .int .i64 0] 79) = V3 at *
    generalize V1.heap.size = b9 at *
    have hth := T3.there1
    have U := T3.laid [x0, x1, x2, x3] rfl
    refine wpAnyHI_call (i := 11) (by kernel_rfl) rfl (fun K hK => ?_)
    refine stepIn_store rfl rfl 79 _ _ rfl _ 0 #[x0, x1, x2, x3] rfl rfl hth hszH hox (follows_wide _ _) ?_
    have hS4 := HS.out _ [_] U
    refine hK.out _ _ hS4 ?_
    clear hK K
    simp only [st0, st1, st2]
    refine takeGI 12 10 hro rfl rfl (by rfl) (by kernel_rfl) (by kernel_rfl) (by kernel_rfl) (fun _ _ _ _ h => h) hS4 (fun _ => rfl) (by (intro w hSw; clear hSw; go_simp; try rfl)) ?_
    simp only [st1, st2]
    refine wpAnyHI_done (by kernel_rfl) ?_ _
    refine NoPanic.normal ?_
    exact ⟨rfl, b9, rfl, U⟩
  · go_simp
    have T2 : Turn [] w ([(V0.heap.size, .cells #[.int .u8 0, .int .i64 0, .int .i64 0, .int .i64 0] 79)] ++ putBz w.heap.size sb g id n (.int .i64 0)) (V0.alloc (.cells #[.int .u8 0, .int .i64 0, .int .i64 0, .int .i64 0] 79)) := T1.alloc (.cells #[.int .u8 0, .int .i64 0, .int .i64 0, .int .i64 0] 79)
    have hS2 := HS.out _ _ T2
    refine hK.out _ _ hS2 ?_
    clear hK K
    simp only [st0, st1, st2]
    clear hS2
    generalize V0.alloc (.cells #[.int .u8 0, .int .i64 0, .int .i64 0, .int .i64 0] 79) = V2 at T2 ⊢
    generalize V0.heap.size = b9 at T2 ⊢
    refine wpAnyHI_call (i := 6) (by kernel_rfl) rfl (fun K hK => ?_)
    go_simp
    refine (callsIn_wide.2 (Hof.out _ T2.below)).mono ?_
    rintro e V3 ⟨rfl, hB⟩
    have T3 := T2.call hB
    have hS3 := HS.out _ [_] T3
    refine hK.out _ _ hS3 ?_
    clear hK K
    simp only [st0, st1, st2]
    refine takeGI 7 16 hro rfl rfl (by rfl) (by kernel_rfl) (by kernel_rfl) (by kernel_rfl) (fun _ _ _ _ h => h) hS3 (fun _ => rfl) (by (intro w hSw; clear hSw; go_simp; try rfl)) ?_
    simp only [st1, st2]
    refine takeGI 8 24 hro rfl rfl (by rfl) (by kernel_rfl) (by kernel_rfl) (by kernel_rfl) (fun _ _ _ _ h => h) hS3 (fun _ => rfl) (by (intro w hSw; clear hSw; go_simp; try rfl)) ?_
    simp only [st1, st2]
    refine takeGI 9 25 hro rfl rfl (by rfl) (by kernel_rfl) (by kernel_rfl) (by kernel_rfl) (fun _ _ _ _ h => h) hS3 (fun _ => rfl) (by (intro w hSw; clear hSw; go_simp; try rfl)) ?_
    simp only [st1, st2]
    clear hS3
    have hth := T3.there1
    have U := T3.laid [x0, x1, x2, x3] rfl
    refine wpAnyHI_call (i := 11) (by kernel_rfl) rfl (fun K hK => ?_)
    refine stepIn_store rfl rfl 79 _ _ rfl _ 0 #[x0, x1, x2, x3] rfl rfl hth hszH hox (follows_wide _ _) ?_
    have hS4 := HS.out _ [_] U
    refine hK.out _ _ hS4 ?_
    clear hK K
    simp only [st0, st1, st2]
    refine takeGI 12 10 hro rfl rfl (by rfl) (by kernel_rfl) (by kernel_rfl) (by kernel_rfl) (fun _ _ _ _ h => h) hS4 (fun _ => rfl) (by (intro w hSw; clear hSw; go_simp; try rfl)) ?_
    simp only [st1, st2]
    refine wpAnyHI_done (by kernel_rfl) ?_ _
    refine NoPanic.normal ?_
    exact ⟨rfl, b9, rfl, U⟩
 case hq =>
  intro b9 w6 T5
  have HT5 : Hid (Turn [] w ([(b9, .cells #[x0, x1, x2, x3] 79)] ++ putBz w.heap.size sb g id n (.int .i64 0)) w6) := uh T5
  have T6 : Turn [] w ([(b9, .cells #[x0, x1, x2, x3] 79)] ++ putBz w.heap.size sb g id n (.int .i64 0)) w6.drew := T5.drew
  have hS6 := HS6.out _ _ T6
  clear T5
  by_cases he : er = 0
  · subst he
    have Hr2 := uh (show res = 2 by have := Hres.out; simpa using this.symm)
    obtain ⟨c8, f8, r8, b8⟩ := HR.out _ b9 2 HT5.out
    have hno' : g < 0 ∨ (z : Int) ≤ g := hno.resolve_left (by simp)
    clear hno
    by_cases hg : g < 0
    · have k0 : decide (g < 0) = true := decide_eq_true hg
      clear hno'
      gi_wp2_with fail
      refine wpIn_region_noPanic ?_
      refine wpIn_region_listedHI (S := fun W' => W'.cell? ⟨w.heap.size, 0, none⟩ = some (.pointer (some ⟨sb, 0, none⟩)) ∧ W'.cell? ⟨w.heap.size + 1, 0, none⟩ = some (.int .i64 g)) 8 [false, false, false, false, false, false, false, false] rfl rfl (by kernel_rfl) ?_
      refine takeGI 0 29 hro rfl rfl (by rfl) (by kernel_rfl) (by kernel_rfl) (by kernel_rfl) (fun _ _ _ _ h => h) hS6 (fun _ => rfl) (by (intro w hSw; have hc := hSw.2; clear hSw; go_simp; try rfl)) ?_
      simp only [st1, st2]
      refine takeGI 1 30 hro rfl rfl (by rfl) (by kernel_rfl) (by kernel_rfl) (by kernel_rfl) (fun _ _ _ _ h => h) hS6 (fun _ => rfl) (by (intro w hSw; clear hSw; go_simp; try rfl)) ?_
      simp only [st1, st2]
      refine takeGI 2 31 hro rfl rfl (by rfl) (by kernel_rfl) (by kernel_rfl) (by kernel_rfl) (fun _ _ _ _ h => h) hS6 (fun _ => rfl) (by (intro w hSw; clear hSw; go_simp; try rfl)) ?_
      simp only [st1, st2]
      refine takeSI 3 32 hro rfl rfl (by rfl) (by kernel_rfl) (by kernel_rfl) (by kernel_rfl) (fun _ _ _ _ h => h) hS6 (fun _ => rfl) ?_
      simp only [st1, st2]
      refine takeSI 4 33 hro rfl rfl (by rfl) (by kernel_rfl) (by kernel_rfl) (by kernel_rfl) (fun _ _ _ _ h => h) hS6 (fun _ => rfl) ?_
      simp only [st1, st2]
      refine wpAnyHI_call (i := 5) (by kernel_rfl) rfl (fun K hK => ?_)
      go_simp
      refine hK.out _ _ hS6 ?_
      clear hK K
      simp only [st0, st1, st2]
      refine takeSI 6 35 hro rfl rfl (by rfl) (by kernel_rfl) (by kernel_rfl) (by kernel_rfl) (fun _ _ _ _ h => h) hS6 (fun _ => rfl) ?_
      simp only [st1, st2]
      refine takeGI 7 36 hro rfl rfl (by rfl) (by kernel_rfl) (by kernel_rfl) (by kernel_rfl) (fun _ _ _ _ h => h) hS6 (fun _ => rfl) (by (intro w hSw; clear hSw; go_simp; try rfl)) ?_
      simp only [st1, st2]
      refine wpAnyHI_done (by kernel_rfl) ?_ _
      refine NoPanic.normal ?_
      clear hS6 HS HS6
      gi_wp2_with fail
      refine bodyPost_ret (v := .int .i64 2) ?_ rfl ?_
      · simp [results, Tryz.results16, go_sem, r8]
      · exact ⟨by rw [Hr2.out], b8.drew⟩
    · have k0 : decide (g < 0) = false := decide_eq_false hg
      have k1 : decide ((z : Int) ≤ g) = true := decide_eq_true (hno'.resolve_left hg)
      clear hno'
      gi_wp2_with fail
      refine wpIn_region_noPanic ?_
      refine wpIn_region_listedHI (S := fun W' => W'.cell? ⟨w.heap.size, 0, none⟩ = some (.pointer (some ⟨sb, 0, none⟩)) ∧ W'.cell? ⟨w.heap.size + 1, 0, none⟩ = some (.int .i64 g)) 8 [false, false, false, false, false, false, false, false] rfl rfl (by kernel_rfl) ?_
      refine takeGI 0 29 hro rfl rfl (by rfl) (by kernel_rfl) (by kernel_rfl) (by kernel_rfl) (fun _ _ _ _ h => h) hS6 (fun _ => rfl) (by (intro w hSw; have hc := hSw.2; clear hSw; go_simp; try rfl)) ?_
      simp only [st1, st2]
      refine takeGI 1 30 hro rfl rfl (by rfl) (by kernel_rfl) (by kernel_rfl) (by kernel_rfl) (fun _ _ _ _ h => h) hS6 (fun _ => rfl) (by (intro w hSw; clear hSw; go_simp; try rfl)) ?_
      simp only [st1, st2]
      refine takeGI 2 31 hro rfl rfl (by rfl) (by kernel_rfl) (by kernel_rfl) (by kernel_rfl) (fun _ _ _ _ h => h) hS6 (fun _ => rfl) (by (intro w hSw; clear hSw; go_simp; try rfl)) ?_
      simp only [st1, st2]
      refine takeGI 3 32 hro rfl rfl (by rfl) (by kernel_rfl) (by kernel_rfl) (by kernel_rfl) (fun _ _ _ _ h => h) hS6 (fun _ => rfl) (by (intro w hSw; have hc := hSw.2; clear hSw; go_simp; try rfl)) ?_
      simp only [st1, st2]
      refine takeGI 4 33 hro rfl rfl (by rfl) (by kernel_rfl) (by kernel_rfl) (by kernel_rfl) (fun _ _ _ _ h => h) hS6 (fun _ => rfl) (by (intro w hSw; have hc := hSw.1; clear hSw; go_simp; try rfl)) ?_
      simp only [st1, st2]
      refine wpAnyHI_call (i := 5) (by kernel_rfl) rfl (fun K hK => ?_)
      go_simp
      refine (callsIn_wide.2 (Hgr.out _ T6.below)).mono ?_
      rintro e V6 ⟨rfl, hw6⟩
      rw [hw6]
      clear hw6 V6
      refine hK.out _ _ hS6 ?_
      clear hK K
      simp only [st0, st1, st2]
      refine takeGI 6 35 hro rfl rfl (by rfl) (by kernel_rfl) (by kernel_rfl) (by kernel_rfl) (fun _ _ _ _ h => h) hS6 (fun _ => rfl) (by (intro w hSw; clear hSw; go_simp; try rfl)) ?_
      simp only [st1, st2]
      refine takeGI 7 36 hro rfl rfl (by rfl) (by kernel_rfl) (by kernel_rfl) (by kernel_rfl) (fun _ _ _ _ h => h) hS6 (fun _ => rfl) (by (intro w hSw; clear hSw; go_simp; try rfl)) ?_
      simp only [st1, st2]
      refine wpAnyHI_done (by kernel_rfl) ?_ _
      refine NoPanic.normal ?_
      clear hS6 HS HS6
      gi_wp2_with fail
      refine bodyPost_ret (v := .int .i64 2) ?_ rfl ?_
      · simp [results, Tryz.results16, go_sem, r8]
      · exact ⟨by rw [Hr2.out], b8.drew⟩
  · have Hr2 := uh (show res = er by have := Hres.out; rw [if_pos he] at this; exact this.symm)
    have ke : (er != 0) = true := by rw [bne_iff_ne]; exact he
    obtain ⟨c8, f8, r8, b8⟩ := HR.out _ b9 er HT5.out
    clear hno hS6 T6 HS HS6
    gi_wp2_with fail
    refine bodyPost_ret (v := .int .i64 er) ?_ rfl ?_
    · simp [results, Tryz.results16, go_sem, r8]
    · exact ⟨by rw [Hr2.out], b8⟩
end
section
open Go Go.RowKit Go.Shelf Go.IntWalk
def endsOf (os : List Ce) : List Nat := 0 :: os.map fun c => c.1 + c.2.size
theorem endsOf_next {os : List Ce} {i : Nat} {c : Ce} (h : os[i]? = some c) : endsOf (os.take (i + 1)) = endsOf (os.take i) ++ [c.1 + c.2.size] := by rw [take_next h]; simp [endsOf]
theorem endOf_get : ∀ (os : List Ce) (e i : Nat), i ≤ os.length → (e :: os.map fun c => c.1 + c.2.size)[i]? = some (endOf e (os.take i))
 | _, e, 0, _ => rfl
 | c :: os, e, i + 1, h => by
  rw [List.getElem?_cons_succ, List.map_cons, List.take_succ_cons]
  exact endOf_get os _ i (by simpa using h)
 | [], _, i + 1, h => by simp at h
theorem endsOf_get (os : List Ce) {i : Nat} (h : i ≤ os.length) : (nats (endsOf os))[i]? = some (.int .i64 (endOf 0 (os.take i) : Nat)) := by
 have := endOf_get os 0 i h
 unfold nats endsOf
 rw [List.getElem?_map, this]
 rfl
theorem endsOf_take_get (os : List Ce) {i : Nat} (h : i ≤ os.length) : (nats (endsOf (os.take i)))[i]? = some (.int .i64 (endOf 0 (os.take i) : Nat)) := by
 have := endsOf_get (os.take i) (i := i) (by simp; omega)
 rw [List.take_take, Nat.min_self] at this
 exact this
def bitsOf (B : List Nat) (z : Nat) (os : List Ce) : Prop := ∀ i, i < z → (bitAt B i = true ↔ ∃ c ∈ os, c.1 = i)
theorem bitsOf.clr {B B' : List Nat} {z : Nat} (h : ClrIn B B' 0 z) : bitsOf B' z [] := fun i hi => by
 rw [h.2.2 i]
 have : (decide (0 ≤ i) && decide (i < 0 + z)) = true := by simp; omega
 rw [this]
 simp
theorem bitsOf.set {B B' : List Nat} {z : Nat} {os : List Ce} {c : Ce} (hb : bitsOf B z os) (h : SetIn B B' c.1 1) : bitsOf B' z (os ++ [c]) := fun i hi => by
 rw [h.2.2 i, Bool.or_eq_true, hb i hi, Bool.and_eq_true, decide_eq_true_eq, decide_eq_true_eq]
 constructor
 · rintro (⟨d, hd, he⟩ | h1)
   · exact ⟨d, List.mem_append_left _ hd, he⟩
   · exact ⟨c, by simp, by omega⟩
 · rintro ⟨d, hd, he⟩
   rcases List.mem_append.1 hd with hd | hd
   · exact .inl ⟨d, hd, he⟩
   · rw [List.mem_singleton.1 hd] at he
     exact .inr (by omega)
end
section
open Go Go.RowKit Go.Shelf Go.IntWalk
set_option maxRecDepth 100000 in
set_option maxHeartbeats 3200000 in
theorem ssettle {w0 : World} (w : World) (sb a aw tb bb : Nat) {W B : List Nat} {lb R : List Blk} {cw : Int} (tao : Option Addr) (tcap : Nat) (L : List Ty) (hB : BitIs bb B (W.length / 2) lb) (hBu : u64ok B) (hBl : (W.length / 2 + 63) / 64 ≤ B.length)
  (T : Turn [] w0 (arBlks a aw W cw ++ (spBlk sb a tb bb :: lb) ++ R) w) (hTab : TabAt w0 tb tao tcap L) (hF0 : Fields w0) (hf : W.length ≤ 65536) (hu : ∀ v ∈ W, v < 18446744073709551616) (hTy : ∀ t ∈ L, TyIn t) (hL : L.length ≤ 1000)
  (os : List Ce) (hr : rises L W 0 os) (aa : Option Addr) (acap : Nat) (hAt : ∀ (w' : World) (X : List Blk), Turn [] w0 (X ++ R) w' → Src w' aa os.length acap 1 (ints (cesAt os))) :
  Calls Tryz.prog 138 #[.pointer (some ⟨sb, 0, none⟩), .slice aa os.length acap] w fun e w' => e = .returned (.int .i64 0) ∧ ∃ (B' : List Nat) (lb' : List Blk) (cw' : Int), B'.length = B.length ∧ u64ok B' ∧ bitsOf B' (W.length / 2) os ∧ BitIs bb B' (W.length / 2) lb' ∧
   Turn [] w0 (arBlks a aw (settleW (W.length / 2) W os 0) cw' ++ (spBlk sb a tb bb :: lb') ++ R) w' := by
 have hl0 := rises_len hr (Nat.zero_le _)
 have hzb : W.length / 2 ≤ 32768 := by omega
 have Hsp := uh (fun w' (W' : List Nat) (c' : Int) (Y : List Blk) (hl : W'.length ≤ 65536) (V : Turn [] w0 (arBlks a aw W' c' ++ (spBlk sb a tb bb :: Y)) w') =>
  (⟨V.has.cell (b := sb) (c := #[.pointer (some ⟨a, 0, none⟩), .pointer (some ⟨tb, 0, none⟩), .pointer (some ⟨bb, 0, none⟩)]) (e := 146) (f := (0, 0)) (by simp [spBlk]) 0, V.has.cell (b := sb) (c := #[.pointer (some ⟨a, 0, none⟩), .pointer (some ⟨tb, 0, none⟩), .pointer (some ⟨bb, 0, none⟩)]) (e := 146) (f := (0, 0)) (by simp [spBlk]) 1, arBlks_at V.has hl, hTab.below V.below, range_below hF0 V.below⟩ : SpAt w' sb a aw tb W' tao tcap L))
 have Hs2 := uh (fun w' (Y : List Blk) (V : Turn [] w0 (spBlk sb a tb bb :: Y) w') => (V.cell1 2 : w'.cell? ⟨sb, 2, none⟩ = some (.pointer (some ⟨bb, 0, none⟩))))
 have Hof := uh (fun w' (A : SpAt w' sb a aw tb W tao tcap L) (g : Int) => sof w' A.fields A.ar hu L hTy hL tb tao tcap A.tab g)
 have Hr := uh (fun i c => rises_at hr (i := i) (c := c))
 have Hle := uh (endOf_take_le hr)
 have HA := uh (fun (h : 0 < os.length) w' X (V : Turn [] w0 (X ++ R) w') => (hAt w' X V).form (by rw [ints_len, cesAt_len]; exact h))
 have HAg := uh (fun w' X (V : Turn [] w0 (X ++ R) w') => hAt w' X V)
 have hone : ∀ v : Nat, ∀ u ∈ ([.int .i64 v] : List Value), u.oneCell' = true := by intro v u hu; simp at hu; subst hu; rfl
 have HB := uh hB
 have HT := uh (T.perm (l2 := arBlks a aw W cw ++ (spBlk sb a tb bb :: (lb ++ R))) (perm_of fun c => by simp <;> omega))
 have hrow0 : Row 3 1 (some ⟨w.heap.size, 0, none⟩) 1 1 (nats (endsOf (os.take 0))) [(w.heap.size, .cells #[.int .i64 0] 3)] := ⟨rfl, Nat.le_refl _, by decide, .inr ⟨_, _, rfl, rfl, by decide, rfl⟩⟩
 have HR0 := uh hrow0
 have HT0 := uh (HT.out.alloc (.cells #[.int .i64 0] 3))
 have HF0 := uh hF0
 clear T hB hTab hF0 hAt hrow0
 go_enter Tryz.func138, Tryz.ntmps138
 go_wp2_with fail
 go_loopw [5, 18] (fun v5 v18 wr => ∃ (i : Nat) (b5 p5 : Nat) (lr5 : List Blk), i ≤ os.length ∧ v18 = .int .i64 i ∧ v5 = .slice (some ⟨b5, 0, none⟩) (i + 1) p5 ∧ Row 3 1 (some ⟨b5, 0, none⟩) (i + 1) p5 (nats (endsOf (os.take i))) lr5 ∧ Turn [] w0 (lr5 ++ (arBlks a aw W cw ++ (spBlk sb a tb bb :: (lb ++ R)))) wr) (fun _ v18 _ => os.length - (intOf v18).toNat)
 case atStart => exact ⟨0, w.heap.size, 1, _, Nat.zero_le _, by go_num, by go_num, HR0.out, HT0.out⟩
 case round =>
  clear HT0 HR0
  obtain ⟨i, b5, p5, lr5, hi, rfl, rfl, hr5, T⟩ := hrel
  by_cases hlt : i < os.length
  · have hlt' : (i : Int) < (os.length : Int) := by omega
    obtain ⟨c, hc⟩ : ∃ c, os[i]? = some c := ⟨os[i], List.getElem?_eq_getElem hlt⟩
    obtain ⟨hce, hst, hct⟩ := Hr.out i c hc
    have hoq := objq_of hst hct
    have hroom := hst.2.2
    have hexT := T.perm (l2 := (lr5 ++ (arBlks a aw W cw ++ (spBlk sb a tb bb :: lb))) ++ R) (perm_of fun c => by simp <;> omega)
    obtain ⟨ab, aoff, rfl, hat0⟩ := HA.out (by omega) wr _ hexT
    have hat := hat0 i _ (ints_get (cesAt_get hc))
    have T7 := T.perm (l2 := arBlks a aw W cw ++ (spBlk sb a tb bb :: (lr5 ++ (lb ++ R)))) (perm_of fun c => by simp <;> omega)
    have Hen := uh (endsOf_next hc)
    have hcur := (hr5.src (R := arBlks a aw W cw ++ (spBlk sb a tb bb :: (lb ++ R))) T.has)
    have HSp := uh (fun w' Y (V : Turn [] w0 (arBlks a aw W cw ++ (spBlk sb a tb bb :: Y)) w') => Hsp.out w' W cw Y hf V)
    have Hcall := uh (fun w' Y (V : Turn [] w0 (arBlks a aw W cw ++ (spBlk sb a tb bb :: Y)) w') => by
     have h := Hof.out w' (HSp.out w' Y V) c.1
     rw [hoq] at h
     exact h)
    simp only at Hcall
    have hlast := endsOf_take_get os (i := i) (by omega)
    generalize hen : endOf 0 (os.take i) = en at *
    have k1 : decide ((c.1 : Int) < (en : Int)) = false := decide_eq_false (by omega)
    have k2 : decide (c.1 < en) = false := decide_eq_false (by omega)
    have HT7 := uh T7.drew
    have Hr5 := uh hr5
    have Hlast := uh hlast
    clear hexT hat0 T T7 hcur hr5 hlast hst hoq hen HB
    go_wp2_with fail
    refine wp_abs (fun W' => Turn [] w0 (arBlks a aw W cw ++ (spBlk sb a tb bb :: (lr5 ++ (lb ++ R)))) W'.drew) HT7.out fun W1 T1 => ?_
    have hS1 := (⟨(HSp.out _ _ T1).c0, (HSp.out _ _ T1).c1⟩ : W1.drew.cell? ⟨sb, 0, none⟩ = some (.pointer (some ⟨a, 0, none⟩)) ∧ W1.drew.cell? ⟨sb, 1, none⟩ = some (.pointer (some ⟨tb, 0, none⟩)))
    have HT1 := uh T1
    clear T1 HT7 hat
    refine wp_region_noPanic ?_
    refine wp_region_listed (S := fun W' => W'.cell? ⟨sb, 0, none⟩ = some (.pointer (some ⟨a, 0, none⟩)) ∧ W'.cell? ⟨sb, 1, none⟩ = some (.pointer (some ⟨tb, 0, none⟩))) 15 [false, false, false, false, false, false, false, false, false, false, false, false, false, false, false] rfl rfl (by kernel_rfl) ?_
    refine tkA 0 23 hS1 ?_
    refine tkA 1 24 hS1 ?_
    refine tkA 2 25 hS1 ?_
    refine tkB 3 26 hS1 (fun w hSw => hSw.1) ?_
    refine tkA 4 27 hS1 ?_
    refine tkA 5 28 hS1 ?_
    refine tkA 6 29 hS1 ?_
    refine tkB 7 30 hS1 (fun w hSw => hSw.2) ?_
    refine tkA 8 31 hS1 ?_
    refine rdyA 9 (fun K hK => ?_)
    go_simp
    refine (Hcall.out _ _ HT1.out).mono ?_
    rintro e w2 ⟨vb, rfl, T2⟩
    have T3 := HT1.out.grow T2
    have T4 := T3.perm (l2 := arBlks a aw W cw ++ (spBlk sb a tb bb :: ((vb, .cells (viewCells a c.1 c.2 (tyAt L c.2.typ)).toArray 238) :: (lr5 ++ (lb ++ R))))) (perm_of fun c => by simp <;> omega)
    have hS2 := (⟨(HSp.out _ _ T4).c0, (HSp.out _ _ T4).c1⟩ : w2.cell? ⟨sb, 0, none⟩ = some (.pointer (some ⟨a, 0, none⟩)) ∧ w2.cell? ⟨sb, 1, none⟩ = some (.pointer (some ⟨tb, 0, none⟩)))
    have HT3 := uh (T3.perm (l2 := lr5 ++ ((vb, .cells (viewCells a c.1 c.2 (tyAt L c.2.typ)).toArray 238) :: (arBlks a aw W cw ++ (spBlk sb a tb bb :: (lb ++ R))))) (perm_of fun c => by simp <;> omega))
    have hv : VwAt w2 vb a c.1 c.2 (tyAt L c.2.typ) := (T3.has.range (List.mem_cons_self ..))
    have HV := uh hv
    clear T2 T3 T4 hS1 HT1 hv Hcall
    refine hK.out _ _ hS2 fun _ => ?_
    clear hK K
    simp only [st0, st1, st2]
    refine tkA 10 22 hS2 ?_
    refine tkA 11 33 hS2 ?_
    refine tkA 12 34 hS2 ?_
    refine tkA 13 8 hS2 ?_
    refine tkA 14 9 hS2 ?_
    refine wpAnyH_done (by kernel_rfl) ?_ _
    refine NoPanic.normal ?_
    clear hS2
    have q5 : w2.cell? ⟨b5, i, none⟩ = some (.int .i64 en) := by
     have h := (Hr5.out.src (R := (vb, .cells (viewCells a c.1 c.2 (tyAt L c.2.typ)).toArray 238) :: (arBlks a aw W cw ++ (spBlk sb a tb bb :: (lb ++ R)))) HT3.out.has).at_ _ rfl i _ Hlast.out
     rw [add_lit, Nat.zero_add] at h
     exact h
    have hil : i ≤ 65536 := by omega
    have hcb : c.1 + c.2.size ≤ 65536 := by omega
    have h63 : i + 1 + 1 ≤ maxLen := by unfold maxLen; omega
    have hby : (i + 1 + 1) * 8 ≤ 140737488355328 := by omega
    go_wp2_with fail
    refine (vhead w2 HV.out).mono ?_
    rintro e w3 ⟨rfl, hB3⟩
    unfold hdVal
    have hfd : ∀ w : World, (Instr.field 79 (.agg #[.int .u8 c.2.tag, .int .i64 c.2.typ, .int .i64 c.2.len, .int .i64 c.2.size]) 3).run Tryz.prog w = .ok (.int .i64 c.2.size) w := fun _ => by kernel_rfl
    have hfd1 : ∀ w : World, (Instr.field 79 (.agg #[.int .u8 1, .int .i64 c.2.typ, .int .i64 c.2.len, .int .i64 c.2.size]) 3).run Tryz.prog w = .ok (.int .i64 c.2.size) w := fun _ => by kernel_rfl
    have HT4 := uh (HT3.out.call hB3)
    clear hB3 HT3 q5 HV Hlast
    go_wp2_with (first
     | (at_builtin; refine wpList_append_row rfl _ _ rfl el_int rfl Hr5.out (R := (w3.heap.size, .cells #[.int .i64 ((c.1 : Int) + (c.2.size : Int))] 3) :: (vb, .cells (viewCells a c.1 c.2 (tyAt L c.2.typ)).toArray 238) :: (arBlks a aw W cw ++ (spBlk sb a tb bb :: (lb ++ R)))) ((HT4.out.alloc (.cells #[.int .i64 ((c.1 : Int) + (c.2.size : Int))] 3)).perm (perm_of fun c => by simp <;> omega)).has rfl (news := [.int .i64 ((c.1 : Int) + (c.2.size : Int))]) rfl (news_of (heap_alloc_new _ _)) (by simp [Value.oneCell']) h63 hby ?_; intro a9 p9 l9 w9 hr9 V9 hno; have HT9 := uh (((HT4.out.alloc (.cells #[.int .i64 ((c.1 : Int) + (c.2.size : Int))] 3)).perm (l2 := lr5 ++ ((w3.heap.size, .cells #[.int .i64 ((c.1 : Int) + (c.2.size : Int))] 3) :: (vb, .cells (viewCells a c.1 c.2 (tyAt L c.2.typ)).toArray 238) :: (arBlks a aw W cw ++ (spBlk sb a tb bb :: (lb ++ R))))) (perm_of fun c => by simp <;> omega)).trans V9); have Hr9 := uh hr9; clear hr9 V9 hno)
     | fail)
    obtain ⟨b9, cur9, rfl, -, -, -⟩ := Hr9.out.some_of (by omega)
    go_roundw
    case rel =>
     refine ⟨i + 1, b9, p9, l9, by omega, by go_num, by go_num, ?_, ((HT9.out.perm (l2 := [(w3.heap.size, .cells #[.int .i64 ((c.1 : Int) + (c.2.size : Int))] 3), (vb, .cells (viewCells a c.1 c.2 (tyAt L c.2.typ)).toArray 238)] ++ (l9 ++ (arBlks a aw W cw ++ (spBlk sb a tb bb :: (lb ++ R))))) (perm_of fun c => by simp <;> omega)).drop)⟩
     rw [Hen.out, nats_append]
     have h9 : nats [c.1 + c.2.size] = [.int .i64 ((c.1 : Int) + (c.2.size : Int))] := by simp [nats]
     rw [h9]
     exact Hr9.out
    case measure => simp [intOf]; omega
  · obtain rfl : i = os.length := by omega
    have hnl : ¬ ((os.length : Nat) : Int) < (os.length : Int) := by omega
    rw [List.take_length] at hr5
    have HT2 := uh ((T.perm (l2 := lb ++ (arBlks a aw W cw ++ (spBlk sb a tb bb :: (lr5 ++ R)))) (perm_of fun c => by simp <;> omega)).drew)
    have Hr5 := uh hr5
    have Hen := uh (fun w' (X : List Blk) (j : Nat) (hj : j ≤ os.length) (V : Turn [] w0 (X ++ (lr5 ++ R)) w') => by
     have h := (hr5.src (R := X ++ R) (V.has.perm (perm_of fun c => by simp <;> omega))).at_ _ rfl j _ (endsOf_get os hj)
     rw [add_lit, Nat.zero_add] at h
     exact h)
    have hB := HB.out
    have Hclr := uh (fun w' (X : List Blk) (V : Turn [] w0 (lb ++ X) w') => bclrrun w' bb _ B lb X hB hBu hBl (by omega) V)
    clear T hr5 hi hlt hB
    obtain ⟨z, hz⟩ : ∃ z : Nat, W.length / 2 = z := ⟨_, rfl⟩
    rw [hz] at Hclr hzb Hle
    have HZ := uh hz
    clear hz
    go_wp2_with fail
    refine wp_abs (fun W' => Turn [] w0 (lb ++ (arBlks a aw W cw ++ (spBlk sb a tb bb :: (lr5 ++ R)))) W'.drew) HT2.out fun W1 T1 => ?_
    have A1 := Hsp.out W1.drew W cw (lb ++ (lr5 ++ R)) hf (T1.perm (perm_of fun c => by simp <;> omega))
    have Hs22 := uh (fun w' (Y : List Blk) (V : Turn [] w0 (Y ++ (arBlks a aw W cw ++ (spBlk sb a tb bb :: (lr5 ++ R)))) w') => Hs2.out w' (Y ++ (arBlks a aw W cw ++ (lr5 ++ R))) (V.perm (perm_of fun c => by simp <;> omega)))
    have hS1 := Hs22.out _ _ T1
    have Hg1 := uh (sgran _ A1.c0 A1.ar hf)
    rw [HZ.out] at Hg1
    have Hc1 := uh (Hclr.out _ _ T1)
    rw [show ((0 : Nat) : Int) = 0 from rfl] at Hc1
    clear T1 A1 HT2
    refine wp_region_noPanic ?_
    refine wp_region_listed (S := fun W' => W'.cell? ⟨sb, 2, none⟩ = some (.pointer (some ⟨bb, 0, none⟩))) 7 [false, false, false, false, false, false, false] rfl rfl (by kernel_rfl) ?_
    refine tkA 0 56 hS1 ?_
    refine tkA 1 57 hS1 ?_
    refine tkA 2 58 hS1 ?_
    refine tkB 3 59 hS1 (fun w hSw => hSw) ?_
    refine tkA 4 60 hS1 ?_
    refine rdyA 5 (fun K hK => ?_)
    go_simp
    refine Hg1.out.mono ?_
    rintro e w2 ⟨rfl, hw2⟩
    subst hw2
    refine hK.out _ _ hS1 fun _ => ?_
    clear hK K
    simp only [st0, st1, st2]
    refine rdyA 6 (fun K hK => ?_)
    go_simp
    refine Hc1.out.mono ?_
    rintro e w3 ⟨rfl, B1, lb1, hci, hbi, T3⟩
    have hS3 := Hs22.out _ _ T3
    have HT3 := uh (T3.perm (l2 := arBlks a aw W cw ++ (spBlk sb a tb bb :: (lb1 ++ (lr5 ++ R)))) (perm_of fun c => by simp <;> omega))
    have HB1 := uh (⟨hci.1, hci.2.1, bitsOf.clr hci, hbi⟩ : B1.length = B.length ∧ u64ok B1 ∧ bitsOf B1 z [] ∧ BitIs bb B1 z lb1)
    clear hci hbi T3 Hg1 Hc1 hS1
    refine hK.out _ _ hS3 fun _ => ?_
    clear hK K
    simp only [st0, st1, st2]
    refine wpAnyH_done (by kernel_rfl) ?_ _
    refine NoPanic.normal ?_
    clear hS3
    go_wp2_with fail
    go_loopw [65] (fun v65 wr => ∃ (j en : Nat) (Wj Bj : List Nat) (lbj : List Blk) (cj : Int), j ≤ os.length ∧ v65 = .int .i64 j ∧ en = endOf 0 (os.take j) ∧ settleW z Wj (os.drop j) en = settleW z W os 0 ∧ Wj.length = W.length ∧ Bj.length = B.length ∧ u64ok Bj ∧ bitsOf Bj z (os.take j) ∧ BitIs bb Bj z lbj ∧ Turn [] w0 (arBlks a aw Wj cj ++ (spBlk sb a tb bb :: (lbj ++ (lr5 ++ R)))) wr) (fun v65 _ => os.length - (intOf v65).toNat)
    case atStart => exact ⟨0, 0, W, B1, lb1, cw, Nat.zero_le _, by go_num, rfl, rfl, rfl, HB1.out.1, HB1.out.2.1, HB1.out.2.2.1, HB1.out.2.2.2, HT3.out⟩
    case round =>
     clear HT3 HB1
     obtain ⟨j, en, Wj, Bj, lbj, cj, hj, rfl, hen, hsw, hwl, hbl, hbu, hbo, hbi, T⟩ := hrel
     by_cases hlt : j < os.length
     · have hlt' : (j : Int) < (os.length : Int) := by omega
       obtain ⟨c, hc⟩ : ∃ c, os[j]? = some c := ⟨os[j], List.getElem?_eq_getElem hlt⟩
       obtain ⟨hce, hst, hct⟩ := Hr.out j c hc
       rw [← hen] at hce
       have hroom := hst.2.2
       rw [HZ.out] at hroom
       have hpos := hst.pos
       rw [settleW_next hc] at hsw
       have He1 := uh (endOf_next hc)
       have Htk := uh (take_next hc)
       obtain ⟨ab, aoff, rfl, hat0⟩ := HA.out (by omega) wr _ (T.perm (l2 := (arBlks a aw Wj cj ++ (spBlk sb a tb bb :: (lbj ++ lr5))) ++ R) (perm_of fun c => by simp <;> omega))
       have hat := hat0 j _ (ints_get (cesAt_get hc))
       have hs2 := Hs2.out wr (arBlks a aw Wj cj ++ (lbj ++ (lr5 ++ R))) (T.perm (perm_of fun c => by simp <;> omega))
       have Hset := uh (bset wr bb z c.1 Bj lbj (arBlks a aw Wj cj ++ (spBlk sb a tb bb :: (lr5 ++ R))) hbi hbu (by rw [hbl]; rw [← HZ.out]; exact hBl) (by omega) (by omega) (T.perm (perm_of fun c => by simp <;> omega)))
       have hsub : (c.1 : Int) - (en : Int) = ((c.1 - en : Nat) : Int) := by omega
       have HQ := uh (⟨hsw, hwl, hbl, hbo⟩ : settleW z (lay Wj en (c.1 - en)) (os.drop (j + 1)) (c.1 + c.2.size) = settleW z W os 0 ∧ Wj.length = W.length ∧ Bj.length = B.length ∧ bitsOf Bj z (os.take j))
       have Henj := uh (fun w' (X : List Blk) (V : Turn [] w0 (X ++ (lr5 ++ R)) w') => Hen.out w' X j hj V)
       rw [← hen] at Henj
       have hwr : IntKind.i64.wrap (((c.1 - en : Nat)) : Int) = ((c.1 - en : Nat) : Int) := i64_in _ (by omega)
       have hjb : (j : Int) < (os.length : Int) + 1 := by omega
       have hg9 : en + (c.1 - en) ≤ Wj.length / 2 := by rw [hwl, HZ.out]; omega
       have hf9 : Wj.length ≤ 65536 := by rw [hwl]; exact hf
       clear hc hst hct T hsw hwl hbl hbu hbo hbi hat0 hen hpos
       go_wp2_with fail
       refine Hset.out.mono ?_
       rintro e w4 ⟨rfl, B5, lb5, hsi, hbi, T4⟩
       have HB5 := uh (⟨hsi.1.trans HQ.out.2.2.1, hsi.2.1, HQ.out.2.2.2.set hsi, hbi⟩ : B5.length = B.length ∧ u64ok B5 ∧ bitsOf B5 z (os.take j ++ [c]) ∧ BitIs bb B5 z lb5)
       have HT5 := uh ((T4.perm (l2 := (arBlks a aw Wj cj ++ (spBlk sb a tb bb :: lb5)) ++ (lr5 ++ R)) (perm_of fun c => by simp <;> omega)).drew)
       clear hsi hbi T4 Hset hat hs2
       go_wp2_with fail
       refine wp_abs (fun W' => Turn [] w0 ((arBlks a aw Wj cj ++ (spBlk sb a tb bb :: lb5)) ++ (lr5 ++ R)) W'.drew) HT5.out fun W1 T1 => ?_
       have hS1 := Henj.out _ _ T1
       have T1' := T1.perm (l2 := arBlks a aw Wj cj ++ (spBlk sb a tb bb :: (lb5 ++ (lr5 ++ R)))) (perm_of fun c => by simp <;> omega)
       have HG := uh (sgap _ (range_below HF0.out T1'.below) T1' (s := sb) (tb := tb) (bb := bb) (List.mem_cons_self ..) hf9 en (c.1 - en) hg9)
       clear T1 T1' HT5
       refine wp_region_noPanic ?_
       refine wp_region_listed (S := fun W' => W'.cell? ⟨b5, j, none⟩ = some (.int .i64 en)) 12 [false, false, false, false, false, false, false, false, false, false, false, false] rfl rfl (by kernel_rfl) ?_
       refine tkA 0 76 hS1 ?_
       refine tkA 1 77 hS1 ?_
       refine tkA 2 78 hS1 ?_
       refine tkA 3 79 hS1 ?_
       refine tkB 4 80 hS1 (fun w hSw => hSw) ?_
       refine tkA 5 81 hS1 ?_
       refine tkA 6 82 hS1 ?_
       refine tkA 7 83 hS1 ?_
       refine tkA 8 84 hS1 ?_
       refine tkB 9 85 hS1 (fun w hSw => hSw) ?_
       refine tkA 10 86 hS1 ?_
       refine rdyA 11 (fun K hK => ?_)
       go_simp
       refine HG.out.mono ?_
       rintro e w6 ⟨⟨u, rfl⟩, c6, T6⟩
       have hS6 := Henj.out _ _ (T6.perm (l2 := (arBlks a aw (lay Wj en (c.1 - en)) c6 ++ (spBlk sb a tb bb :: lb5)) ++ (lr5 ++ R)) (perm_of fun c => by simp <;> omega))
       have HT6 := uh T6
       clear T6 HG hS1
       refine hK.out _ _ hS6 fun _ => ?_
       clear hK K
       simp only [st0, st1, st2]
       refine wpAnyH_done (by kernel_rfl) ?_ _
       refine NoPanic.normal ?_
       clear hS6 Henj
       go_wp2_with fail
       go_roundw
       case rel => exact ⟨j + 1, c.1 + c.2.size, _, B5, lb5, c6, by omega, by go_num, He1.out.symm, HQ.out.1, by rw [lay_len]; exact HQ.out.2.1, HB5.out.1, HB5.out.2.1, by rw [Htk.out]; exact HB5.out.2.2.1, HB5.out.2.2.2, HT6.out⟩
       case measure => simp [intOf]; omega
     · obtain rfl : j = os.length := by omega
       rw [settleW_last (Nat.le_refl _)] at hsw
       rw [List.take_length] at hbo
       have hb := Hle.out os.length
       rw [← hen] at hb
       have hq := Hen.out wr (arBlks a aw Wj cj ++ (spBlk sb a tb bb :: lbj)) os.length (Nat.le_refl _) (T.perm (perm_of fun c => by simp <;> omega))
       rw [← hen] at hq
       have A2 := Hsp.out wr Wj cj (lbj ++ (lr5 ++ R)) (by rw [hwl]; exact hf) T
       have Hg2 := uh (sgran _ A2.c0 A2.ar (by rw [hwl]; exact hf))
       rw [hwl, HZ.out] at Hg2
       have HG := uh (sgap _ A2.fields T (s := sb) (tb := tb) (bb := bb) (List.mem_cons_self ..) (by rw [hwl]; exact hf) en (z - en) (by rw [hwl, HZ.out]; omega))
       rw [hsw] at HG
       have HBF := uh (⟨hbl, hbu, hbo, hbi⟩ : Bj.length = B.length ∧ u64ok Bj ∧ bitsOf Bj z os ∧ BitIs bb Bj z lbj)
       have hsub : (z : Int) - (en : Int) = ((z - en : Nat) : Int) := by omega
       have hwr : IntKind.i64.wrap (((z - en : Nat)) : Int) = ((z - en : Nat) : Int) := i64_in _ (by omega)
       have hol : os.length ≤ 65536 := by have := HZ.out; omega
       clear T A2 hsw hwl hbl hbu hbo hbi hen
       go_wp2_with fail
       refine Hg2.out.mono ?_
       rintro e w7 ⟨rfl, hw7⟩
       subst hw7
       go_wp2_with fail
       refine HG.out.mono ?_
       rintro e w8 ⟨⟨u, rfl⟩, c8, T8⟩
       have HT8 := uh ((T8.perm (l2 := lr5 ++ (arBlks a aw (settleW z W os 0) c8 ++ (spBlk sb a tb bb :: lbj) ++ R)) (perm_of fun c => by simp <;> omega)).drop)
       clear T8 HG Hg2 hq
       go_wp2_with fail
       go_ret
       refine ⟨rfl, Bj, lbj, c8, HBF.out.1, HBF.out.2.1, ?_, ?_, ?_⟩
       · rw [HZ.out]; exact HBF.out.2.2.1
       · rw [HZ.out]; exact HBF.out.2.2.2
       · rw [HZ.out]; exact HT8.out
end
section
open Go Go.RowKit Go.Shelf Go.IntWalk
set_option maxRecDepth 100000 in
set_option maxHeartbeats 3200000 in
theorem ssettle_err {w0 : World} (w : World) (sb a aw tb bb : Nat) {W B : List Nat} {lb R : List Blk} {cw : Int} (tao : Option Addr) (tcap : Nat) (L : List Ty) (hB : BitIs bb B (W.length / 2) lb) (_hBu : u64ok B) (_hBl : (W.length / 2 + 63) / 64 ≤ B.length)
  (T : Turn [] w0 (arBlks a aw W cw ++ (spBlk sb a tb bb :: lb) ++ R) w) (hTab : TabAt w0 tb tao tcap L) (hF0 : Fields w0) (hf : W.length ≤ 65536) (hu : ∀ v ∈ W, v < 18446744073709551616) (hTy : ∀ t ∈ L, TyIn t) (hL : L.length ≤ 1000)
  (ats : List Int) (os : List Ce) (hr : rises L W 0 os) (x : Int) (hx : ats[os.length]? = some x) (hpre : ∀ (i : Nat) (c : Ce), os[i]? = some c → ats[i]? = some (c.1 : Int)) (hbad : ∀ h, objq L W x = some h → x < (endOf 0 os : Nat)) (hlen : ats.length ≤ 65536) (aa : Option Addr) (acap : Nat) (hAt : ∀ (w' : World) (X : List Blk), Turn [] w0 (X ++ R) w' → Src w' aa ats.length acap 1 (ints ats)) :
  Calls Tryz.prog 138 #[.pointer (some ⟨sb, 0, none⟩), .slice aa ats.length acap] w fun e w' => e = .returned (.int .i64 2) ∧ Turn [] w0 (arBlks a aw W cw ++ (spBlk sb a tb bb :: lb) ++ R) w' := by
 have hol : os.length < ats.length := (List.getElem?_eq_some_iff.1 hx).1
 have hl0 := rises_len hr (Nat.zero_le _)
 have hzb : W.length / 2 ≤ 32768 := by omega
 have Hsp := uh (fun w' (W' : List Nat) (c' : Int) (Y : List Blk) (hl : W'.length ≤ 65536) (V : Turn [] w0 (arBlks a aw W' c' ++ (spBlk sb a tb bb :: Y)) w') =>
  (⟨V.has.cell (b := sb) (c := #[.pointer (some ⟨a, 0, none⟩), .pointer (some ⟨tb, 0, none⟩), .pointer (some ⟨bb, 0, none⟩)]) (e := 146) (f := (0, 0)) (by simp [spBlk]) 0, V.has.cell (b := sb) (c := #[.pointer (some ⟨a, 0, none⟩), .pointer (some ⟨tb, 0, none⟩), .pointer (some ⟨bb, 0, none⟩)]) (e := 146) (f := (0, 0)) (by simp [spBlk]) 1, arBlks_at V.has hl, hTab.below V.below, range_below hF0 V.below⟩ : SpAt w' sb a aw tb W' tao tcap L))
 have Hs2 := uh (fun w' (Y : List Blk) (V : Turn [] w0 (spBlk sb a tb bb :: Y) w') => (V.cell1 2 : w'.cell? ⟨sb, 2, none⟩ = some (.pointer (some ⟨bb, 0, none⟩))))
 have Hof := uh (fun w' (A : SpAt w' sb a aw tb W tao tcap L) (g : Int) => sof w' A.fields A.ar hu L hTy hL tb tao tcap A.tab g)
 have Hr := uh (fun i c => rises_at hr (i := i) (c := c))
 have Hle := uh (endOf_take_le hr)
 have HA := uh (fun w' X (V : Turn [] w0 (X ++ R) w') => (hAt w' X V).form (by rw [ints_len]; omega))
 have hone : ∀ v : Nat, ∀ u ∈ ([.int .i64 v] : List Value), u.oneCell' = true := by intro v u hu; simp at hu; subst hu; rfl
 have HB := uh hB
 have HT := uh (T.perm (l2 := arBlks a aw W cw ++ (spBlk sb a tb bb :: (lb ++ R))) (perm_of fun c => by simp <;> omega))
 have hrow0 : Row 3 1 (some ⟨w.heap.size, 0, none⟩) 1 1 (nats (endsOf (os.take 0))) [(w.heap.size, .cells #[.int .i64 0] 3)] := ⟨rfl, Nat.le_refl _, by decide, .inr ⟨_, _, rfl, rfl, by decide, rfl⟩⟩
 have HR0 := uh hrow0
 have HT0 := uh (HT.out.alloc (.cells #[.int .i64 0] 3))
 have HF0 := uh hF0
 clear T hB hTab hF0 hAt hrow0
 go_enter Tryz.func138, Tryz.ntmps138
 go_wp2_with fail
 go_loopw [5, 18] (fun v5 v18 wr => ∃ (i : Nat) (b5 p5 : Nat) (lr5 : List Blk), i ≤ os.length ∧ v18 = .int .i64 i ∧ v5 = .slice (some ⟨b5, 0, none⟩) (i + 1) p5 ∧ Row 3 1 (some ⟨b5, 0, none⟩) (i + 1) p5 (nats (endsOf (os.take i))) lr5 ∧ Turn [] w0 (lr5 ++ (arBlks a aw W cw ++ (spBlk sb a tb bb :: (lb ++ R)))) wr) (fun _ v18 _ => ats.length - (intOf v18).toNat)
 case atStart => exact ⟨0, w.heap.size, 1, _, Nat.zero_le _, by go_num, by go_num, HR0.out, HT0.out⟩
 case round =>
  clear HT0 HR0
  obtain ⟨i, b5, p5, lr5, hi, rfl, rfl, hr5, T⟩ := hrel
  by_cases hlt : i < os.length
  · have hlt' : (i : Int) < (os.length : Int) := by omega
    obtain ⟨c, hc⟩ : ∃ c, os[i]? = some c := ⟨os[i], List.getElem?_eq_getElem hlt⟩
    obtain ⟨hce, hst, hct⟩ := Hr.out i c hc
    have hoq := objq_of hst hct
    have hroom := hst.2.2
    have hexT := T.perm (l2 := (lr5 ++ (arBlks a aw W cw ++ (spBlk sb a tb bb :: lb))) ++ R) (perm_of fun c => by simp <;> omega)
    obtain ⟨ab, aoff, rfl, hat0⟩ := HA.out wr _ hexT
    have hat := hat0 i _ (ints_get (hpre i c hc))
    have T7 := T.perm (l2 := arBlks a aw W cw ++ (spBlk sb a tb bb :: (lr5 ++ (lb ++ R)))) (perm_of fun c => by simp <;> omega)
    have Hen := uh (endsOf_next hc)
    have hcur := (hr5.src (R := arBlks a aw W cw ++ (spBlk sb a tb bb :: (lb ++ R))) T.has)
    have HSp := uh (fun w' Y (V : Turn [] w0 (arBlks a aw W cw ++ (spBlk sb a tb bb :: Y)) w') => Hsp.out w' W cw Y hf V)
    have Hcall := uh (fun w' Y (V : Turn [] w0 (arBlks a aw W cw ++ (spBlk sb a tb bb :: Y)) w') => by
     have h := Hof.out w' (HSp.out w' Y V) c.1
     rw [hoq] at h
     exact h)
    simp only at Hcall
    have hlast := endsOf_take_get os (i := i) (by omega)
    generalize hen : endOf 0 (os.take i) = en at *
    have k1 : decide ((c.1 : Int) < (en : Int)) = false := decide_eq_false (by omega)
    have k2 : decide (c.1 < en) = false := decide_eq_false (by omega)
    have HT7 := uh T7.drew
    have Hr5 := uh hr5
    have Hlast := uh hlast
    clear hexT hat0 T T7 hcur hr5 hlast hst hoq hen HB
    go_wp2_with fail
    refine wp_abs (fun W' => Turn [] w0 (arBlks a aw W cw ++ (spBlk sb a tb bb :: (lr5 ++ (lb ++ R)))) W'.drew) HT7.out fun W1 T1 => ?_
    have hS1 := (⟨(HSp.out _ _ T1).c0, (HSp.out _ _ T1).c1⟩ : W1.drew.cell? ⟨sb, 0, none⟩ = some (.pointer (some ⟨a, 0, none⟩)) ∧ W1.drew.cell? ⟨sb, 1, none⟩ = some (.pointer (some ⟨tb, 0, none⟩)))
    have HT1 := uh T1
    clear T1 HT7 hat
    refine wp_region_noPanic ?_
    refine wp_region_listed (S := fun W' => W'.cell? ⟨sb, 0, none⟩ = some (.pointer (some ⟨a, 0, none⟩)) ∧ W'.cell? ⟨sb, 1, none⟩ = some (.pointer (some ⟨tb, 0, none⟩))) 15 [false, false, false, false, false, false, false, false, false, false, false, false, false, false, false] rfl rfl (by kernel_rfl) ?_
    refine tkA 0 23 hS1 ?_
    refine tkA 1 24 hS1 ?_
    refine tkA 2 25 hS1 ?_
    refine tkB 3 26 hS1 (fun w hSw => hSw.1) ?_
    refine tkA 4 27 hS1 ?_
    refine tkA 5 28 hS1 ?_
    refine tkA 6 29 hS1 ?_
    refine tkB 7 30 hS1 (fun w hSw => hSw.2) ?_
    refine tkA 8 31 hS1 ?_
    refine rdyA 9 (fun K hK => ?_)
    go_simp
    refine (Hcall.out _ _ HT1.out).mono ?_
    rintro e w2 ⟨vb, rfl, T2⟩
    have T3 := HT1.out.grow T2
    have T4 := T3.perm (l2 := arBlks a aw W cw ++ (spBlk sb a tb bb :: ((vb, .cells (viewCells a c.1 c.2 (tyAt L c.2.typ)).toArray 238) :: (lr5 ++ (lb ++ R))))) (perm_of fun c => by simp <;> omega)
    have hS2 := (⟨(HSp.out _ _ T4).c0, (HSp.out _ _ T4).c1⟩ : w2.cell? ⟨sb, 0, none⟩ = some (.pointer (some ⟨a, 0, none⟩)) ∧ w2.cell? ⟨sb, 1, none⟩ = some (.pointer (some ⟨tb, 0, none⟩)))
    have HT3 := uh (T3.perm (l2 := lr5 ++ ((vb, .cells (viewCells a c.1 c.2 (tyAt L c.2.typ)).toArray 238) :: (arBlks a aw W cw ++ (spBlk sb a tb bb :: (lb ++ R))))) (perm_of fun c => by simp <;> omega))
    have hv : VwAt w2 vb a c.1 c.2 (tyAt L c.2.typ) := (T3.has.range (List.mem_cons_self ..))
    have HV := uh hv
    clear T2 T3 T4 hS1 HT1 hv Hcall
    refine hK.out _ _ hS2 fun _ => ?_
    clear hK K
    simp only [st0, st1, st2]
    refine tkA 10 22 hS2 ?_
    refine tkA 11 33 hS2 ?_
    refine tkA 12 34 hS2 ?_
    refine tkA 13 8 hS2 ?_
    refine tkA 14 9 hS2 ?_
    refine wpAnyH_done (by kernel_rfl) ?_ _
    refine NoPanic.normal ?_
    clear hS2
    have q5 : w2.cell? ⟨b5, i, none⟩ = some (.int .i64 en) := by
     have h := (Hr5.out.src (R := (vb, .cells (viewCells a c.1 c.2 (tyAt L c.2.typ)).toArray 238) :: (arBlks a aw W cw ++ (spBlk sb a tb bb :: (lb ++ R)))) HT3.out.has).at_ _ rfl i _ Hlast.out
     rw [add_lit, Nat.zero_add] at h
     exact h
    have hil : i ≤ 65536 := by omega
    have hcb : c.1 + c.2.size ≤ 65536 := by omega
    have h63 : i + 1 + 1 ≤ maxLen := by unfold maxLen; omega
    have hby : (i + 1 + 1) * 8 ≤ 140737488355328 := by omega
    go_wp2_with fail
    refine (vhead w2 HV.out).mono ?_
    rintro e w3 ⟨rfl, hB3⟩
    unfold hdVal
    have hfd : ∀ w : World, (Instr.field 79 (.agg #[.int .u8 c.2.tag, .int .i64 c.2.typ, .int .i64 c.2.len, .int .i64 c.2.size]) 3).run Tryz.prog w = .ok (.int .i64 c.2.size) w := fun _ => by kernel_rfl
    have hfd1 : ∀ w : World, (Instr.field 79 (.agg #[.int .u8 1, .int .i64 c.2.typ, .int .i64 c.2.len, .int .i64 c.2.size]) 3).run Tryz.prog w = .ok (.int .i64 c.2.size) w := fun _ => by kernel_rfl
    have HT4 := uh (HT3.out.call hB3)
    clear hB3 HT3 q5 HV Hlast
    go_wp2_with (first
     | (at_builtin; refine wpList_append_row rfl _ _ rfl el_int rfl Hr5.out (R := (w3.heap.size, .cells #[.int .i64 ((c.1 : Int) + (c.2.size : Int))] 3) :: (vb, .cells (viewCells a c.1 c.2 (tyAt L c.2.typ)).toArray 238) :: (arBlks a aw W cw ++ (spBlk sb a tb bb :: (lb ++ R)))) ((HT4.out.alloc (.cells #[.int .i64 ((c.1 : Int) + (c.2.size : Int))] 3)).perm (perm_of fun c => by simp <;> omega)).has rfl (news := [.int .i64 ((c.1 : Int) + (c.2.size : Int))]) rfl (news_of (heap_alloc_new _ _)) (by simp [Value.oneCell']) h63 hby ?_; intro a9 p9 l9 w9 hr9 V9 hno; have HT9 := uh (((HT4.out.alloc (.cells #[.int .i64 ((c.1 : Int) + (c.2.size : Int))] 3)).perm (l2 := lr5 ++ ((w3.heap.size, .cells #[.int .i64 ((c.1 : Int) + (c.2.size : Int))] 3) :: (vb, .cells (viewCells a c.1 c.2 (tyAt L c.2.typ)).toArray 238) :: (arBlks a aw W cw ++ (spBlk sb a tb bb :: (lb ++ R))))) (perm_of fun c => by simp <;> omega)).trans V9); have Hr9 := uh hr9; clear hr9 V9 hno)
     | fail)
    obtain ⟨b9, cur9, rfl, -, -, -⟩ := Hr9.out.some_of (by omega)
    go_roundw
    case rel =>
     refine ⟨i + 1, b9, p9, l9, by omega, by go_num, by go_num, ?_, ((HT9.out.perm (l2 := [(w3.heap.size, .cells #[.int .i64 ((c.1 : Int) + (c.2.size : Int))] 3), (vb, .cells (viewCells a c.1 c.2 (tyAt L c.2.typ)).toArray 238)] ++ (l9 ++ (arBlks a aw W cw ++ (spBlk sb a tb bb :: (lb ++ R))))) (perm_of fun c => by simp <;> omega)).drop)⟩
     rw [Hen.out, nats_append]
     have h9 : nats [c.1 + c.2.size] = [.int .i64 ((c.1 : Int) + (c.2.size : Int))] := by simp [nats]
     rw [h9]
     exact Hr9.out
    case measure => simp [intOf]; omega
  · obtain rfl : i = os.length := by omega
    have hlt' : ((os.length : Nat) : Int) < (ats.length : Int) := by omega
    have hexT := T.perm (l2 := (lr5 ++ (arBlks a aw W cw ++ (spBlk sb a tb bb :: lb))) ++ R) (perm_of fun c => by simp)
    obtain ⟨ab, aoff, rfl, hat0⟩ := HA.out wr _ hexT
    have hat := hat0 os.length _ (ints_get hx)
    have T7 := T.perm (l2 := arBlks a aw W cw ++ (spBlk sb a tb bb :: (lr5 ++ (lb ++ R)))) (perm_of fun c => by simp; omega)
    have HSp := uh (fun w' Y (V : Turn [] w0 (arBlks a aw W cw ++ (spBlk sb a tb bb :: Y)) w') => Hsp.out w' W cw Y hf V)
    have hlast := endsOf_take_get os (i := os.length) (Nat.le_refl _)
    rw [List.take_length] at hlast hr5
    generalize hen : endOf 0 os = en at *
    have HT7 := uh T7.drew
    have Hr5 := uh hr5
    have Hlast := uh hlast
    have Hcall := uh (fun w' Y (V : Turn [] w0 (arBlks a aw W cw ++ (spBlk sb a tb bb :: Y)) w') => Hof.out w' (HSp.out w' Y V) x)
    have hil : os.length ≤ 65536 := by omega
    clear hexT hat0 T T7 hr5 hlast hen HB
    go_wp2_with fail
    refine wp_abs (fun W' => Turn [] w0 (arBlks a aw W cw ++ (spBlk sb a tb bb :: (lr5 ++ (lb ++ R)))) W'.drew) HT7.out fun W1 T1 => ?_
    have hS1 := (⟨(HSp.out _ _ T1).c0, (HSp.out _ _ T1).c1⟩ : W1.drew.cell? ⟨sb, 0, none⟩ = some (.pointer (some ⟨a, 0, none⟩)) ∧ W1.drew.cell? ⟨sb, 1, none⟩ = some (.pointer (some ⟨tb, 0, none⟩)))
    have HT1 := uh T1
    have hcl := uh (Hcall.out _ _ T1)
    clear T1 HT7 hat Hcall
    refine wp_region_noPanic ?_
    refine wp_region_listed (S := fun W' => W'.cell? ⟨sb, 0, none⟩ = some (.pointer (some ⟨a, 0, none⟩)) ∧ W'.cell? ⟨sb, 1, none⟩ = some (.pointer (some ⟨tb, 0, none⟩))) 15 [false, false, false, false, false, false, false, false, false, false, false, false, false, false, false] rfl rfl (by kernel_rfl) ?_
    refine tkA 0 23 hS1 ?_
    refine tkA 1 24 hS1 ?_
    refine tkA 2 25 hS1 ?_
    refine tkB 3 26 hS1 (fun w hSw => hSw.1) ?_
    refine tkA 4 27 hS1 ?_
    refine tkA 5 28 hS1 ?_
    refine tkA 6 29 hS1 ?_
    refine tkB 7 30 hS1 (fun w hSw => hSw.2) ?_
    refine tkA 8 31 hS1 ?_
    refine rdyA 9 (fun K hK => ?_)
    go_simp
    cases hq : objq L W x with
    | none =>
     rw [hq] at hcl
     refine hcl.out.mono ?_
     rintro e w2 ⟨er, rfl, hne, hB2⟩
     have T3 := HT1.out.call hB2
     have hS2 := (⟨(HSp.out _ _ T3).c0, (HSp.out _ _ T3).c1⟩ : w2.cell? ⟨sb, 0, none⟩ = some (.pointer (some ⟨a, 0, none⟩)) ∧ w2.cell? ⟨sb, 1, none⟩ = some (.pointer (some ⟨tb, 0, none⟩)))
     have HT3 := uh ((T3.perm (l2 := lr5 ++ (arBlks a aw W cw ++ (spBlk sb a tb bb :: lb) ++ R)) (perm_of fun c => by simp; omega)).drop)
     have ke : (er != 0) = true := by rw [bne_iff_ne]; exact hne
     clear T3 hB2 hS1 HT1 hcl
     refine hK.out _ _ hS2 fun _ => ?_
     clear hK K
     simp only [st0, st1, st2]
     refine tkA 10 22 hS2 ?_
     refine tkA 11 33 hS2 ?_
     refine tkA 12 34 hS2 ?_
     refine tkA 13 8 hS2 ?_
     refine tkA 14 9 hS2 ?_
     refine wpAnyH_done (by kernel_rfl) ?_ _
     refine NoPanic.normal ?_
     clear hS2
     go_wp2_with fail
     go_ret
     exact ⟨rfl, HT3.out⟩
    | some h =>
     rw [hq] at hcl
     refine hcl.out.mono ?_
     rintro e w2 ⟨vb, rfl, T2⟩
     have T3 := HT1.out.grow T2
     have T4 := T3.perm (l2 := arBlks a aw W cw ++ (spBlk sb a tb bb :: ((vb, .cells (viewCells a x h (tyAt L h.typ)).toArray 238) :: (lr5 ++ (lb ++ R))))) (perm_of fun c => by simp; omega)
     have hS2 := (⟨(HSp.out _ _ T4).c0, (HSp.out _ _ T4).c1⟩ : w2.cell? ⟨sb, 0, none⟩ = some (.pointer (some ⟨a, 0, none⟩)) ∧ w2.cell? ⟨sb, 1, none⟩ = some (.pointer (some ⟨tb, 0, none⟩)))
     have HT3 := uh ((T3.perm (l2 := ((vb, .cells (viewCells a x h (tyAt L h.typ)).toArray 238) :: lr5) ++ (arBlks a aw W cw ++ (spBlk sb a tb bb :: lb) ++ R)) (perm_of fun c => by simp; omega)).drop)
     have q5 : w2.cell? ⟨b5, os.length, none⟩ = some (.int .i64 en) := by
      have h9 := (Hr5.out.src (R := (vb, .cells (viewCells a x h (tyAt L h.typ)).toArray 238) :: (arBlks a aw W cw ++ (spBlk sb a tb bb :: (lb ++ R)))) (T3.has.perm (perm_of fun c => by simp; omega))).at_ _ rfl os.length _ Hlast.out
      rw [add_lit, Nat.zero_add] at h9
      exact h9
     have hlt9 := hbad h hq
     have k1 : decide (x < (en : Int)) = true := decide_eq_true hlt9
     clear T2 T3 T4 hS1 HT1 hcl
     refine hK.out _ _ hS2 fun _ => ?_
     clear hK K
     simp only [st0, st1, st2]
     refine tkA 10 22 hS2 ?_
     refine tkA 11 33 hS2 ?_
     refine tkA 12 34 hS2 ?_
     refine tkA 13 8 hS2 ?_
     refine tkA 14 9 hS2 ?_
     refine wpAnyH_done (by kernel_rfl) ?_ _
     refine NoPanic.normal ?_
     clear hS2
     go_wp2_with fail
     go_ret
     exact ⟨rfl, HT3.out⟩
end
section
open Go Go.RowKit Go.IntWalk
theorem el_type : Elem Tryz.prog 22 49 3 24 (tyVal ⟨0, 0, 0⟩) := Elem.of Tryz.underlying22 (by kernel_rfl) rfl
theorem tys_append (a b : List Ty) : tys (a ++ b) = tys a ++ tys b := by simp [tys]
def TabIs (tb : Nat) (L : List Ty) (l : List Blk) : Prop := ∃ ao cap lr, Row 49 3 ao L.length cap (tys L) lr ∧ l = (tb, .cells #[.slice ao L.length cap] 228) :: lr
set_option maxRecDepth 100000 in
set_option maxHeartbeats 1600000 in
theorem tput {l0 l R : List Blk} {w0 : World} (w : World) {tb : Nat} {L : List Ty} (hI : TabIs tb L l) (T : Turn l0 w0 (l ++ R) w) (hL : L.length ≤ 1000) (t : Ty) :
  Calls Tryz.prog 186 #[.pointer (some ⟨tb, 0, none⟩), tyVal t] w fun e w' => e = .returned (.int .i64 (L.length + 1 : Nat)) ∧ ∃ l', TabIs tb (L ++ [t]) l' ∧ Turn l0 w0 (l' ++ R) w' := by
 obtain ⟨ao, cap, lr, hr, rfl⟩ := hI
 obtain ⟨k, m, mk⟩ := t
 have T1 := T.alloc (.cells #[.int .u8 k, .int .i64 m, .int .u64 mk] 49)
 have c0 : (w.alloc (.cells #[.int .u8 k, .int .i64 m, .int .u64 mk] 49)).cell? ⟨tb, 0, none⟩ = some (.slice ao L.length cap) := T1.has.cell (b := tb) (c := #[.slice ao L.length cap]) (e := 228) (f := (0, 0)) (by simp) 0
 have f0 : (w.alloc (.cells #[.int .u8 k, .int .i64 m, .int .u64 mk] 49)).frozen? ⟨tb, 0, none⟩ = false := T1.has.free (b := tb) (c := #[.slice ao L.length cap]) (e := 228) (by simp) 0
 have b0 := T1.cell1 0
 have b1 := T1.cell1 1
 have b2 := T1.cell1 2
 have T00 := (T1.alloc (.cells #[.int .u8 k, .int .i64 m, .int .u64 mk] 49)).drew
 rw [World.size_alloc] at T00
 have T0 := T00.perm (l2 := lr ++ ((w.heap.size + 1, .cells #[.int .u8 k, .int .i64 m, .int .u64 mk] 49) :: (tb, .cells #[.slice ao L.length cap] 228) :: (w.heap.size, .cells #[.int .u8 k, .int .i64 m, .int .u64 mk] 49) :: R)) (perm_of fun c => by simp; omega)
 have h63 : L.length + 1 ≤ maxLen := by unfold maxLen; omega
 have hby : (L.length + 1) * 24 ≤ 140737488355328 := by omega
 have HT0 := uh T0
 have hnews : ∀ (j : Nat) (u : Value), ([.int .u8 k, .int .i64 m, .int .u64 mk] : List Value)[j]? = some u → ((w.alloc (.cells #[.int .u8 k, .int .i64 m, .int .u64 mk] 49)).drew.alloc (.cells #[.int .u8 k, .int .i64 m, .int .u64 mk] 49)).cell? ((⟨w.heap.size + 1, 0, none⟩ : Addr).add j) = some u := fun j u hj => by
  have h := T00.has.cell (b := w.heap.size + 1) (c := #[.int .u8 k, .int .i64 m, .int .u64 mk]) (e := 49) (f := (0, 0)) (List.mem_cons_self ..) j
  rw [add_lit, Nat.zero_add]
  exact h.trans (by rw [← Array.getElem?_toList]; exact hj)
 have c0b : ((w.alloc (.cells #[.int .u8 k, .int .i64 m, .int .u64 mk] 49)).alloc (.cells #[.int .u8 k, .int .i64 m, .int .u64 mk] 49)).cell? ⟨tb, 0, none⟩ = some (.slice ao L.length cap) := T00.has.cell (b := tb) (c := #[.slice ao L.length cap]) (e := 228) (f := (0, 0)) (by simp) 0
 have b0b : ((w.alloc (.cells #[.int .u8 k, .int .i64 m, .int .u64 mk] 49)).alloc (.cells #[.int .u8 k, .int .i64 m, .int .u64 mk] 49)).cell? ⟨w.heap.size, 0, none⟩ = some (.int .u8 k) := T00.has.cell (b := w.heap.size) (c := #[.int .u8 k, .int .i64 m, .int .u64 mk]) (e := 49) (f := (0, 0)) (by simp) 0
 have b1b : ((w.alloc (.cells #[.int .u8 k, .int .i64 m, .int .u64 mk] 49)).alloc (.cells #[.int .u8 k, .int .i64 m, .int .u64 mk] 49)).cell? ⟨w.heap.size, 1, none⟩ = some (.int .i64 m) := T00.has.cell (b := w.heap.size) (c := #[.int .u8 k, .int .i64 m, .int .u64 mk]) (e := 49) (f := (0, 0)) (by simp) 1
 have b2b : ((w.alloc (.cells #[.int .u8 k, .int .i64 m, .int .u64 mk] 49)).alloc (.cells #[.int .u8 k, .int .i64 m, .int .u64 mk] 49)).cell? ⟨w.heap.size, 2, none⟩ = some (.int .u64 mk) := T00.has.cell (b := w.heap.size) (c := #[.int .u8 k, .int .i64 m, .int .u64 mk]) (e := 49) (f := (0, 0)) (by simp) 2
 have Hnews := uh hnews
 clear hnews T00
 have Hr := uh hr
 clear T T1 T0 hr
 go_enter Tryz.func186, Tryz.ntmps186
 go_wp2_with fail
 go_region_law ((refine step_append_row (by rfl) _ _ (by rfl) el_type (by rfl) Hr.out HT0.out.has (by rfl) (news := [.int .u8 k, .int .i64 m, .int .u64 mk]) (by rfl) Hnews.out (by simp [Value.oneCell']) h63 hby ?_; intro a' p' l' w1 hr1 T1 hno; have V1 := (HT0.out.trans T1).perm (l2 := (tb, .cells #[.slice ao L.length cap] 228) :: ((w.heap.size + 1, .cells #[.int .u8 k, .int .i64 m, .int .u64 mk] 49) :: (w.heap.size, .cells #[.int .u8 k, .int .i64 m, .int .u64 mk] 49) :: (l' ++ R))) (perm_of fun c => by simp; omega); have d0 := V1.cell1 0; have e0 := V1.free1 0; have HV1 := uh V1; have Hr1 := uh hr1; clear V1 hr1 T1 hno))
 all_goals (have V2 := uh (HV1.out.setCell 0 (.slice a' (L.length + 1 : Nat) p')))
 all_goals (have c2 := V2.out.cell1 0)
 all_goals go_wp2
 all_goals go_ret
 all_goals (refine ⟨?_, (tb, .cells #[.slice a' (L.length + 1) p'] 228) :: l', ⟨a', p', l', ?_, by rw [List.length_append]; rfl⟩, ?_⟩)
 all_goals first
  | rfl
  | (rw [List.length_append, tys_append]; exact Hr1.out)
  | exact (((V2.out.swap.drop (a := [_])).swap.drop (a := [_])))
end
section
open Go Go.RowKit Go.IntWalk
set_option maxRecDepth 100000 in
set_option maxHeartbeats 1600000 in
theorem tadd_no {l0 l R : List Blk} {w0 : World} (w : World) {tb : Nat} {L : List Ty} (hI : TabIs tb L l) (T : Turn l0 w0 (l ++ R) w) (hL : L.length ≤ 64) (t : Ty) (ht : TyIn t) (hno : ¬ (t.may ∧ L.length < 64)) :
  Calls Tryz.prog 124 #[.pointer (some ⟨tb, 0, none⟩), tyVal t] w fun e w' => ∃ er : Int, e = .returned (.tuple #[.int .i64 0, .int .i64 er]) ∧ er ≠ 0 ∧ Turn l0 w0 (l ++ R) w' := by
 have hszT := sz_type
 have Hk := uh (fun W => kcheck W t ht)
 have HI := uh hI
 obtain ⟨ao, cap, lr, hr, rfl⟩ := hI
 obtain ⟨k, m, mk⟩ := t
 have T1 := T.alloc (.cells #[.int .u8 k, .int .i64 m, .int .u64 mk] 49)
 have hr1 := T1.range1
 have HT := uh T1
 clear T T1 hr ht
 by_cases hm : (Ty.mk k m mk).may
 · have hlen : L.length = 64 := by
     rcases Nat.lt_or_ge L.length 64 with h | h
     · exact absurd ⟨hm, h⟩ hno
     · omega
   rw [if_pos hm] at Hk
   clear hm hno
   go_enter Tryz.func124, Tryz.ntmps124
   go_wp2_with (first
    | (show wpList _ _ _ (⟨_, Op.load 49 _, _, _, _, _⟩ :: _) _ _; refine wpList_load_mid rfl 49 _ rfl w.heap.size 0 rfl [.int .u8 k, .int .i64 m, .int .u64 mk] _ hr1 Tryz.underlying49 rfl hszT ?_)
    | (go_at_call 185; refine (Hk.out _).mono ?_; rintro e w2 ⟨rfl, hB2⟩; have HT2 := uh (HT.out.call hB2); have c2 : w2.cell? ⟨tb, 0, none⟩ = some (.slice ao L.length cap) := HT2.out.cell2 0; clear hB2)
    | fail)
   go_ret2
   exact ⟨4, rfl, by decide, HT2.out.tail⟩
 · rw [if_neg hm] at Hk
   clear hm hno
   go_enter Tryz.func124, Tryz.ntmps124
   go_wp2_with (first
    | (show wpList _ _ _ (⟨_, Op.load 49 _, _, _, _, _⟩ :: _) _ _; refine wpList_load_mid rfl 49 _ rfl w.heap.size 0 rfl [.int .u8 k, .int .i64 m, .int .u64 mk] _ hr1 Tryz.underlying49 rfl hszT ?_)
    | (go_at_call 185; refine (Hk.out _).mono ?_; rintro e w2 ⟨rfl, hB2⟩; have HT2 := uh (HT.out.call hB2); clear hB2)
    | fail)
   go_ret2
   exact ⟨2, rfl, by decide, HT2.out.tail⟩
set_option maxRecDepth 100000 in
set_option maxHeartbeats 1600000 in
theorem tadd {l0 l R : List Blk} {w0 : World} (w : World) {tb : Nat} {L : List Ty} (hI : TabIs tb L l) (T : Turn l0 w0 (l ++ R) w) (t : Ty) (ht : TyIn t) (hm : t.may) (hL : L.length < 64) :
  Calls Tryz.prog 124 #[.pointer (some ⟨tb, 0, none⟩), tyVal t] w fun e w' => e = .returned (.tuple #[.int .i64 (L.length + 1 : Nat), .int .i64 0]) ∧ ∃ l', TabIs tb (L ++ [t]) l' ∧ Turn l0 w0 (l' ++ R) w' := by
 have hszT := sz_type
 have Hk := uh (fun W => kcheck W t ht)
 rw [if_pos hm] at Hk
 have HPut := uh (fun W (V : Turn l0 w0 (l ++ ((w.heap.size, .cells #[.int .u8 t.kind, .int .i64 t.words, .int .u64 t.mask] 49) :: R)) W) => tput W hI V (by omega) t)
 obtain ⟨ao, cap, lr, hr, rfl⟩ := hI
 obtain ⟨k, m, mk⟩ := t
 have T1 := T.alloc (.cells #[.int .u8 k, .int .i64 m, .int .u64 mk] 49)
 have hr1 := T1.range1
 have HT := uh T1
 have kl : decide ((64 : Int) ≤ (L.length : Int)) = false := decide_eq_false (by omega)
 have kl2 : ¬ (64 : Int) ≤ (L.length : Int) := by omega
 have kl3 : ¬ 64 ≤ L.length := by omega
 clear T T1 hr ht hm
 go_enter Tryz.func124, Tryz.ntmps124
 go_wp2_with (first
  | (show wpList _ _ _ (⟨_, Op.load 49 _, _, _, _, _⟩ :: _) _ _; refine wpList_load_mid rfl 49 _ rfl w.heap.size 0 rfl [.int .u8 k, .int .i64 m, .int .u64 mk] _ hr1 Tryz.underlying49 rfl hszT ?_)
  | (go_at_call 185; refine (Hk.out _).mono ?_; rintro e w2 ⟨rfl, hB2⟩; have HT2 := uh (HT.out.call hB2); have c2 : w2.cell? ⟨tb, 0, none⟩ = some (.slice ao L.length cap) := HT2.out.cell2 0; clear hB2)
  | fail)
 refine wp_abs (fun W' => Turn l0 w0 ((w.heap.size, .cells #[.int .u8 k, .int .i64 m, .int .u64 mk] 49) :: (tb, .cells #[.slice ao L.length cap] 228) :: (lr ++ R)) W'.drew) HT2.out.drew fun W1 T1 => ?_
 clear HT HT2 c2
 have hS := T1.range1
 have HT1 := uh (T1.perm (l2 := ((tb, .cells #[.slice ao L.length cap] 228) :: lr) ++ ((w.heap.size, .cells #[.int .u8 k, .int .i64 m, .int .u64 mk] 49) :: R)) (perm_of fun c => by simp; omega))
 clear T1
 refine wp_region_noPanic ?_
 refine wp_region_listed (S := fun W' => W'.rangeAt w.heap.size 0 [.int .u8 k, .int .i64 m, .int .u64 mk]) 7 [false, false, false, false, false, false, false] rfl rfl (by kernel_rfl) ?_
 refine tkA 0 21 hS ?_
 refine tkA 1 22 hS ?_
 refine tkA 2 23 hS ?_
 refine tkC 3 24 hS (fun w' hSw => load_mid_run 49 _ rfl w.heap.size 0 rfl [.int .u8 k, .int .i64 m, .int .u64 mk] _ hSw Tryz.underlying49 rfl hszT) ?_
 refine rdyA 4 (fun K hK => ?_)
 go_simp
 refine (HPut.out _ HT1.out).mono ?_
 rintro e W3 ⟨rfl, l', hI3, T3⟩
 have hS3 : W3.rangeAt w.heap.size 0 [.int .u8 k, .int .i64 m, .int .u64 mk] := T3.has.range (b := w.heap.size) (c := #[.int .u8 k, .int .i64 m, .int .u64 mk]) (e := 49) (f := (0, 0)) (by simp)
 have HT3 := uh (T3.sub (l2 := l' ++ R) (List.Sublist.append (List.Sublist.refl l') (List.sublist_cons_self ..)))
 have HI3 := uh hI3
 clear T3 HT1 hS hI3
 refine hK.out _ _ hS3 fun _ => ?_
 clear hK K
 simp only [st0, st1, st2]
 refine tkA 5 4 hS3 ?_
 refine tkA 6 5 hS3 ?_
 refine wpAnyH_done (by kernel_rfl) ?_ _
 refine NoPanic.normal ?_
 clear hS3
 go_wp2
 go_ret2
 exact ⟨rfl, l', HI3.out, HT3.out⟩
end
section
open Go Go.RowKit Go.IntWalk
set_option maxRecDepth 100000 in
set_option maxHeartbeats 3200000 in
theorem tnew (w : World) (L : List Ty) (ao : Option Addr) (cap : Nat) (hS : Src w ao L.length cap 3 (tys L)) (hTy : ∀ t ∈ L, TyIn t) (hL : L.length ≤ 1000) (Qp : Ending → World → Prop)
  (HY : Hid ((∀ t ∈ L, t.may) ∧ L.length ≤ 64 → ∀ w' l, TabIs w.heap.size L l → Turn [] w l w' → Qp (.returned (.tuple #[.pointer (some ⟨w.heap.size, 0, none⟩), .int .i64 0])) w'))
  (HN : Hid (¬ ((∀ t ∈ L, t.may) ∧ L.length ≤ 64) → ∀ (er : Int) w', er ≠ 0 → Below w.heap.size w w' → Qp (.returned (.tuple #[.pointer none, .int .i64 er])) w')) :
  Calls Tryz.prog 47 #[.slice ao L.length cap] w Qp := by
 have hszT := sz_type
 have T0 := (Turn.refl (Has.nil w)).alloc (.cells #[.slice none 0 0] 228)
 have HT0 := uh T0
 have HS := uh (fun w' (hB : Below w.heap.size w w') => hS.below hB)
 have HL := uh hL
 clear T0 hS
 have HF := uh (fun (h : 0 < L.length) => ((HS.out w (Below.refl _ _)).form (by rw [tys_length]; omega)))
 go_enter Tryz.func47, Tryz.ntmps47
 go_wp2
 go_loopw [13] (fun v13 wr => ∃ (j : Nat) (l : List Blk), j ≤ L.length ∧ j ≤ 64 ∧ v13 = .int .i64 j ∧ TabIs w.heap.size (L.take j) l ∧ Turn [] w (l ++ []) wr ∧ ∀ t ∈ L.take j, t.may) (fun v13 _ => L.length - (intOf v13).toNat)
 case atStart => exact ⟨0, (w.heap.size, .cells #[.slice none 0 0] 228) :: [], Nat.zero_le _, by omega, by go_num, ⟨none, 0, [], Row.nil _ _, rfl⟩, HT0.out, by simp⟩
 case round =>
  clear HT0
  obtain ⟨j, l, hj, h64, rfl, hI, T, hmay⟩ := hrel
  by_cases hlt : j < L.length
  · have hlt' : (j : Int) < (L.length : Int) := by omega
    obtain ⟨t, ht⟩ : ∃ t, L[j]? = some t := ⟨L[j], List.getElem?_eq_getElem hlt⟩
    have htm : t ∈ L := List.mem_of_getElem? ht
    have hti := hTy t htm
    obtain ⟨b, off, rfl, -⟩ := HF.out (by omega)
    have hrg := (HS.out wr T.below).ty ht
    have htk : L.take (j + 1) = L.take j ++ [t] := by rw [List.take_add_one, ht]; rfl
    have hlj : (L.take j).length = j := by rw [List.length_take]; omega
    have T1 := T.alloc (.cells #[.int .u8 0, .int .i64 0, .int .u64 0] 49)
    have hth : (wr.alloc (.cells #[.int .u8 0, .int .i64 0, .int .u64 0] 49)).there wr.heap.size 0 3 := T1.there1
    have T2 := T1.laid (tyCells t) rfl
    have hr6 := T2.range1
    have T3 := T2.perm (l2 := l ++ [(wr.heap.size, .cells (tyCells t).toArray 49)]) (perm_of fun c => by simp; omega)
    have hoT := ty_one t
    obtain ⟨k, m, mk⟩ := t
    by_cases hm : (Ty.mk k m mk).may ∧ j < 64
    · have HA := uh (tadd _ hI T3 _ hti hm.1 (by omega))
      rw [hlj, ← htk] at HA
      have hm' : ∀ t ∈ L.take (j + 1), t.may := by
       rw [htk]
       intro t ht
       rcases List.mem_append.1 ht with h | h
       · exact hmay t h
       · rw [List.mem_singleton.1 h]; exact hm.1
      have hj64 := hm.2
      have Hm' := uh hm'
      clear T T1 T2 T3 hI hm hm' htk hlj hti htm ht hmay hTy
      go_wp2_with (first
       | (show wpList _ _ _ (⟨_, Op.load 49 (.tmp 15), _, _, _, _⟩ :: _) _ _; refine wpList_load_mid rfl 49 _ rfl b (off + j * 3) rfl [.int .u8 k, .int .i64 m, .int .u64 mk] _ hrg Tryz.underlying49 rfl hszT ?_; clear hrg)
       | (show wpList _ _ _ (⟨_, Op.store 49 _ _, _, _, _, _⟩ :: _) _ _; refine wpList_store_mid rfl 49 _ _ rfl _ 0 #[.int .u8 k, .int .i64 m, .int .u64 mk] rfl rfl hth hszT hoT ?_; clear hth)
       | (show wpList _ _ _ (⟨_, Op.load 49 (.tmp 6), _, _, _, _⟩ :: _) _ _; refine wpList_load_mid rfl 49 _ rfl wr.heap.size 0 rfl [.int .u8 k, .int .i64 m, .int .u64 mk] _ hr6 Tryz.underlying49 rfl hszT ?_; clear hr6)
       | (go_at_call 124; refine HA.out.mono ?_; rintro e w2 ⟨rfl, l2, hI2, hT2⟩; have HT2 := uh hT2; have HI2 := uh hI2; clear hT2 hI2)
       | fail)
      go_roundw
      case rel => exact ⟨j + 1, l2, by omega, by omega, by go_num, HI2.out, HT2.out.sub (List.sublist_append_left l2 _) |>.perm (by simp), Hm'.out⟩
      case measure => simp [intOf]; omega
    · have HA := uh (tadd_no _ hI T3 (by omega) _ hti (by rw [hlj]; exact hm))
      have HN2 := uh (HN.out (fun h => hm ⟨h.1 _ htm, by omega⟩))
      clear T T1 T2 T3 hI hm htk hlj hti htm ht hmay hTy HY HN
      go_wp2_with (first
       | (show wpList _ _ _ (⟨_, Op.load 49 (.tmp 15), _, _, _, _⟩ :: _) _ _; refine wpList_load_mid rfl 49 _ rfl b (off + j * 3) rfl [.int .u8 k, .int .i64 m, .int .u64 mk] _ hrg Tryz.underlying49 rfl hszT ?_; clear hrg)
       | (show wpList _ _ _ (⟨_, Op.store 49 _ _, _, _, _, _⟩ :: _) _ _; refine wpList_store_mid rfl 49 _ _ rfl _ 0 #[.int .u8 k, .int .i64 m, .int .u64 mk] rfl rfl hth hszT hoT ?_; clear hth)
       | (show wpList _ _ _ (⟨_, Op.load 49 (.tmp 6), _, _, _, _⟩ :: _) _ _; refine wpList_load_mid rfl 49 _ rfl wr.heap.size 0 rfl [.int .u8 k, .int .i64 m, .int .u64 mk] _ hr6 Tryz.underlying49 rfl hszT ?_; clear hr6)
       | (go_at_call 124; refine HA.out.mono ?_; rintro e w2 ⟨er, rfl, her, hT2⟩; have HT2 := uh hT2; clear hT2; have her2 : (er != 0) = true := by rw [bne_iff_ne]; exact her)
       | fail)
      exact HN2.out er _ her (Turn.below HT2.out)
  · obtain rfl : j = L.length := by omega
    rw [List.take_length] at hI hmay
    have HY2 := uh (HY.out ⟨hmay, h64⟩ wr l hI (by rw [List.append_nil] at T; exact T))
    clear T hI hmay HY HN hTy
    go_wp2
    exact HY2.out
end
section
open Go Go.RowKit Go.Shelf Go.IntWalk
set_option maxRecDepth 100000 in
theorem snew_no (w : World) (tb : Nat) (n : Int) (h : ¬ mayWords n) :
  Calls Tryz.prog 48 #[.int .i64 n, .pointer (some ⟨tb, 0, none⟩)] w fun e w' => e = .returned (.tuple #[.pointer none, .int .i64 2]) ∧ w' = w := by
 have Ha := uh (anew_no w n h)
 clear h
 go_enter Tryz.func48, Tryz.ntmps48
 go_wp2_with fail
 refine Ha.out.mono ?_
 rintro e w1 ⟨rfl, hw⟩
 subst hw
 go_wp2_with fail
 refine bodyPost_ret (results_tmp2 rfl _ _ _) rfl ?_
 exact ⟨rfl, rfl⟩
theorem TabIs.tab {w : World} {tb : Nat} {L : List Ty} {l R : List Blk} (h : TabIs tb L l) (hH : Has w (l ++ R)) : ∃ ao cap, TabAt w tb ao cap L := by
 obtain ⟨ao, cap, lr, hr, rfl⟩ := h
 exact ⟨ao, cap, hH.cell (b := tb) (c := #[.slice ao L.length cap]) (e := 228) (f := (0, 0)) (by simp) 0, hr.src (R := (tb, .cells #[.slice ao L.length cap] 228) :: R) (hH.perm (perm_of fun c => by simp; omega))⟩
theorem results_tmp3 {fn : Func} {p q r : Tmp} (h : fn.results = #[.tmp p, .tmp q, .tmp r]) (P : Program) (tmps : Array Value) (w : World) : (results fn tmps).run P w = .ok (.tuple #[tmps.getD p undef, tmps.getD q undef, tmps.getD r undef]) w := by
 simp [results, h]
set_option maxRecDepth 100000 in
theorem made_types (w : World) (L : List Ty) (lao : Option Addr) (lcap : Nat) (hS : Src w lao L.length lcap 3 (tys L)) (hTy : ∀ t ∈ L, TyIn t) (hL : L.length ≤ 1000) (hno : ¬ ((∀ t ∈ L, t.may) ∧ L.length ≤ 64)) (n : Int) :
  Calls Tryz.prog 54 #[.int .i64 n, .slice lao L.length lcap] w fun e w' => e = .returned (.tuple #[.pointer none, .pointer none, .bool true]) ∧ Below w.heap.size w w' := by
 have HS := uh hS
 clear hS
 go_enter Tryz.func54, Tryz.ntmps54
 go_wp2_with fail
 refine tnew w L lao lcap HS.out hTy hL _ (uh (fun h => absurd h hno)) (uh (fun _ er w1 hne hB => ?_))
 have ke : (er != 0) = true := by rw [bne_iff_ne]; exact hne
 clear hne hno HS hTy
 go_wp2_with fail
 refine bodyPost_ret (results_tmp3 rfl _ _ _) rfl ?_
 exact ⟨rfl, hB⟩
set_option maxRecDepth 100000 in
theorem made_few (w : World) (L : List Ty) (lao : Option Addr) (lcap : Nat) (hS : Src w lao L.length lcap 3 (tys L)) (hTy : ∀ t ∈ L, TyIn t) (hL : L.length ≤ 1000) (hok : (∀ t ∈ L, t.may) ∧ L.length ≤ 64) (n : Int) (hn : ¬ mayWords n) :
  Calls Tryz.prog 54 #[.int .i64 n, .slice lao L.length lcap] w fun e w' => e = .returned (.tuple #[.pointer none, .pointer none, .bool true]) ∧ Below w.heap.size w w' := by
 have HS := uh hS
 have HN := uh hn
 have Hno := uh (fun w' tb => snew_no w' tb n hn)
 have hcase : n < 16 ∨ (¬ n < 16 ∧ 65536 < n) ∨ (¬ n < 16 ∧ ¬ 65536 < n ∧ n % 2 ≠ 0) := by
  unfold mayWords at hn
  omega
 clear hS hn
 go_enter Tryz.func54, Tryz.ntmps54
 go_wp2_with fail
 refine tnew w L lao lcap HS.out hTy hL _ (uh (fun _ w1 lt hti T1 => ?_)) (uh (fun h => absurd hok h))
 have HB := uh T1.below
 clear T1 hti HS hTy hok
 go_wp2_with fail
 refine (Hno.out _ _).mono ?_
 rintro e w2 ⟨rfl, hw⟩
 subst hw
 rcases hcase with h | ⟨h1, h2⟩ | ⟨h1, h2, h3⟩
 case' inl => (
  have k1 : decide (n < 16) = true := decide_eq_true h
  go_wp2_with fail)
 case' inr.inl => (
  have k1 : decide (n < 16) = false := decide_eq_false (by omega)
  have k2 : decide (65536 < n) = true := decide_eq_true h2
  go_wp2_with fail)
 case' inr.inr => (
  have k1 : decide (n < 16) = false := decide_eq_false (by omega)
  have k2 : decide (65536 < n) = false := decide_eq_false (by omega)
  have k5 : n.tmod 2 = n % 2 := Int.tmod_eq_emod_of_nonneg (by omega)
  have k4 : (n % 2 != 0) = true := by rw [bne_iff_ne]; exact h3
  have k6 : ¬ n % 2 = 0 := h3
  go_wp2_with fail)
 all_goals (
  refine bodyPost_ret (results_tmp3 rfl _ _ _) rfl ?_
  exact ⟨rfl, HB.out⟩)
set_option maxRecDepth 100000 in
theorem made_ok (w : World) (hF : Fields w) (L : List Ty) (lao : Option Addr) (lcap : Nat) (hS : Src w lao L.length lcap 3 (tys L)) (hTy : ∀ t ∈ L, TyIn t) (hL : L.length ≤ 1000) (hok : (∀ t ∈ L, t.may) ∧ L.length ≤ 64) (n : Nat) (hn : mayWords n) :
  Calls Tryz.prog 54 #[.int .i64 n, .slice lao L.length lcap] w fun e w' => ∃ (sb rb tb : Nat) (w1 : World) (tao : Option Addr) (tcap : Nat) (ls lr : List Blk), e = .returned (.tuple #[.pointer (some ⟨sb, 0, none⟩), .pointer (some ⟨rb, 0, none⟩), .bool true]) ∧
   Below w.heap.size w w1 ∧ TabAt w1 tb tao tcap L ∧ SpIs sb tb (lay (List.replicate n 0) 0 (n / 2)) (List.replicate ((n / 2 + 63) / 64) 0) ls ∧ RefIs rb lao L.length lcap (lay (List.replicate n 0) 0 (n / 2)) lr ∧ Turn [] w1 (lr ++ ls) w' := by
 have HS := uh hS
 have Hn := uh hn
 have HF := uh hF
 have ⟨h1, h2, h3⟩ := hn
 clear hS hn hF
 go_enter Tryz.func54, Tryz.ntmps54
 go_wp2_with fail
 refine tnew w L lao lcap HS.out hTy hL _ (uh (fun _ w1 lt hti T1 => ?_)) (uh (fun h => absurd hok h))
 obtain ⟨tao, tcap, hTab⟩ := hti.tab (R := []) (by rw [List.append_nil]; exact T1.has)
 have HTab := uh hTab
 have HB := uh T1.below
 have Hsn := uh (snew w1 (range_below HF.out T1.below) w.heap.size n Hn.out)
 clear T1 hti HS hTy hok hTab
 go_wp2_with fail
 refine Hsn.out.mono ?_
 rintro e w2 ⟨sb, ls, rfl, hsp, T2⟩
 have HT2 := uh T2
 have HSP := uh hsp
 have Hrn := uh (rnew w2 n Hn.out lao L.length lcap)
 have k1 : decide ((n : Int) < 16) = false := decide_eq_false (by omega)
 have k2 : decide (n < 16) = false := decide_eq_false (by omega)
 have k3 : decide ((65536 : Int) < (n : Int)) = false := decide_eq_false (by omega)
 have k4 : decide (65536 < n) = false := decide_eq_false (by omega)
 have k5 : ((n : Int)).tmod 2 = 0 := by rw [Int.tmod_eq_emod_of_nonneg (by omega)]; omega
 have k6 : (n : Int) % 2 = 0 := by omega
 clear T2 hsp Hsn
 go_wp2_with fail
 refine Hrn.out.mono ?_
 rintro e w3 ⟨rb, lr, rfl, hri, T3⟩
 have HT3 := uh (HT2.out.grow T3)
 have HRI := uh hri
 obtain ⟨a, aw, bb, c, lb, hbi, hls⟩ := HSP.out
 have q0 : w3.cell? ⟨sb, 0, none⟩ = some (.pointer (some ⟨a, 0, none⟩)) := HT3.out.has.cell (b := sb) (c := #[.pointer (some ⟨a, 0, none⟩), .pointer (some ⟨w.heap.size, 0, none⟩), .pointer (some ⟨bb, 0, none⟩)]) (e := 146) (f := (0, 0)) (by rw [hls]; simp [spBlk]) 0
 have Har := uh (sarena w3 (a := ⟨a, 0, none⟩) rfl q0)
 clear T3 hri Hrn HT2 hls hbi q0
 go_wp2_with fail
 refine Har.out.mono ?_
 rintro e w4 ⟨rfl, hw⟩
 subst hw
 go_wp2_with fail
 refine bodyPost_ret (results_tmp3 rfl _ _ _) rfl ?_
 exact ⟨sb, rb, w.heap.size, w1, tao, tcap, ls, lr, rfl, HB.out, HTab.out, HSP.out, HRI.out, HT3.out⟩
end
section
open Go Go.RowKit Go.IntWalk
structure Stp where
 dk : Int
 g : Int
 id : Int
 n : Int
 w : Nat
 ats : List Int
 ao : Option Addr
 cap : Nat
def stCells (s : Stp) : List Value := [.int .i64 s.dk, .int .i64 s.g, .int .i64 s.id, .int .i64 s.n, .int .u64 s.w, .slice s.ao s.ats.length s.cap]
def sts (ss : List Stp) : List Value := ss.flatMap stCells
theorem sts_get {ss : List Stp} {i : Nat} {s : Stp} (hi : ss[i]? = some s) {j : Nat} (hj : j < 6) : (sts ss)[i * 6 + j]? = (stCells s)[j]? := by
 induction ss generalizing i with
 | nil => cases hi
 | cons a l ih =>
  show (stCells a ++ sts l)[i * 6 + j]? = _
  cases i with
  | zero =>
   have : a = s := by simpa using hi
   subst this
   rw [Nat.zero_mul, Nat.zero_add, List.getElem?_append_left (by exact hj)]
  | succ i =>
   rw [show (i + 1) * 6 + j = 6 + (i * 6 + j) by omega, List.getElem?_append_right (by show 6 ≤ _; omega)]
   rw [show 6 + (i * 6 + j) - (stCells a).length = i * 6 + j from Nat.add_sub_cancel_left ..]
   exact ih (by simpa using hi)
theorem sts_length (ss : List Stp) : (sts ss).length = ss.length * 6 := by
 induction ss with
 | nil => rfl
 | cons a l ih =>
  show (stCells a ++ sts l).length = _
  rw [List.length_append, ih, List.length_cons]
  simp [stCells]
  omega
theorem Src.st {w : World} {b off n cap : Nat} {ss : List Stp} (h : Src w (some ⟨b, off, none⟩) n cap 6 (sts ss)) {i : Nat} {s : Stp} (hi : ss[i]? = some s) : w.rangeAt b (off + i * 6) (stCells s) := by
 intro j v hv
 have hj : j < 6 := (List.getElem?_eq_some_iff.1 hv).1
 have h1 := h.at_ _ rfl (i * 6 + j) v (by rw [sts_get hi hj]; exact hv)
 rw [add_lit] at h1
 rw [Nat.add_assoc]
 exact h1
def lens (ss : List Stp) : Nat := (ss.map fun s => s.ats.length).sum
theorem lens_next {ss : List Stp} {i : Nat} {s : Stp} (h : ss[i]? = some s) : lens (ss.take (i + 1)) = lens (ss.take i) + s.ats.length := by
 rw [List.take_add_one, h]
 simp [lens]
theorem lens_le {N : Nat} {ss : List Stp} (h : ∀ s ∈ ss, s.ats.length ≤ N) : ∀ i, lens (ss.take i) ≤ i * N
 | 0 => by simp [lens]
 | i + 1 => by
  have h2 := lens_le h i
  rw [Nat.succ_mul]
  cases hs : ss[i]? with
  | none =>
   have h1 : ss.take (i + 1) = ss.take i := by rw [List.take_add_one, hs, Option.toList_none, List.append_nil]
   rw [h1]
   omega
  | some s =>
   rw [lens_next hs]
   have := h s (List.mem_of_getElem? hs)
   omega
def heavy (words : Int) (nl : Nat) (ss : List Stp) : Bool := (decide (600 < words) && decide (words ≤ 65536)) || decide (70 < nl) || decide (60 < ss.length) || decide (300 < lens (ss.take 100))
set_option maxRecDepth 100000 in
set_option maxHeartbeats 1600000 in
theorem heavy9 (w : World) (words : Int) (lao : Option Addr) (nl lcap : Nat) (sao : Option Addr) (scap : Nat) (ss : List Stp) (hS : Src w sao ss.length scap 6 (sts ss)) (hnl : nl ≤ maxLen) (hsl : ss.length ≤ maxLen) (hat : ∀ s ∈ ss, s.ats.length ≤ 17592186044416) :
  Calls Tryz.prog 8 #[.int .i64 words, .slice lao nl lcap, .slice sao ss.length scap] w fun e w' => e = .returned (.bool (heavy words nl ss)) ∧ w' = w := by
 have HF := uh (fun (h : 0 < ss.length) => hS.form (by rw [sts_length]; omega))
 have HS := uh hS
 have Hle := uh (lens_le hat)
 unfold maxLen at hnl hsl
 clear hS
 go_enter Tryz.func8, Tryz.ntmps8
 go_wp2_with fail
 go_loopw [7, 8] (fun v7 v8 wr => ∃ i : Nat, i ≤ ss.length ∧ i ≤ 100 ∧ v8 = .int .i64 i ∧ v7 = .int .i64 (lens (ss.take i) : Nat) ∧ wr = w) (fun _ v8 _ => ss.length - (intOf v8).toNat)
 case atStart => exact ⟨0, Nat.zero_le _, Nat.zero_le _, by go_num, by simp [lens], rfl⟩
 case round =>
  obtain ⟨i, hi, hi2, rfl, rfl, rfl⟩ := hrel
  have hb := Hle.out i
  by_cases hlt : i < ss.length ∧ i < 100
  · have hlt' : (i : Int) < (ss.length : Int) := by omega
    have hlt2 : (i : Int) < 100 := by omega
    obtain ⟨s, hs⟩ : ∃ s, ss[i]? = some s := ⟨ss[i]'(by omega), List.getElem?_eq_getElem _⟩
    obtain ⟨b, off, rfl, -⟩ := HF.out (by omega)
    have q5 : wr.cell? ⟨b, off + i * 6 + 5, none⟩ = some (.slice s.ao s.ats.length s.cap) := (HS.out.st hs) 5 _ rfl
    have Hn := uh (lens_next hs)
    have hsa := hat s (List.mem_of_getElem? hs)
    generalize lens (ss.take i) = x at *
    clear hs
    go_wp2_with fail
    go_roundw
    case rel => exact ⟨i + 1, by omega, by omega, by go_num, by rw [Hn.out]; go_num, trivial⟩
    case measure => simp [intOf]; omega
  · have hx : ss.take i = ss.take 100 := by
      by_cases h : i < ss.length
      · rw [show i = 100 by omega]
      · rw [List.take_of_length_le (by omega), List.take_of_length_le (by omega)]
    have hres : heavy words nl ss = ((decide (600 < words) && decide (words ≤ 65536)) || decide (70 < nl) || decide (60 < ss.length) || decide (300 < lens (ss.take i))) := by rw [hx]; rfl
    have Hres := uh hres
    clear hres hx
    generalize lens (ss.take i) = x at *
    have hexit : ¬ ((i : Int) < (ss.length : Int)) ∨ ((i : Int) < (ss.length : Int) ∧ ¬ (i : Int) < 100) := by omega
    clear hlt HS HF hat Hle
    rcases hexit with x1 | ⟨x1, x2⟩
    all_goals (
     by_cases c1 : 600 < words
     · by_cases c2 : words ≤ 65536
       · skip
         have k1 : decide (600 < words) = true := decide_eq_true c1
         have k2 : decide (words ≤ 65536) = true := decide_eq_true c2
         go_wp2_with fail
         go_ret
         exact ⟨by rw [Hres.out]; simp [*], rfl⟩
       by_cases c3 : 70 < nl
       · skip
         have k1 : decide (600 < words) = true := decide_eq_true c1
         have k2 : decide (words ≤ 65536) = false := decide_eq_false c2
         have k3 : decide (70 < (nl : Int)) = true := decide_eq_true (by omega)
         have k3n : decide (70 < nl) = true := decide_eq_true c3
         go_wp2_with fail
         go_ret
         exact ⟨by rw [Hres.out]; simp [*], rfl⟩
       by_cases c4 : 60 < ss.length
       · skip
         have k1 : decide (600 < words) = true := decide_eq_true c1
         have k2 : decide (words ≤ 65536) = false := decide_eq_false c2
         have k3 : decide (70 < (nl : Int)) = false := decide_eq_false (by omega)
         have k3n : decide (70 < nl) = false := decide_eq_false c3
         have k4 : decide (60 < (ss.length : Int)) = true := decide_eq_true (by omega)
         have k4n : decide (60 < ss.length) = true := decide_eq_true c4
         go_wp2_with fail
         go_ret
         exact ⟨by rw [Hres.out]; simp [*], rfl⟩
       by_cases c5 : 300 < x
       · skip
         have k1 : decide (600 < words) = true := decide_eq_true c1
         have k2 : decide (words ≤ 65536) = false := decide_eq_false c2
         have k3 : decide (70 < (nl : Int)) = false := decide_eq_false (by omega)
         have k3n : decide (70 < nl) = false := decide_eq_false c3
         have k4 : decide (60 < (ss.length : Int)) = false := decide_eq_false (by omega)
         have k4n : decide (60 < ss.length) = false := decide_eq_false c4
         have k5 : decide (300 < (x : Int)) = true := decide_eq_true (by omega)
         have k5n : decide (300 < x) = true := decide_eq_true c5
         go_wp2_with fail
         go_ret
         exact ⟨by rw [Hres.out]; simp [*], rfl⟩
       have k1 : decide (600 < words) = true := decide_eq_true c1
       have k2 : decide (words ≤ 65536) = false := decide_eq_false c2
       have k3 : decide (70 < (nl : Int)) = false := decide_eq_false (by omega)
       have k3n : decide (70 < nl) = false := decide_eq_false c3
       have k4 : decide (60 < (ss.length : Int)) = false := decide_eq_false (by omega)
       have k4n : decide (60 < ss.length) = false := decide_eq_false c4
       have k5 : decide (300 < (x : Int)) = false := decide_eq_false (by omega)
       have k5n : decide (300 < x) = false := decide_eq_false c5
       go_wp2_with fail
       go_ret
       exact ⟨by rw [Hres.out]; simp [*], rfl⟩
     by_cases c3 : 70 < nl
     · skip
       have k1 : decide (600 < words) = false := decide_eq_false c1
       have k3 : decide (70 < (nl : Int)) = true := decide_eq_true (by omega)
       have k3n : decide (70 < nl) = true := decide_eq_true c3
       go_wp2_with fail
       go_ret
       exact ⟨by rw [Hres.out]; simp [*], rfl⟩
     by_cases c4 : 60 < ss.length
     · skip
       have k1 : decide (600 < words) = false := decide_eq_false c1
       have k3 : decide (70 < (nl : Int)) = false := decide_eq_false (by omega)
       have k3n : decide (70 < nl) = false := decide_eq_false c3
       have k4 : decide (60 < (ss.length : Int)) = true := decide_eq_true (by omega)
       have k4n : decide (60 < ss.length) = true := decide_eq_true c4
       go_wp2_with fail
       go_ret
       exact ⟨by rw [Hres.out]; simp [*], rfl⟩
     by_cases c5 : 300 < x
     · skip
       have k1 : decide (600 < words) = false := decide_eq_false c1
       have k3 : decide (70 < (nl : Int)) = false := decide_eq_false (by omega)
       have k3n : decide (70 < nl) = false := decide_eq_false c3
       have k4 : decide (60 < (ss.length : Int)) = false := decide_eq_false (by omega)
       have k4n : decide (60 < ss.length) = false := decide_eq_false c4
       have k5 : decide (300 < (x : Int)) = true := decide_eq_true (by omega)
       have k5n : decide (300 < x) = true := decide_eq_true c5
       go_wp2_with fail
       go_ret
       exact ⟨by rw [Hres.out]; simp [*], rfl⟩
     have k1 : decide (600 < words) = false := decide_eq_false c1
     have k3 : decide (70 < (nl : Int)) = false := decide_eq_false (by omega)
     have k3n : decide (70 < nl) = false := decide_eq_false c3
     have k4 : decide (60 < (ss.length : Int)) = false := decide_eq_false (by omega)
     have k4n : decide (60 < ss.length) = false := decide_eq_false c4
     have k5 : decide (300 < (x : Int)) = false := decide_eq_false (by omega)
     have k5n : decide (300 < x) = false := decide_eq_false c5
     go_wp2_with fail
     go_ret
     exact ⟨by rw [Hres.out]; simp [*], rfl⟩)
end
section
structure Pl (L : List Ty) (W B : List Nat) (cs : List Ce) : Prop where
 good : Good L W cs
 touch : noTouch cs
 bl : B.length = (W.length / 2 + 63) / 64
 bu : u64ok B
 bits : bitsOf B (W.length / 2) (objs cs)
theorem bitAt_zeros (n i : Nat) : bitAt (List.replicate n 0) i = false := by
 unfold bitAt
 rw [List.getD_eq_getElem?_getD]
 cases h : (List.replicate n 0)[i / 64]? with
 | none => simp
 | some v =>
  rw [List.eq_of_mem_replicate (List.mem_of_getElem? h)]
  simp
theorem objs_gap (g n : Nat) : objs [(g, gapHd n)] = [] := by
 unfold objs
 rw [List.filter_cons_of_neg (by rw [isObj_iff]; exact gapHd_tag n)]
 rfl
theorem Pl.new {L : List Ty} {n : Nat} (h1 : ∀ t ∈ L, t.may) (h2 : L.length ≤ 64) (h3 : n ≤ 600) (h4 : 16 ≤ n) (h5 : n % 2 = 0) : Pl L (lay (List.replicate n 0) 0 (n / 2)) (List.replicate ((n / 2 + 63) / 64) 0) [(0, gapHd (n / 2))] := by
 have hl : (lay (List.replicate n 0) 0 (n / 2)).length = n := by rw [lay_len, List.length_replicate]
 refine ⟨.new h1 h2 h3 h4 h5, trivial, by rw [hl, List.length_replicate], fun v hv => by rw [List.eq_of_mem_replicate hv]; omega, fun i _ => ?_⟩
 rw [bitAt_zeros, objs_gap]
 simp
theorem Pl.put {L : List Ty} {W B B' : List Nat} {a b : List Ce} {c : Ce} (h : Pl L W B (a ++ c :: b)) {g : Nat} {hd : Hd} (hf : fits L hd) (hh : hd.tag = 1) (ht : takes c g hd.size) (hs : SetIn B B' g 1) : Pl L (putW W c g hd) B' (a ++ putC c g hd ++ b) := by
 obtain ⟨h1, h2, -, h4⟩ := ht
 refine ⟨h.good.put hf h2 h4, h.touch.put h1 hh, by rw [hs.1, h.bl, putW_len], hs.2.1, fun i hi => ?_⟩
 rw [putW_len] at hi
 have ho : objs (a ++ c :: b) = objs a ++ objs b := by
  rw [objs_append]
  congr 1
  unfold objs
  rw [List.filter_cons_of_neg (by rw [isObj_iff]; exact h1)]
 have hb := h.bits i hi
 rw [ho] at hb
 rw [objs_put hh, hs.2.2 i, Bool.or_eq_true, hb, Bool.and_eq_true, decide_eq_true_eq, decide_eq_true_eq]
 constructor
 · rintro (⟨d, hd, he⟩ | h1)
   · refine ⟨d, ?_, he⟩
     simp only [List.mem_append, List.mem_cons] at hd ⊢
     rcases hd with hd | hd
     · exact .inl hd
     · exact .inr (.inr hd)
   · exact ⟨(g, hd), by simp, by show g = i; omega⟩
 · rintro ⟨d, hd, he⟩
   simp only [List.mem_append, List.mem_cons] at hd
   rcases hd with hd | rfl | hd
   · exact .inl ⟨d, by simp [hd], he⟩
   · exact .inr (by simp only at he; omega)
   · exact .inl ⟨d, by simp [hd], he⟩
theorem mem_objs {cs : List Ce} {d : Ce} (h : d ∈ cs) (ht : d.2.tag = 1) : d ∈ objs cs := by
 unfold objs
 rw [List.mem_filter, isObj_iff]
 exact ⟨h, ht⟩
theorem Pl.drop {L : List Ty} {W B B' : List Nat} {pre post : List Ce} {c : Ce} (h : Pl L W B (pre ++ c :: post)) (ht : c.2.tag = 1) (hs : ClrIn B B' c.1 1) : ∃ cs', Pl L (dropW W pre c post) B' cs' ∧ objs cs' = objs pre ++ objs post := by
 obtain ⟨cs', h1, h2, h3⟩ := h.good.drop_all h.touch
 have hl : (dropW W pre c post).length = W.length := by unfold dropW; rw [lay_len]
 refine ⟨cs', ⟨h1, h2, by rw [hs.1, h.bl, hl], hs.2.1, fun i hi => ?_⟩, h3⟩
 rw [hl] at hi
 obtain ⟨ch1, hst, ch2⟩ := h.good.chain.split
 have hpos := hst.pos
 have hno : ∀ d ∈ objs pre ++ objs post, d.1 ≠ c.1 := by
  intro d hd
  rcases List.mem_append.1 hd with hd | hd
  · have h5 := ch1.mem d (objs_mem hd).1
    have := h5.2.2.pos
    omega
  · have h5 := ch2.mem d (objs_mem hd).1
    omega
 have ho : objs (pre ++ c :: post) = objs pre ++ c :: objs post := by
  rw [objs_append]
  congr 1
  unfold objs
  rw [List.filter_cons_of_pos (by rw [isObj_iff]; exact ht)]
 have hb := h.bits i hi
 rw [ho] at hb
 rw [h3, hs.2.2 i, Bool.and_eq_true, hb, Bool.not_eq_true', Bool.and_eq_false_iff, decide_eq_false_iff_not, decide_eq_false_iff_not]
 constructor
 · rintro ⟨⟨d, hd, he⟩, hx⟩
   refine ⟨d, ?_, he⟩
   simp only [List.mem_append, List.mem_cons] at hd ⊢
   rcases hd with hd | rfl | hd
   · exact .inl hd
   · omega
   · exact .inr hd
 · rintro ⟨d, hd, he⟩
   have := hno d hd
   refine ⟨⟨d, ?_, he⟩, by omega⟩
   simp only [List.mem_append, List.mem_cons] at hd ⊢
   rcases hd with hd | hd
   · exact .inl hd
   · exact .inr (.inr hd)
theorem rises_tags {L : List Ty} {W : List Nat} : ∀ {os : List Ce} {e : Nat}, rises L W e os → ∀ c ∈ os, c.2.tag = 1
 | d :: os, e, h, c, hc => by
  rcases List.mem_cons.1 hc with rfl | hc
  · exact h.2.2.1
  · exact rises_tags h.2.2.2 c hc
theorem Pl.settle {L : List Ty} {W B B' : List Nat} {cs : List Ce} (h : Pl L W B cs) {os : List Ce} (hr : rises L W 0 os) (hl : B'.length = B.length) (hu : u64ok B') (hb : bitsOf B' (W.length / 2) os) : Pl L (settleW (W.length / 2) W os 0) B' (settleC (W.length / 2) os 0) := by
 have ht := rises_tags hr
 refine ⟨h.good.settle hr, noTouch_settleC _ _ _ ht, by rw [hl, h.bl, settleW_len], hu, ?_⟩
 rw [settleW_len, objs_settleC _ _ _ ht]
 exact hb
theorem Pl.slot {L : List Ty} {W B : List Nat} {cs : List Ce} (h : Pl L W B cs) {c : Ce} (hc : c ∈ cs) {j v : Nat} (h1 : 2 * c.1 < j) (h2 : j < 2 * (c.1 + c.2.size)) (hv : v < 18446744073709551616) : Pl L (W.set j v) B cs :=
 ⟨h.good.slot hc h1 h2 hv, h.touch, by rw [List.length_set]; exact h.bl, h.bu, by rw [List.length_set]; exact h.bits⟩
theorem Pl.bit {L : List Ty} {W B : List Nat} {cs : List Ce} (h : Pl L W B cs) {g : Nat} (hg : g < W.length / 2) (hb : bitAt B g = true) : ∃ c ∈ cs, c.1 = g ∧ c.2.tag = 1 := by
 obtain ⟨c, hc, he⟩ := (h.bits g hg).1 hb
 exact ⟨c, (objs_mem hc).1, he, (objs_mem hc).2⟩
theorem Pl.bit_of {L : List Ty} {W B : List Nat} {cs : List Ce} (h : Pl L W B cs) {c : Ce} (hc : c ∈ cs) (ht : c.2.tag = 1) : bitAt B c.1 = true := by
 have h1 := h.good.chain.mem c hc
 have := h1.2.2.pos
 exact (h.bits c.1 (by omega)).2 ⟨c, mem_objs hc ht, rfl⟩
theorem stands_slots {L : List Ty} {W : List Nat} {g : Nat} {h : Hd} (hs : stands L W g h) (ht : h.tag = 1) : (tyAt L h.typ).slots h.len + 1 ≤ 2 * h.size ∧ 2 * h.size ≤ (tyAt L h.typ).slots h.len + 2 := by
 have h1 := (fit_iff L h).2 hs.2.1
 unfold fitErr at h1
 rw [if_neg (by simpa using hs.2.1.1), if_neg (by simpa using ht)] at h1
 have h2 : tyErr L h.typ h.len = 0 ∧ tySize L h.typ h.len = h.size := by
  by_cases h9 : tyErr L h.typ h.len = 0 ∧ tySize L h.typ h.len = h.size
  · exact h9
  · rw [if_neg h9] at h1; exact absurd h1 (by decide)
 unfold tyErr tySize at h2
 unfold tyAt
 cases hg : getTy L h.typ with
 | none => rw [hg] at h2; exact absurd h2.1 (by simp)
 | some t =>
  rw [hg] at h2
  simp only at h2
  rw [if_pos h2.1, Int.toNat_natCast] at h2
  have := h2.2
  unfold Ty.size at this
  simp only [Option.getD_some]
  omega
end
end Go.Proofs.YtbecgkejdacidaaGreatDoor
