/-
  A part of a proof: texts packed by a program of mine (Sz6, Sz7, Sz8, Sz9, Sz10, Sz11, Sn2, Sn3, Sn4, Sz12, Sz13, Sr1, Sy14, Sr2, Sr3, Sy12, Sr4).
  Conditions: those that each theorem states.
-/
import Derived.Laws.EntriesVeiled
import Derived.Deep.RegionLaw
import Derived.Test.YtbecgkejdacidaaGreatDoorQc3
set_option maxRecDepth 100000
set_option maxHeartbeats 12800000
namespace Go.Proofs.YtbecgkejdacidaaGreatDoor
section
open Go Go.RowKit Go.Shelf Go.IntWalk
attribute [local go_sem] Oper.semAt_some
theorem Turn.unless {C C' Y : List Blk} {A B : World} (h : Turn (C ++ Y) A (C' ++ Y) B) (hH : Has A (C ++ Y)) {b : Nat} (hb : b < A.heap.size) (hn : b ∉ keys C) : B.heap[b]? = A.heap[b]? := by
 by_cases hY : b ∈ keys Y
 · obtain ⟨o, ho⟩ := mem_keys.1 hY
   exact (h.has.own b o (List.mem_append_right _ ho)).trans (hH.own b o (List.mem_append_right _ ho)).symm
 · exact h.same b hb (fun hm => by
     rw [keys_append] at hm
     exact (List.mem_append.1 hm).elim hn hY)
theorem KpC.un {n₀ Bs : Nat} {D : Nat → Prop} {C C' Y : List Blk} {A B : World} (h : Turn (C ++ Y) A (C' ++ Y) B) (hH : Has A (C ++ Y)) (hn : n₀ ≤ A.heap.size) (hB : Bs < A.heap.size) (hL : ∀ b ∈ keys C, D b) (hD : ∀ b, D b → n₀ ≤ b ∧ b ≠ Bs) : KpC n₀ Bs D A B :=
 ⟨⟨h.os, h.tape, h.output, h.size, fun b hb => h.unless hH (Nat.lt_of_lt_of_le hb hn) (fun hm => by have := (hD b (hL b hm)).1; omega)⟩,
  h.unless hH hB (fun hm => (hD Bs (hL Bs hm)).2 rfl), h.size, fun b o h1 _ h3 => (h.unless hH (lt_of_block h1) (fun hm => h3 (hL b hm))).trans h1⟩
def grC (ob fb tb : Nat) (ov : Bool) (f t : Nat) : List Blk := [(ob, .cells #[.bool ov] 4), (fb, .cells #[.int .i64 f] 3), (tb, .cells #[.int .i64 t] 3)]
theorem grBx_cells (gb ob fb tb g f t : Nat) (ov : Bool) : ∀ x ∈ grBx gb ob fb tb g ov f t, x.2.isCells = true := by
 intro x hx
 simp only [grBx, List.mem_cons, List.not_mem_nil, or_false] at hx
 rcases hx with rfl | rfl | rfl | rfl <;> rfl
theorem sdrop_in (nn : Nat) (hn : 5 ≤ nn) {w0 : World} (w : World) (sb a aw tb bb : Nat) {W B : List Nat} {lb R : List Blk} {cw : Int} (tao : Option Addr) (tcap : Nat) (L : List Ty) (hB : BitIs bb B (W.length / 2) lb) (hBu : u64ok B) (hBl : (W.length / 2 + 63) / 64 ≤ B.length) (hRc : ∀ x ∈ R, x.2.isCells = true)
  (T : Turn [] w0 (arBlks a aw W cw ++ (spBlk sb a tb bb :: lb) ++ R) w) (hTab : TabAt w0 tb tao tcap L) (hF0 : Fields w0) (hf : W.length ≤ 65536) (hu : ∀ v ∈ W, v < 18446744073709551616) (hTy : ∀ t ∈ L, TyIn t) (hL : L.length ≤ 1000)
  (P Q : List Ce) (c0 : Ce) (hC : Chain L W 0 (P ++ c0 :: Q) (W.length / 2)) (hbit : bitAt B c0.1 = true) :
  CallsIn Fence.wide nn Tryz.prog 22 #[.pointer (some ⟨sb, 0, none⟩), .int .i64 c0.1] w fun e w' => ∃ (B' : List Nat) (lb' : List Blk) (cw' : Int), e = .returned (.int .i64 0) ∧ ClrIn B B' c0.1 1 ∧ BitIs bb B' (W.length / 2) lb' ∧ Turn [] w0 (arBlks a aw (dropW W P c0 Q) cw' ++ (spBlk sb a tb bb :: lb') ++ R) w' := by
 have h1 : 1 ≤ nn := by omega
 have h2 : 1 ≤ nn - 1 - 1 := by omega
 have h3 : Fence.wide.fn 22 := trivial
 have h5 : Fence.wide.fn 65 := trivial
 have h6 : Fence.wide.fn 71 := trivial
 have h7 : Fence.wide.fn 149 := trivial
 have h8 : Fence.wide.fn 72 := trivial
 have h9 : Fence.wide.fn 68 := trivial
 have hro : Fence.wide.round = none := rfl
 have hzb : W.length / 2 ≤ 32768 := by omega
 have hst := hC.split.2.1
 have hpos := hst.pos
 have hg : c0.1 < W.length / 2 := by have := hst.2.2; omega
 have T0 := T.alloc (.cells #[.int .i64 c0.1] 3)
 have HT1 := uh (show Turn [] w0 (((w.heap.size, .cells #[.int .i64 c0.1] 3) :: lb) ++ (arBlks a aw W cw ++ (spBlk sb a tb bb :: R))) (w.alloc (.cells #[.int .i64 c0.1] 3)).drew from (T0.perm po).drew)
 have HS := uh (fun w' (lb' : List Blk) (W' : List Nat × Int) (V : Turn [] w0 (((w.heap.size, .cells #[.int .i64 c0.1] 3) :: lb') ++ (arBlks a aw W'.1 W'.2 ++ (spBlk sb a tb bb :: R))) w') => (⟨V.has.cell (b := sb) (c := #[.pointer (some ⟨a, 0, none⟩), .pointer (some ⟨tb, 0, none⟩), .pointer (some ⟨bb, 0, none⟩)]) (e := 146) (f := (0, 0)) (by simp [spBlk]) 2, V.cell1 0⟩ :
  w'.cell? ⟨sb, 2, none⟩ = some (.pointer (some ⟨bb, 0, none⟩)) ∧ w'.cell? ⟨w.heap.size, 0, none⟩ = some (.int .i64 c0.1)))
 have Hhas := uh (fun w' (X : List Blk) (V : Turn [] w0 (((w.heap.size, .cells #[.int .i64 c0.1] 3) :: lb) ++ X) w') => by
  obtain ⟨bo, cap, hA⟩ := hB.at_ (R := (w.heap.size, .cells #[.int .i64 c0.1] 3) :: X) (V.has.perm po)
  exact bhas w' bb _ B bo cap hA hBu hBl c0.1 hg (by omega))
 rw [hbit] at Hhas
 have hS1 := HS.out _ lb (W, cw) HT1.out
 have HB := uh hB
 have HC := uh hC
 have HTab := uh hTab
 have HF0 := uh hF0
 have HT := uh T
 have Hclr0 := uh (fun w' (X : List Blk) (V : Turn [] w0 (lb ++ X) w') => bclear w' bb _ c0.1 B lb X hB hBu hBl hg (by omega) V)
 clear T0 T hB hbit hC hTab hF0 hst
 refine callsIn_of_wp_marks Tryz.func22 rfl h3 ?_ hro
 simp only [Tryz.ntmps22, List.size_toArray, List.length_cons, List.length_nil, Nat.reduceAdd, Nat.reduceSub, Array.replicate_succ, Array.replicate_zero, List.push_toArray, List.append_toArray, List.nil_append, List.cons_append]
 gi_wp2_with fail
 refine wpIn_region_noPanic ?_
 refine wpIn_region_listedHI (S := fun W' => W'.cell? ⟨sb, 2, none⟩ = some (.pointer (some ⟨bb, 0, none⟩)) ∧ W'.cell? ⟨w.heap.size, 0, none⟩ = some (.int .i64 c0.1)) 7 [false, false, false, false, false, false, false] rfl rfl (by kernel_rfl) ?_
 refine tkI 0 12 hro hS1 ?_
 refine tkI 1 13 hro hS1 ?_
 refine tkI 2 14 hro hS1 ?_
 refine tkJ 3 15 hro hS1 (fun w hSw => hSw.1) ?_
 refine tkJ 4 16 hro hS1 (fun w hSw => hSw.2) ?_
 refine wpAnyHI_call (i := 5) (by kernel_rfl) rfl (fun K hK => ?_)
 go_simp
 refine (callsIn_wide.2 (Hhas.out _ _ HT1.out)).mono ?_
 rintro e w2 ⟨rfl, hB2⟩
 have HT2 := uh (HT1.out.call hB2)
 have hS2 := HS.out _ lb (W, cw) HT2.out
 refine hK.out _ _ hS2 ?_
 clear hK K
 simp only [st0, st1, st2]
 refine tkI 6 18 hro hS2 ?_
 refine wpAnyHI_done (by kernel_rfl) ?_ _
 refine NoPanic.normal ?_
 clear hS1 hS2 HT1 hB2
 have HT3 := uh HT2.out.drew
 have hS3 := HS.out _ lb (W, cw) HT3.out
 have Hclr := uh (Hclr0.out _ _ (HT3.out.perm (l2 := lb ++ ((w.heap.size, .cells #[.int .i64 c0.1] 3) :: (arBlks a aw W cw ++ (spBlk sb a tb bb :: R)))) po))
 clear HT2
 gi_wp2_with fail
 refine wpIn_region_noPanic ?_
 refine wpIn_region_listedHI (S := fun W' => W'.cell? ⟨sb, 2, none⟩ = some (.pointer (some ⟨bb, 0, none⟩)) ∧ W'.cell? ⟨w.heap.size, 0, none⟩ = some (.int .i64 c0.1)) 6 [false, false, false, false, false, false] rfl rfl (by kernel_rfl) ?_
 refine tkI 0 19 hro hS3 ?_
 refine tkI 1 20 hro hS3 ?_
 refine tkI 2 21 hro hS3 ?_
 refine tkJ 3 22 hro hS3 (fun w hSw => hSw.1) ?_
 refine tkJ 4 23 hro hS3 (fun w hSw => hSw.2) ?_
 refine wpAnyHI_call (i := 5) (by kernel_rfl) rfl (fun K hK => ?_)
 go_simp
 refine (callsIn_wide.2 Hclr.out).mono ?_
 rintro e w4 ⟨rfl, B', lb', hci, hbi, T4⟩
 have T4' := T4.perm (l2 := ((w.heap.size, .cells #[.int .i64 c0.1] 3) :: lb') ++ (arBlks a aw W cw ++ (spBlk sb a tb bb :: R))) po
 have hS4 := HS.out _ lb' (W, cw) T4'
 have HT4 := uh T4'
 refine hK.out _ _ hS4 ?_
 clear hK K
 simp only [st0, st1, st2]
 refine wpAnyHI_done (by kernel_rfl) ?_ _
 refine NoPanic.normal ?_
 clear hS3 hS4 HT3 T4 T4' Hclr
 gi_wp2_with (first
  | (gi_at_call 65; refine (scells_in (nn - 1) sb _).mono ?_; rintro e w' ⟨rfl, hw⟩; rw [hw]; clear hw w')
  | fail)
 obtain ⟨n4, hn4⟩ : ∃ n4, w4.heap.size = n4 := ⟨_, rfl⟩
 have T5 := ((((HT4.out.alloc (.cells #[.int .i64 0] 3)).alloc (.cells #[.int .i64 0] 3)).alloc (.cells #[.bool false] 4)).alloc (.cells #[.func (.func 73) #[] #[.pointer (some ⟨w.heap.size, 0, none⟩), .pointer (some ⟨w4.heap.size + 1 + 1, 0, none⟩), .pointer (some ⟨w4.heap.size, 0, none⟩), .pointer (some ⟨w4.heap.size + 1, 0, none⟩)]] 156)).alloc (.cells #[.pointer (some ⟨sb, 0, none⟩)] 26)
 have R5 := (((((Turn.refl (Has.nil w4)).alloc (.cells #[.int .i64 0] 3)).alloc (.cells #[.int .i64 0] 3)).alloc (.cells #[.bool false] 4)).alloc (.cells #[.func (.func 73) #[] #[.pointer (some ⟨w.heap.size, 0, none⟩), .pointer (some ⟨w4.heap.size + 1 + 1, 0, none⟩), .pointer (some ⟨w4.heap.size, 0, none⟩), .pointer (some ⟨w4.heap.size + 1, 0, none⟩)]] 156)).alloc (.cells #[.pointer (some ⟨sb, 0, none⟩)] 26)
 have hsz0 : (((((w4.alloc (.cells #[.int .i64 0] 3)).alloc (.cells #[.int .i64 0] 3)).alloc (.cells #[.bool false] 4)).alloc (.cells #[.func (.func 73) #[] #[.pointer (some ⟨w.heap.size, 0, none⟩), .pointer (some ⟨w4.heap.size + 1 + 1, 0, none⟩), .pointer (some ⟨w4.heap.size, 0, none⟩), .pointer (some ⟨w4.heap.size + 1, 0, none⟩)]] 156)).alloc (.cells #[.pointer (some ⟨sb, 0, none⟩)] 26)).heap.size = w4.heap.size + 5 := by simp
 simp only [World.size_alloc] at T5
 have hws : w.heap.size < w4.heap.size := HT4.out.has.lt (by simp [keys])
 have hA4 : SpAt w4 sb a aw tb W tao tcap L := by
  have T6 := HT4.out.perm (l2 := arBlks a aw W cw ++ (spBlk sb a tb bb :: ((w.heap.size, .cells #[.int .i64 c0.1] 3) :: lb' ++ R))) po
  exact ⟨T6.has.cell (b := sb) (c := #[.pointer (some ⟨a, 0, none⟩), .pointer (some ⟨tb, 0, none⟩), .pointer (some ⟨bb, 0, none⟩)]) (e := 146) (f := (0, 0)) (by simp [spBlk]) 0, T6.has.cell (b := sb) (c := #[.pointer (some ⟨a, 0, none⟩), .pointer (some ⟨tb, 0, none⟩), .pointer (some ⟨bb, 0, none⟩)]) (e := 146) (f := (0, 0)) (by simp [spBlk]) 1, arBlks_at T6.has hf, HTab.out.below T6.below, range_below HF0.out T6.below⟩
 generalize ((((w4.alloc (.cells #[.int .i64 0] 3)).alloc (.cells #[.int .i64 0] 3)).alloc (.cells #[.bool false] 4)).alloc (.cells #[.func (.func 73) #[] #[.pointer (some ⟨w.heap.size, 0, none⟩), .pointer (some ⟨w4.heap.size + 1 + 1, 0, none⟩), .pointer (some ⟨w4.heap.size, 0, none⟩), .pointer (some ⟨w4.heap.size + 1, 0, none⟩)]] 156)).alloc (.cells #[.pointer (some ⟨sb, 0, none⟩)] 26) = W0 at *
 rw [hn4] at T5 hsz0 hws ⊢
 have T8 : Turn [] w0 (grBx w.heap.size (n4 + 1 + 1) n4 (n4 + 1) c0.1 false 0 0 ++ ((n4 + 1 + 1 + 1, .cells #[.func (.func 73) #[] #[.pointer (some ⟨w.heap.size, 0, none⟩), .pointer (some ⟨n4 + 1 + 1, 0, none⟩), .pointer (some ⟨n4, 0, none⟩), .pointer (some ⟨n4 + 1, 0, none⟩)]] 156) :: (n4 + 1 + 1 + 1 + 1, .cells #[.pointer (some ⟨sb, 0, none⟩)] 26) :: (arBlks a aw W cw ++ (spBlk sb a tb bb :: lb') ++ R))) W0 := T5.perm (perm_of fun c => by simp [grBx]; omega)
 have R8 : Below w4.heap.size w4 W0 := R5.below
 have hR4 := R5.size
 rw [hn4] at hR4
 clear T5 R5
 have hsbl : sb < n4 := by rw [← hn4]; exact World.block_lt_of_cell? w4 _ hA4.c0
 have hBs : W0.heap[n4 + 1 + 1 + 1 + 1]? = some (.cells #[.pointer (some ⟨sb, 0, none⟩)] 26) := T8.has.own _ _ (by simp)
 have hXc : ∀ x ∈ (n4 + 1 + 1 + 1, .cells #[.func (.func 73) #[] #[.pointer (some ⟨w.heap.size, 0, none⟩), .pointer (some ⟨n4 + 1 + 1, 0, none⟩), .pointer (some ⟨n4, 0, none⟩), .pointer (some ⟨n4 + 1, 0, none⟩)]] 156) :: (n4 + 1 + 1 + 1 + 1, .cells #[.pointer (some ⟨sb, 0, none⟩)] 26) :: (arBlks a aw W cw ++ (spBlk sb a tb bb :: lb') ++ R), x.2.isCells = true := by
  intro y hy
  rcases List.mem_cons.1 hy with rfl | hy
  · rfl
  rcases List.mem_cons.1 hy with rfl | hy
  · rfl
  rcases List.mem_append.1 hy with hy | hy
  · rcases List.mem_append.1 hy with hy | hy
    · exact arBlks_cells _ _ _ _ y hy
    · rcases List.mem_cons.1 hy with rfl | hy
      · rfl
      · exact hbi.cells y hy
  · exact hRc y hy
 have hAc : ∀ (f t : Nat) (ov : Bool), ∀ x ∈ grBx w.heap.size (n4 + 1 + 1) n4 (n4 + 1) c0.1 ov f t ++ ((n4 + 1 + 1 + 1, .cells #[.func (.func 73) #[] #[.pointer (some ⟨w.heap.size, 0, none⟩), .pointer (some ⟨n4 + 1 + 1, 0, none⟩), .pointer (some ⟨n4, 0, none⟩), .pointer (some ⟨n4 + 1, 0, none⟩)]] 156) :: (n4 + 1 + 1 + 1 + 1, .cells #[.pointer (some ⟨sb, 0, none⟩)] 26) :: (arBlks a aw W cw ++ (spBlk sb a tb bb :: lb') ++ R)), x.2.isCells = true := fun f t ov x hx => (List.mem_append.1 hx).elim (grBx_cells _ _ _ _ _ _ _ _ x) (hXc x)
 have hw0W : w0.heap.size ≤ W0.heap.size := T8.size
 have hDD : ∀ b, (n4 ≤ b ∧ b < W0.heap.size ∧ b ≠ n4 + 1 + 1 + 1 + 1) → w4.heap.size ≤ b ∧ b ≠ n4 + 1 + 1 + 1 + 1 := fun b h => ⟨by have := h.1; omega, h.2.2⟩
 apply wpIn_rangeFunc_f (β := Nat) hro h1 (gf := 149) (lb := #[.pointer (some ⟨n4 + 1 + 1 + 1 + 1, 0, none⟩)]) rfl h7 (enters_of Tryz.func149 (by kernel_rfl) rfl)
  (scells_next (nn - 1) (by omega) w4 sb a aw tb W tao tcap L hA4 hf hu hTy hL _ HC.out (n4 + 1 + 1 + 1 + 1) (fun b => n4 ≤ b ∧ b < W0.heap.size ∧ b ≠ n4 + 1 + 1 + 1 + 1) W0 (fun b h => h.2.1) R8 hBs)
  (fun h k => h.t k) (KpC.b (by omega) (by omega)) (fun h k => h.x (by omega) (fun b hb => hb.2.1) k) (fun h k => h.p (by omega) (fun b hb => hb.2.1) k) (Below.refl _ _) (fun _ => rfl)
  (fun pre W' => ∃ f t ov, DropSt P c0 Q pre f t ov ∧ f ≤ W.length / 2 ∧ t ≤ W.length / 2 ∧ Turn [] w0 (grBx w.heap.size (n4 + 1 + 1) n4 (n4 + 1) c0.1 ov f t ++ ((n4 + 1 + 1 + 1, .cells #[.func (.func 73) #[] #[.pointer (some ⟨w.heap.size, 0, none⟩), .pointer (some ⟨n4 + 1 + 1, 0, none⟩), .pointer (some ⟨n4, 0, none⟩), .pointer (some ⟨n4 + 1, 0, none⟩)]] 156) :: (n4 + 1 + 1 + 1 + 1, .cells #[.pointer (some ⟨sb, 0, none⟩)] 26) :: (arBlks a aw W cw ++ (spBlk sb a tb bb :: lb') ++ R))) W')
  (fun c pre W' => c = .exit 0 ∧ ∃ f t ov, f = dropFrm 0 P ∧ t = dropTill (c0.1 + c0.2.size) Q ∧ Turn [] w0 (grBx w.heap.size (n4 + 1 + 1) n4 (n4 + 1) c0.1 ov f t ++ ((n4 + 1 + 1 + 1, .cells #[.func (.func 73) #[] #[.pointer (some ⟨w.heap.size, 0, none⟩), .pointer (some ⟨n4 + 1 + 1, 0, none⟩), .pointer (some ⟨n4, 0, none⟩), .pointer (some ⟨n4 + 1, 0, none⟩)]] 156) :: (n4 + 1 + 1 + 1 + 1, .cells #[.pointer (some ⟨sb, 0, none⟩)] 26) :: (arBlks a aw W cw ++ (spBlk sb a tb bb :: lb') ++ R))) W')
  (fun x nb pre W' => ∃ f t ov, DropSt P c0 Q pre f t ov ∧ f ≤ W.length / 2 ∧ t ≤ W.length / 2 ∧ Turn [] w0 ((nb, ceObj x) :: (grBx w.heap.size (n4 + 1 + 1) n4 (n4 + 1) c0.1 ov f t ++ ((n4 + 1 + 1 + 1, .cells #[.func (.func 73) #[] #[.pointer (some ⟨w.heap.size, 0, none⟩), .pointer (some ⟨n4 + 1 + 1, 0, none⟩), .pointer (some ⟨n4, 0, none⟩), .pointer (some ⟨n4 + 1, 0, none⟩)]] 156) :: (n4 + 1 + 1 + 1 + 1, .cells #[.pointer (some ⟨sb, 0, none⟩)] 26) :: (arBlks a aw W cw ++ (spBlk sb a tb bb :: lb') ++ R)))) W')
  (fun s A D row ⟨f, t, ov, e1, e2, e3, hT⟩ hg hr => ⟨f, t, ov, e1, e2, e3, hT.grownB hw0W (hAc f t ov) hg hr⟩)
  (fun c s A D row ⟨e0, f, t, ov, e1, e2, hT⟩ hg hr => ⟨e0, f, t, ov, e1, e2, hT.grownB hw0W (hAc f t ov) hg hr⟩)
  (fun x nb s A D row ⟨f, t, ov, e1, e2, e3, hT⟩ hg hr => ⟨f, t, ov, e1, e2, e3, hT.grownB hw0W (by
    intro y hy
    rcases List.mem_cons.1 hy with rfl | hy
    · rfl
    · exact hAc f t ov y hy) hg hr⟩)
  ⟨0, 0, false, DropSt.start _ _ _, Nat.zero_le _, Nat.zero_le _, T8⟩
 case hassign =>
  rintro l1 pre x W2 hnx ⟨f, t, ov, e1, e2, e3, hT⟩
  have T2 := hT.alloc (.cells #[.int .i64 0, .int .u8 0, .int .i64 0, .int .i64 0, .int .i64 0] 81)
  have hth : (W2.alloc (.cells #[.int .i64 0, .int .u8 0, .int .i64 0, .int .i64 0, .int .i64 0] 81)).there W2.heap.size 0 5 := T2.there1
  have HT2 := uh (T2.laid [.int .i64 x.1, .int .u8 x.2.tag, .int .i64 x.2.typ, .int .i64 x.2.len, .int .i64 x.2.size] rfl)
  have HX := uh (((Turn.refl (Has.nil W2)).alloc (.cells #[.int .i64 0, .int .u8 0, .int .i64 0, .int .i64 0, .int .i64 0] 81)).laid [.int .i64 x.1, .int .u8 x.2.tag, .int .i64 x.2.typ, .int .i64 x.2.len, .int .i64 x.2.size] rfl)
  have hszC := sz_cell
  have hoC := ce_one x
  have hB9 : n4 + 1 + 1 + 1 + 1 < W2.heap.size := hT.has.lt (by simp [keys])
  unfold ceArgs
  clear T2 hnx hT
  gi_wp2_with (first
   | (show wpListIn _ _ _ _ _ (⟨_, Op.store 81 _ _, _, _, _, _⟩ :: _) _ _; refine wpListIn_by (follows_round _ _ _) rfl (by intro c h; cases h) (wp_store_mid 81 _ _ rfl _ 0 #[.int .i64 x.1, .int .u8 x.2.tag, .int .i64 x.2.typ, .int .i64 x.2.len, .int .i64 x.2.size] rfl rfl hth hszC hoC ?_); clear hth)
   | fail)
  have HK := uh (⟨((KeepsOthers.alloc _ _).trans (keepsOthers_setCells _ _ _)).from _, KpC.of HX.out (by omega) hB9 (fun b hb => by cases hb) hDD⟩ :
   KeepsFrom W0.heap.size W2 ((W2.alloc (.cells #[.int .i64 0, .int .u8 0, .int .i64 0, .int .i64 0, .int .i64 0] 81)).setCells W2.heap.size 0 [.int .i64 x.1, .int .u8 x.2.tag, .int .i64 x.2.typ, .int .i64 x.2.len, .int .i64 x.2.size]) ∧
   KpC w4.heap.size (n4 + 1 + 1 + 1 + 1) (fun b => n4 ≤ b ∧ b < W0.heap.size ∧ b ≠ n4 + 1 + 1 + 1 + 1) W2 ((W2.alloc (.cells #[.int .i64 0, .int .u8 0, .int .i64 0, .int .i64 0, .int .i64 0] 81)).setCells W2.heap.size 0 [.int .i64 x.1, .int .u8 x.2.tag, .int .i64 x.2.typ, .int .i64 x.2.len, .int .i64 x.2.size]))
  clear HX hB9 hoC
  generalize (W2.alloc (.cells #[.int .i64 0, .int .u8 0, .int .i64 0, .int .i64 0, .int .i64 0] 81)).setCells W2.heap.size 0 [.int .i64 x.1, .int .u8 x.2.tag, .int .i64 x.2.typ, .int .i64 x.2.len, .int .i64 x.2.size] = W3 at *
  generalize W2.heap.size = nb at *
  exact ⟨HK.out.1, HK.out.2, nb, rfl, f, t, ov, e1, e2, e3, HT2.out⟩
 case hbody =>
  rintro l1 pre x nb W2 ⟨post, hcs⟩ ⟨f, t, ov, e1, e2, e3, hT⟩
  have hstep := e1.step HC.out hcs
  have hxm := (HC.out.mem x (by rw [hcs]; simp)).2.1
  have q0 : W2.cell? ⟨nb, 0, none⟩ = some (.int .i64 x.1) := hT.cell1 0
  have q1 : W2.cell? ⟨nb, 1, none⟩ = some (.int .u8 x.2.tag) := hT.cell1 1
  have hrg : W2.rangeAt nb 0 [.int .i64 x.1, .int .u8 x.2.tag, .int .i64 x.2.typ, .int .i64 x.2.len, .int .i64 x.2.size] := hT.range1
  have qs : W2.cell? ⟨w.heap.size, 0, none⟩ = some (.int .i64 c0.1) := hT.has.cell (b := w.heap.size) (c := #[.int .i64 c0.1]) (e := 3) (f := (0, 0)) (by simp [grBx]) 0
  have qfn : W2.cell? ⟨n4 + 1 + 1 + 1, 0, none⟩ = some (.func (.func 73) #[] #[.pointer (some ⟨w.heap.size, 0, none⟩), .pointer (some ⟨n4 + 1 + 1, 0, none⟩), .pointer (some ⟨n4, 0, none⟩), .pointer (some ⟨n4 + 1, 0, none⟩)]) := hT.has.cell (b := n4 + 1 + 1 + 1) (c := #[.func (.func 73) #[] #[.pointer (some ⟨w.heap.size, 0, none⟩), .pointer (some ⟨n4 + 1 + 1, 0, none⟩), .pointer (some ⟨n4, 0, none⟩), .pointer (some ⟨n4 + 1, 0, none⟩)]]) (e := 156) (f := (0, 0)) (by simp) 0
  have hszC := sz_cell
  rcases hstep with ⟨s1, s2, s3, s4⟩ | ⟨s1, s2⟩
  · have k1 : decide ((c0.1 : Int) < (x.1 : Int)) = true := decide_eq_true (by omega)
    have k2 : decide (c0.1 < x.1) = true := decide_eq_true s1
    have k3 : ((x.2.tag : Int) == 1) = true := by rw [beq_iff_eq]; omega
    have k4 : (x.2.tag == 1) = true := by rw [beq_iff_eq]; exact s2
    have HX := uh (⟨s3, s4, hT.tail⟩ : f = dropFrm 0 P ∧ t = dropTill (c0.1 + c0.2.size) Q ∧ Turn [] w0 (grBx w.heap.size (n4 + 1 + 1) n4 (n4 + 1) c0.1 ov f t ++ ((n4 + 1 + 1 + 1, .cells #[.func (.func 73) #[] #[.pointer (some ⟨w.heap.size, 0, none⟩), .pointer (some ⟨n4 + 1 + 1, 0, none⟩), .pointer (some ⟨n4, 0, none⟩), .pointer (some ⟨n4 + 1, 0, none⟩)]] 156) :: (n4 + 1 + 1 + 1 + 1, .cells #[.pointer (some ⟨sb, 0, none⟩)] 26) :: (arBlks a aw W cw ++ (spBlk sb a tb bb :: lb') ++ R))) W2)
    clear s1 s2 s3 s4 hT e1 hcs
    gi_wp2_with fail
    exact ⟨KeepsFrom.refl _ _, ⟨rfl, rfl, fun _ _ h _ _ => h⟩, rfl, f, t, ov, HX.out.1, HX.out.2.1, HX.out.2.2⟩
  · have hH : Has W2 (grC (n4 + 1 + 1) n4 (n4 + 1) ov f t ++ ((w.heap.size, .cells #[.int .i64 c0.1] 3) :: (nb, ceObj x) :: ((n4 + 1 + 1 + 1, .cells #[.func (.func 73) #[] #[.pointer (some ⟨w.heap.size, 0, none⟩), .pointer (some ⟨n4 + 1 + 1, 0, none⟩), .pointer (some ⟨n4, 0, none⟩), .pointer (some ⟨n4 + 1, 0, none⟩)]] 156) :: (n4 + 1 + 1 + 1 + 1, .cells #[.pointer (some ⟨sb, 0, none⟩)] 26) :: (arBlks a aw W cw ++ (spBlk sb a tb bb :: lb') ++ R)))) := hT.has.perm (perm_of fun c => by simp [grBx, grC]; omega)
    have HH := uh hH
    have TG : Turn (grC (n4 + 1 + 1) n4 (n4 + 1) ov f t ++ ((w.heap.size, .cells #[.int .i64 c0.1] 3) :: (nb, ceObj x) :: ((n4 + 1 + 1 + 1, .cells #[.func (.func 73) #[] #[.pointer (some ⟨w.heap.size, 0, none⟩), .pointer (some ⟨n4 + 1 + 1, 0, none⟩), .pointer (some ⟨n4, 0, none⟩), .pointer (some ⟨n4 + 1, 0, none⟩)]] 156) :: (n4 + 1 + 1 + 1 + 1, .cells #[.pointer (some ⟨sb, 0, none⟩)] 26) :: (arBlks a aw W cw ++ (spBlk sb a tb bb :: lb') ++ R)))) W2 (grBx w.heap.size (n4 + 1 + 1) n4 (n4 + 1) c0.1 ov f t ++ ((nb, ceObj x) :: ((n4 + 1 + 1 + 1, .cells #[.func (.func 73) #[] #[.pointer (some ⟨w.heap.size, 0, none⟩), .pointer (some ⟨n4 + 1 + 1, 0, none⟩), .pointer (some ⟨n4, 0, none⟩), .pointer (some ⟨n4 + 1, 0, none⟩)]] 156) :: (n4 + 1 + 1 + 1 + 1, .cells #[.pointer (some ⟨sb, 0, none⟩)] 26) :: (arBlks a aw W cw ++ (spBlk sb a tb bb :: lb') ++ R)))) W2 := (Turn.refl hH).perm (perm_of fun c => by simp [grBx, grC]; omega)
    have HG := uh (drop1 W2 w.heap.size (n4 + 1 + 1) n4 (n4 + 1) c0.1 f t ov x TG (by omega))
    have hb1 : (if x.2.tag = 1 ∧ x.1 ≠ c0.1 ∧ ov = false then x.1 + x.2.size else f) ≤ W.length / 2 := by split <;> omega
    have hb2 : (if x.2.tag = 1 ∧ x.1 ≠ c0.1 then t else x.1 + x.2.size) ≤ W.length / 2 := by split <;> omega
    have HS2 := uh s2
    have HTa := uh hT
    generalize (if x.2.tag = 1 ∧ x.1 ≠ c0.1 ∧ ov = false then x.1 + x.2.size else f) = f' at *
    generalize (if x.2.tag = 1 ∧ x.1 ≠ c0.1 then t else x.1 + x.2.size) = t' at *
    have hcase : (¬ c0.1 < x.1) ∨ (c0.1 < x.1 ∧ x.2.tag ≠ 1) := by
     by_cases h : c0.1 < x.1
     · exact .inr ⟨h, fun h' => s1 ⟨h, h'⟩⟩
     · exact .inl h
    clear s1 s2 hT e1 hcs hH TG
    rcases hcase with hgt | ⟨hgt, htg⟩
    case' inl => (
     have k1 : decide ((c0.1 : Int) < (x.1 : Int)) = false := decide_eq_false (by omega)
     have k2 : decide (c0.1 < x.1) = false := decide_eq_false hgt
     clear hgt
     gi_wp2_with (first
      | (show wpListIn _ _ _ _ _ (⟨_, Op.load 81 _, _, _, _, _⟩ :: _) _ _; refine wpListIn_by (follows_round _ _ _) rfl (by intro c h; cases h) (wp_load_mid 81 _ rfl nb 0 rfl [.int .i64 x.1, .int .u8 x.2.tag, .int .i64 x.2.typ, .int .i64 x.2.len, .int .i64 x.2.size] _ hrg Tryz.underlying81 rfl hszC ?_))
      | fail))
    case' inr => (
     have k1 : decide ((c0.1 : Int) < (x.1 : Int)) = true := decide_eq_true (by omega)
     have k2 : decide (c0.1 < x.1) = true := decide_eq_true hgt
     have k3 : ((x.2.tag : Int) == 1) = false := by rw [beq_eq_false_iff_ne]; omega
     have k4 : (x.2.tag == 1) = false := by rw [beq_eq_false_iff_ne]; exact htg
     clear hgt htg
     gi_wp2_with (first
      | (show wpListIn _ _ _ _ _ (⟨_, Op.load 81 _, _, _, _, _⟩ :: _) _ _; refine wpListIn_by (follows_round _ _ _) rfl (by intro c h; cases h) (wp_load_mid 81 _ rfl nb 0 rfl [.int .i64 x.1, .int .u8 x.2.tag, .int .i64 x.2.typ, .int .i64 x.2.len, .int .i64 x.2.size] _ hrg Tryz.underlying81 rfl hszC ?_))
      | fail))
    all_goals (
     refine ⟨trivial, (CallsIn.inRound _ (callsIn_wide.2 HG.out)).mono ?_⟩
     rintro e w5 ⟨⟨v, rfl⟩, T5⟩
     clear q0 qs qfn q1 hrg HG
     have q0 : w5.cell? ⟨nb, 0, none⟩ = some (.int .i64 x.1) := T5.has.cell (b := nb) (c := #[.int .i64 x.1, .int .u8 x.2.tag, .int .i64 x.2.typ, .int .i64 x.2.len, .int .i64 x.2.size]) (e := 81) (f := (0, 0)) (by simp [ceObj]) 0
     have qs : w5.cell? ⟨w.heap.size, 0, none⟩ = some (.int .i64 c0.1) := T5.has.cell (b := w.heap.size) (c := #[.int .i64 c0.1]) (e := 3) (f := (0, 0)) (by simp [grBx]) 0
     have qo : w5.cell? ⟨n4 + 1 + 1, 0, none⟩ = some (.bool ov) := T5.has.cell (b := n4 + 1 + 1) (c := #[.bool ov]) (e := 4) (f := (0, 0)) (by simp [grBx]) 0
     have fo : w5.frozen? ⟨n4 + 1 + 1, 0, none⟩ = false := T5.has.free (b := n4 + 1 + 1) (c := #[.bool ov]) (e := 4) (by simp [grBx]) 0
     have T6 := ((T5.perm (l2 := (n4 + 1 + 1, .cells #[.bool ov] 4) :: ((n4, .cells #[.int .i64 f'] 3) :: (n4 + 1, .cells #[.int .i64 t'] 3) :: ((w.heap.size, .cells #[.int .i64 c0.1] 3) :: (nb, ceObj x) :: ((n4 + 1 + 1 + 1, .cells #[.func (.func 73) #[] #[.pointer (some ⟨w.heap.size, 0, none⟩), .pointer (some ⟨n4 + 1 + 1, 0, none⟩), .pointer (some ⟨n4, 0, none⟩), .pointer (some ⟨n4 + 1, 0, none⟩)]] 156) :: (n4 + 1 + 1 + 1 + 1, .cells #[.pointer (some ⟨sb, 0, none⟩)] 26) :: (arBlks a aw W cw ++ (spBlk sb a tb bb :: lb') ++ R))))) (perm_of fun c => by simp [grBx]; omega)).setCell 0 (.bool (ov || x.1 == c0.1)))
     have HT6 : Hid (Turn (grC (n4 + 1 + 1) n4 (n4 + 1) ov f t ++ ((w.heap.size, .cells #[.int .i64 c0.1] 3) :: (nb, ceObj x) :: ((n4 + 1 + 1 + 1, .cells #[.func (.func 73) #[] #[.pointer (some ⟨w.heap.size, 0, none⟩), .pointer (some ⟨n4 + 1 + 1, 0, none⟩), .pointer (some ⟨n4, 0, none⟩), .pointer (some ⟨n4 + 1, 0, none⟩)]] 156) :: (n4 + 1 + 1 + 1 + 1, .cells #[.pointer (some ⟨sb, 0, none⟩)] 26) :: (arBlks a aw W cw ++ (spBlk sb a tb bb :: lb') ++ R)))) W2 (grC (n4 + 1 + 1) n4 (n4 + 1) (ov || x.1 == c0.1) f' t' ++ ((w.heap.size, .cells #[.int .i64 c0.1] 3) :: (nb, ceObj x) :: ((n4 + 1 + 1 + 1, .cells #[.func (.func 73) #[] #[.pointer (some ⟨w.heap.size, 0, none⟩), .pointer (some ⟨n4 + 1 + 1, 0, none⟩), .pointer (some ⟨n4, 0, none⟩), .pointer (some ⟨n4 + 1, 0, none⟩)]] 156) :: (n4 + 1 + 1 + 1 + 1, .cells #[.pointer (some ⟨sb, 0, none⟩)] 26) :: (arBlks a aw W cw ++ (spBlk sb a tb bb :: lb') ++ R)))) (w5.setCell ⟨n4 + 1 + 1, 0, none⟩ (.bool (ov || x.1 == c0.1)))) := uh T6
     have HFI := uh (⟨(Turn.keepsOthers HT6.out HH.out (fun y hy => by
       rcases List.mem_append.1 hy with hy | hy
       · exact grBx_cells w.heap.size (n4 + 1 + 1) n4 (n4 + 1) c0.1 f t ov y (by simp only [grC, List.mem_cons, List.not_mem_nil, or_false] at hy; simp only [grBx, List.mem_cons, List.not_mem_nil, or_false]; exact .inr hy)
       rcases List.mem_cons.1 hy with rfl | hy
       · rfl
       rcases List.mem_cons.1 hy with rfl | hy
       · rfl
       · exact hXc y hy)).from W0.heap.size, KpC.un HT6.out HH.out (by have := HTa.out.has.lt (b := n4) (by simp [keys, grBx]); omega) (HTa.out.has.lt (by simp [keys])) (fun b hb => by simp only [keys, grC, List.map_cons, List.map_nil, List.mem_cons, List.not_mem_nil, or_false] at hb; omega) hDD,
       ((HTa.out.perm (l2 := grC (n4 + 1 + 1) n4 (n4 + 1) ov f t ++ ((w.heap.size, .cells #[.int .i64 c0.1] 3) :: (nb, ceObj x) :: ((n4 + 1 + 1 + 1, .cells #[.func (.func 73) #[] #[.pointer (some ⟨w.heap.size, 0, none⟩), .pointer (some ⟨n4 + 1 + 1, 0, none⟩), .pointer (some ⟨n4, 0, none⟩), .pointer (some ⟨n4 + 1, 0, none⟩)]] 156) :: (n4 + 1 + 1 + 1 + 1, .cells #[.pointer (some ⟨sb, 0, none⟩)] 26) :: (arBlks a aw W cw ++ (spBlk sb a tb bb :: lb') ++ R)))) (perm_of fun c => by simp [grBx, grC]; omega)).trans HT6.out).perm (l2 := (nb, ceObj x) :: (grBx w.heap.size (n4 + 1 + 1) n4 (n4 + 1) c0.1 (ov || x.1 == c0.1) f' t' ++ ((n4 + 1 + 1 + 1, .cells #[.func (.func 73) #[] #[.pointer (some ⟨w.heap.size, 0, none⟩), .pointer (some ⟨n4 + 1 + 1, 0, none⟩), .pointer (some ⟨n4, 0, none⟩), .pointer (some ⟨n4 + 1, 0, none⟩)]] 156) :: (n4 + 1 + 1 + 1 + 1, .cells #[.pointer (some ⟨sb, 0, none⟩)] 26) :: (arBlks a aw W cw ++ (spBlk sb a tb bb :: lb') ++ R)))) (perm_of fun c => by simp [grBx, grC]; omega)⟩ :
       KeepsFrom W0.heap.size W2 (w5.setCell ⟨n4 + 1 + 1, 0, none⟩ (.bool (ov || x.1 == c0.1))) ∧ KpC w4.heap.size (n4 + 1 + 1 + 1 + 1) (fun b => n4 ≤ b ∧ b < W0.heap.size ∧ b ≠ n4 + 1 + 1 + 1 + 1) W2 (w5.setCell ⟨n4 + 1 + 1, 0, none⟩ (.bool (ov || x.1 == c0.1))) ∧ Turn [] w0 ((nb, ceObj x) :: (grBx w.heap.size (n4 + 1 + 1) n4 (n4 + 1) c0.1 (ov || x.1 == c0.1) f' t' ++ ((n4 + 1 + 1 + 1, .cells #[.func (.func 73) #[] #[.pointer (some ⟨w.heap.size, 0, none⟩), .pointer (some ⟨n4 + 1 + 1, 0, none⟩), .pointer (some ⟨n4, 0, none⟩), .pointer (some ⟨n4 + 1, 0, none⟩)]] 156) :: (n4 + 1 + 1 + 1 + 1, .cells #[.pointer (some ⟨sb, 0, none⟩)] 26) :: (arBlks a aw W cw ++ (spBlk sb a tb bb :: lb') ++ R)))) (w5.setCell ⟨n4 + 1 + 1, 0, none⟩ (.bool (ov || x.1 == c0.1))))
     clear T5 T6 HT6 HH HTa
     by_cases hov : ov = true
     · subst hov
       simp only [Bool.true_or] at HFI HS2
       gi_wp2_with fail
       exact ⟨HFI.out.1, HFI.out.2.1, f', t', true, HS2.out, hb1, hb2, HFI.out.2.2.tail⟩
     · have hov' : ov = false := by simpa using hov
       subst hov'
       clear hov
       by_cases hxe : x.1 = c0.1
       · have k8 : ((x.1 : Int) == (c0.1 : Int)) = true := by rw [beq_iff_eq]; omega
         have k9 : (x.1 == c0.1) = true := by rw [beq_iff_eq]; exact hxe
         rw [k9] at HFI HS2
         simp only [Bool.or_true] at HFI HS2
         clear hxe
         gi_wp2_with fail
         exact ⟨HFI.out.1, HFI.out.2.1, f', t', true, HS2.out, hb1, hb2, HFI.out.2.2.tail⟩
       · have k8 : ((x.1 : Int) == (c0.1 : Int)) = false := by rw [beq_eq_false_iff_ne]; omega
         have k9 : (x.1 == c0.1) = false := by rw [beq_eq_false_iff_ne]; exact hxe
         rw [k9] at HFI HS2
         simp only [Bool.or_false] at HFI HS2
         clear hxe
         gi_wp2_with fail
         exact ⟨HFI.out.1, HFI.out.2.1, f', t', false, HS2.out, hb1, hb2, HFI.out.2.2.tail⟩)
 case hdone =>
  rintro D xs W2 hD rfl ⟨f, t, ov, e1, e2, e3, hT⟩ hK
  obtain ⟨ef, et⟩ := e1.done
  obtain ⟨ya, yb, yc, yd, -, -, -, -, -, -, hx1, hx2, hx3⟩ := drop_parts HC.out
  have hle1 := hx2.le
  have hle2 := hx3.le
  have HDW := uh (show dropW W P c0 Q = lay W f (t - f) by unfold dropW; rw [← ef, ← et])
  rw [← ef, ← et] at hle1
  rw [← et] at hle2
  clear hx1 hx2 hx3 ef et
  have hT9 := hT.perm (l2 := arBlks a aw W cw ++ ((grBx w.heap.size (n4 + 1 + 1) n4 (n4 + 1) c0.1 ov f t) ++ ((n4 + 1 + 1 + 1, .cells #[.func (.func 73) #[] #[.pointer (some ⟨w.heap.size, 0, none⟩), .pointer (some ⟨n4 + 1 + 1, 0, none⟩), .pointer (some ⟨n4, 0, none⟩), .pointer (some ⟨n4 + 1, 0, none⟩)]] 156) :: (n4 + 1 + 1 + 1 + 1, .cells #[.pointer (some ⟨sb, 0, none⟩)] 26) :: (spBlk sb a tb bb :: (lb' ++ R))))) po
  have qf : W2.cell? ⟨n4, 0, none⟩ = some (.int .i64 f) := hT.has.cell (b := n4) (c := #[.int .i64 f]) (e := 3) (f := (0, 0)) (by simp [grBx]) 0
  have qt : W2.cell? ⟨n4 + 1, 0, none⟩ = some (.int .i64 t) := hT.has.cell (b := n4 + 1) (c := #[.int .i64 t]) (e := 3) (f := (0, 0)) (by simp [grBx]) 0
  have HG := uh (sgap W2 (range_below HF0.out hT9.below) (Turn.refl hT9.has) (s := sb) (tb := tb) (bb := bb) (by simp) hf f (t - f) (by omega))
  have hsub : (t : Int) - (f : Int) = ((t - f : Nat) : Int) := by omega
  have hcl : ∀ x ∈ arBlks a aw W cw ++ ((grBx w.heap.size (n4 + 1 + 1) n4 (n4 + 1) c0.1 ov f t) ++ ((n4 + 1 + 1 + 1, .cells #[.func (.func 73) #[] #[.pointer (some ⟨w.heap.size, 0, none⟩), .pointer (some ⟨n4 + 1 + 1, 0, none⟩), .pointer (some ⟨n4, 0, none⟩), .pointer (some ⟨n4 + 1, 0, none⟩)]] 156) :: (n4 + 1 + 1 + 1 + 1, .cells #[.pointer (some ⟨sb, 0, none⟩)] 26) :: (spBlk sb a tb bb :: (lb' ++ R)))), x.2.isCells = true := fun y hy => hAc f t ov y ((perm_of (l := arBlks a aw W cw ++ ((grBx w.heap.size (n4 + 1 + 1) n4 (n4 + 1) c0.1 ov f t) ++ ((n4 + 1 + 1 + 1, .cells #[.func (.func 73) #[] #[.pointer (some ⟨w.heap.size, 0, none⟩), .pointer (some ⟨n4 + 1 + 1, 0, none⟩), .pointer (some ⟨n4, 0, none⟩), .pointer (some ⟨n4 + 1, 0, none⟩)]] 156) :: (n4 + 1 + 1 + 1 + 1, .cells #[.pointer (some ⟨sb, 0, none⟩)] 26) :: (spBlk sb a tb bb :: (lb' ++ R))))) (l' := grBx w.heap.size (n4 + 1 + 1) n4 (n4 + 1) c0.1 ov f t ++ ((n4 + 1 + 1 + 1, .cells #[.func (.func 73) #[] #[.pointer (some ⟨w.heap.size, 0, none⟩), .pointer (some ⟨n4 + 1 + 1, 0, none⟩), .pointer (some ⟨n4, 0, none⟩), .pointer (some ⟨n4 + 1, 0, none⟩)]] 156) :: (n4 + 1 + 1 + 1 + 1, .cells #[.pointer (some ⟨sb, 0, none⟩)] 26) :: (arBlks a aw W cw ++ (spBlk sb a tb bb :: lb') ++ R))) (fun c => by simp; omega)).mem_iff.1 hy)
  have hDn : D ∉ keys (arBlks a aw W cw ++ ((grBx w.heap.size (n4 + 1 + 1) n4 (n4 + 1) c0.1 ov f t) ++ ((n4 + 1 + 1 + 1, .cells #[.func (.func 73) #[] #[.pointer (some ⟨w.heap.size, 0, none⟩), .pointer (some ⟨n4 + 1 + 1, 0, none⟩), .pointer (some ⟨n4, 0, none⟩), .pointer (some ⟨n4 + 1, 0, none⟩)]] 156) :: (n4 + 1 + 1 + 1 + 1, .cells #[.pointer (some ⟨sb, 0, none⟩)] 26) :: (spBlk sb a tb bb :: (lb' ++ R))))) := fun hm => by
   obtain ⟨o, ho⟩ := mem_keys.1 hm
   have h1 := hT9.has.own D o ho
   rw [hK] at h1
   cases h1
   have := hcl _ ho
   cases this
  have HT9 := uh hT9
  have HK := uh hK
  have HDn := uh hDn
  have HBC := uh (⟨hci, hbi⟩ : ClrIn B B' c0.1 1 ∧ BitIs bb B' (W.length / 2) lb')
  clear hT hT9 hK hDn hcl
  gi_wp2_with fail
  refine (callsIn_wide.2 HG.out).mono ?_
  rintro e w5 ⟨⟨u, rfl⟩, c5, T6⟩
  have hK5 := (T6.same D (lt_of_block HK.out) HDn.out).trans HK.out
  have T7 := (HT9.out.trans T6).perm (l2 := ((grBx w.heap.size (n4 + 1 + 1) n4 (n4 + 1) c0.1 ov f t) ++ [(n4 + 1 + 1 + 1, .cells #[.func (.func 73) #[] #[.pointer (some ⟨w.heap.size, 0, none⟩), .pointer (some ⟨n4 + 1 + 1, 0, none⟩), .pointer (some ⟨n4, 0, none⟩), .pointer (some ⟨n4 + 1, 0, none⟩)]] 156), (n4 + 1 + 1 + 1 + 1, .cells #[.pointer (some ⟨sb, 0, none⟩)] 26)]) ++ (arBlks a aw (lay W f (t - f)) c5 ++ (spBlk sb a tb bb :: lb') ++ R)) po
  have T8 := T7.drop.grownB (B := W0.heap.size) hw0W (fun y hy => by
   rcases List.mem_append.1 hy with hy | hy
   · rcases List.mem_append.1 hy with hy | hy
     · exact arBlks_cells _ _ _ _ y hy
     · rcases List.mem_cons.1 hy with rfl | hy
       · rfl
       · exact hbi.cells y hy
   · exact hRc y hy) (grownBy_putObj' w5 D (.deferred none)) (fun r e => by cases e; exact ⟨hD, _, hK5, rfl⟩)
  have HT8 := uh T8
  clear T6 T7 T8 HG qf qt HT9
  gi_wp2_with fail
  refine ⟨by simp, .inl ⟨_, _, rfl, run_takeDeferred hK5, ?_⟩⟩
  refine ⟨.int .i64 0, ?_, B', lb', c5, rfl, HBC.out.1, HBC.out.2, by rw [HDW.out]; exact HT8.out⟩
  simp [results, Tryz.results22, go_sem]
 case hstop =>
  rintro D c pre W2 hD ⟨rfl, f, t, ov, ef, et, hT⟩ hK
  obtain ⟨ya, yb, yc, yd, -, -, -, -, -, -, hx1, hx2, hx3⟩ := drop_parts HC.out
  have hle1 := hx2.le
  have hle2 := hx3.le
  have HDW := uh (show dropW W P c0 Q = lay W f (t - f) by unfold dropW; rw [← ef, ← et])
  rw [← ef, ← et] at hle1
  rw [← et] at hle2
  clear hx1 hx2 hx3 ef et
  have hT9 := hT.perm (l2 := arBlks a aw W cw ++ ((grBx w.heap.size (n4 + 1 + 1) n4 (n4 + 1) c0.1 ov f t) ++ ((n4 + 1 + 1 + 1, .cells #[.func (.func 73) #[] #[.pointer (some ⟨w.heap.size, 0, none⟩), .pointer (some ⟨n4 + 1 + 1, 0, none⟩), .pointer (some ⟨n4, 0, none⟩), .pointer (some ⟨n4 + 1, 0, none⟩)]] 156) :: (n4 + 1 + 1 + 1 + 1, .cells #[.pointer (some ⟨sb, 0, none⟩)] 26) :: (spBlk sb a tb bb :: (lb' ++ R))))) po
  have qf : W2.cell? ⟨n4, 0, none⟩ = some (.int .i64 f) := hT.has.cell (b := n4) (c := #[.int .i64 f]) (e := 3) (f := (0, 0)) (by simp [grBx]) 0
  have qt : W2.cell? ⟨n4 + 1, 0, none⟩ = some (.int .i64 t) := hT.has.cell (b := n4 + 1) (c := #[.int .i64 t]) (e := 3) (f := (0, 0)) (by simp [grBx]) 0
  have HG := uh (sgap W2 (range_below HF0.out hT9.below) (Turn.refl hT9.has) (s := sb) (tb := tb) (bb := bb) (by simp) hf f (t - f) (by omega))
  have hsub : (t : Int) - (f : Int) = ((t - f : Nat) : Int) := by omega
  have hcl : ∀ x ∈ arBlks a aw W cw ++ ((grBx w.heap.size (n4 + 1 + 1) n4 (n4 + 1) c0.1 ov f t) ++ ((n4 + 1 + 1 + 1, .cells #[.func (.func 73) #[] #[.pointer (some ⟨w.heap.size, 0, none⟩), .pointer (some ⟨n4 + 1 + 1, 0, none⟩), .pointer (some ⟨n4, 0, none⟩), .pointer (some ⟨n4 + 1, 0, none⟩)]] 156) :: (n4 + 1 + 1 + 1 + 1, .cells #[.pointer (some ⟨sb, 0, none⟩)] 26) :: (spBlk sb a tb bb :: (lb' ++ R)))), x.2.isCells = true := fun y hy => hAc f t ov y ((perm_of (l := arBlks a aw W cw ++ ((grBx w.heap.size (n4 + 1 + 1) n4 (n4 + 1) c0.1 ov f t) ++ ((n4 + 1 + 1 + 1, .cells #[.func (.func 73) #[] #[.pointer (some ⟨w.heap.size, 0, none⟩), .pointer (some ⟨n4 + 1 + 1, 0, none⟩), .pointer (some ⟨n4, 0, none⟩), .pointer (some ⟨n4 + 1, 0, none⟩)]] 156) :: (n4 + 1 + 1 + 1 + 1, .cells #[.pointer (some ⟨sb, 0, none⟩)] 26) :: (spBlk sb a tb bb :: (lb' ++ R))))) (l' := grBx w.heap.size (n4 + 1 + 1) n4 (n4 + 1) c0.1 ov f t ++ ((n4 + 1 + 1 + 1, .cells #[.func (.func 73) #[] #[.pointer (some ⟨w.heap.size, 0, none⟩), .pointer (some ⟨n4 + 1 + 1, 0, none⟩), .pointer (some ⟨n4, 0, none⟩), .pointer (some ⟨n4 + 1, 0, none⟩)]] 156) :: (n4 + 1 + 1 + 1 + 1, .cells #[.pointer (some ⟨sb, 0, none⟩)] 26) :: (arBlks a aw W cw ++ (spBlk sb a tb bb :: lb') ++ R))) (fun c => by simp; omega)).mem_iff.1 hy)
  have hDn : D ∉ keys (arBlks a aw W cw ++ ((grBx w.heap.size (n4 + 1 + 1) n4 (n4 + 1) c0.1 ov f t) ++ ((n4 + 1 + 1 + 1, .cells #[.func (.func 73) #[] #[.pointer (some ⟨w.heap.size, 0, none⟩), .pointer (some ⟨n4 + 1 + 1, 0, none⟩), .pointer (some ⟨n4, 0, none⟩), .pointer (some ⟨n4 + 1, 0, none⟩)]] 156) :: (n4 + 1 + 1 + 1 + 1, .cells #[.pointer (some ⟨sb, 0, none⟩)] 26) :: (spBlk sb a tb bb :: (lb' ++ R))))) := fun hm => by
   obtain ⟨o, ho⟩ := mem_keys.1 hm
   have h1 := hT9.has.own D o ho
   rw [hK] at h1
   cases h1
   have := hcl _ ho
   cases this
  have HT9 := uh hT9
  have HK := uh hK
  have HDn := uh hDn
  have HBC := uh (⟨hci, hbi⟩ : ClrIn B B' c0.1 1 ∧ BitIs bb B' (W.length / 2) lb')
  clear hT hT9 hK hDn hcl
  gi_wp2_with fail
  refine (callsIn_wide.2 HG.out).mono ?_
  rintro e w5 ⟨⟨u, rfl⟩, c5, T6⟩
  have hK5 := (T6.same D (lt_of_block HK.out) HDn.out).trans HK.out
  have T7 := (HT9.out.trans T6).perm (l2 := ((grBx w.heap.size (n4 + 1 + 1) n4 (n4 + 1) c0.1 ov f t) ++ [(n4 + 1 + 1 + 1, .cells #[.func (.func 73) #[] #[.pointer (some ⟨w.heap.size, 0, none⟩), .pointer (some ⟨n4 + 1 + 1, 0, none⟩), .pointer (some ⟨n4, 0, none⟩), .pointer (some ⟨n4 + 1, 0, none⟩)]] 156), (n4 + 1 + 1 + 1 + 1, .cells #[.pointer (some ⟨sb, 0, none⟩)] 26)]) ++ (arBlks a aw (lay W f (t - f)) c5 ++ (spBlk sb a tb bb :: lb') ++ R)) po
  have T8 := T7.drop.grownB (B := W0.heap.size) hw0W (fun y hy => by
   rcases List.mem_append.1 hy with hy | hy
   · rcases List.mem_append.1 hy with hy | hy
     · exact arBlks_cells _ _ _ _ y hy
     · rcases List.mem_cons.1 hy with rfl | hy
       · rfl
       · exact hbi.cells y hy
   · exact hRc y hy) (grownBy_putObj' w5 D (.deferred none)) (fun r e => by cases e; exact ⟨hD, _, hK5, rfl⟩)
  have HT8 := uh T8
  clear T6 T7 T8 HG qf qt HT9
  gi_wp2_with fail
  refine ⟨by simp, .inl ⟨_, _, rfl, run_takeDeferred hK5, ?_⟩⟩
  refine ⟨.int .i64 0, ?_, B', lb', c5, rfl, HBC.out.1, HBC.out.2, by rw [HDW.out]; exact HT8.out⟩
  simp [results, Tryz.results22, go_sem]
theorem sdrop_none {w0 : World} (w : World) (sb a aw tb bb : Nat) {W B : List Nat} {lb R : List Blk} {cw : Int} (hB : BitIs bb B (W.length / 2) lb) (hBu : u64ok B) (hBl : (W.length / 2 + 63) / 64 ≤ B.length)
  (T : Turn [] w0 (arBlks a aw W cw ++ (spBlk sb a tb bb :: lb) ++ R) w) (hf : W.length ≤ 65536) (g : Int) (hno : g < 0 ∨ ((W.length / 2 : Nat) : Int) ≤ g ∨ bitAt B g.toNat = false) :
  Calls Tryz.prog 22 #[.pointer (some ⟨sb, 0, none⟩), .int .i64 g] w fun e w' => e = .returned (.int .i64 3) ∧ Turn [] w0 (arBlks a aw W cw ++ (spBlk sb a tb bb :: lb) ++ R) w' := by
 have Hhas := uh (show ∀ w' (X : List Blk), Turn [] w0 (((w.heap.size, .cells #[.int .i64 g] 3) :: lb) ++ X) w' → Calls Tryz.prog 71 #[.pointer (some ⟨bb, 0, none⟩), .int .i64 g] w' fun e w'' => e = .returned (.bool false) ∧ Below w'.heap.size w' w'' from fun w' X V => by
  obtain ⟨bo, cap, hA⟩ := hB.at_ (R := (w.heap.size, .cells #[.int .i64 g] 3) :: X) (V.has.perm po)
  by_cases h : g < 0 ∨ ((W.length / 2 : Nat) : Int) ≤ g
  · exact bhas_out w' bb _ B bo cap hA g h
  · obtain ⟨k, rfl⟩ : ∃ k : Nat, g = k := ⟨g.toNat, by omega⟩
    have hb : bitAt B k = false := by
     rcases hno with h1 | h1 | h1
     · exact absurd (.inl h1) h
     · exact absurd (.inr h1) h
     · simpa using h1
    have := bhas w' bb _ B bo cap hA hBu hBl k (by omega) (by omega)
    rw [hb] at this
    exact this)
 have T0 := T.alloc (.cells #[.int .i64 g] 3)
 have HT0 := uh (show Turn [] w0 (((w.heap.size, .cells #[.int .i64 g] 3) :: lb) ++ (arBlks a aw W cw ++ (spBlk sb a tb bb :: R))) (w.alloc (.cells #[.int .i64 g] 3)).drew from (T0.perm po).drew)
 have HS := uh (fun w' (V : Turn [] w0 (((w.heap.size, .cells #[.int .i64 g] 3) :: lb) ++ (arBlks a aw W cw ++ (spBlk sb a tb bb :: R))) w') => (⟨V.has.cell (b := sb) (c := #[.pointer (some ⟨a, 0, none⟩), .pointer (some ⟨tb, 0, none⟩), .pointer (some ⟨bb, 0, none⟩)]) (e := 146) (f := (0, 0)) (by simp [spBlk]) 2, V.cell1 0⟩ :
  w'.cell? ⟨sb, 2, none⟩ = some (.pointer (some ⟨bb, 0, none⟩)) ∧ w'.cell? ⟨w.heap.size, 0, none⟩ = some (.int .i64 g)))
 clear T0 T hB hno
 go_enter Tryz.func22, Tryz.ntmps22
 go_wp2_with fail
 refine wp_abs (fun W' => Turn [] w0 (((w.heap.size, .cells #[.int .i64 g] 3) :: lb) ++ (arBlks a aw W cw ++ (spBlk sb a tb bb :: R))) W'.drew) HT0.out fun W1 T1 => ?_
 have hS1 := HS.out _ T1
 have HT1 := uh T1
 clear T1 HT0
 refine wp_region_noPanic ?_
 refine wp_region_listed (S := fun W' => W'.cell? ⟨sb, 2, none⟩ = some (.pointer (some ⟨bb, 0, none⟩)) ∧ W'.cell? ⟨w.heap.size, 0, none⟩ = some (.int .i64 g)) 7 [false, false, false, false, false, false, false] rfl rfl (by kernel_rfl) ?_
 refine tkA 0 12 hS1 ?_
 refine tkA 1 13 hS1 ?_
 refine tkA 2 14 hS1 ?_
 refine tkB 3 15 hS1 (fun w hSw => hSw.1) ?_
 refine tkB 4 16 hS1 (fun w hSw => hSw.2) ?_
 refine rdyA 5 (fun K hK => ?_)
 go_simp
 refine (Hhas.out _ _ HT1.out).mono ?_
 rintro e w2 ⟨rfl, hB2⟩
 have HT2 := uh (HT1.out.call hB2)
 have hS2 := HS.out _ HT2.out
 clear HT1 hB2 hS1
 refine hK.out _ _ hS2 fun _ => ?_
 clear hK K
 simp only [st0, st1, st2]
 refine tkA 6 18 hS2 ?_
 refine wpAnyH_done (by kernel_rfl) ?_ _
 refine NoPanic.normal ?_
 have HT3 := uh ((HT2.out.perm (l2 := (w.heap.size, .cells #[.int .i64 g] 3) :: (arBlks a aw W cw ++ (spBlk sb a tb bb :: lb) ++ R)) po).tail)
 clear hS2 HT2 HS Hhas
 go_wp2_with fail
 go_ret
 exact ⟨rfl, HT3.out⟩
attribute [local go_sem] Oper.semAt_some
def putBz (s sb : Nat) (g id n : Int) (er : Value) : List Blk :=
 [(s + 1 + 1 + 1 + 1, .cells #[er] 33), (s + 1 + 1 + 1, .cells #[.int .i64 n] 3), (s + 1 + 1, .cells #[.int .i64 id] 3), (s + 1, .cells #[.int .i64 g] 3), (s, .cells #[.pointer (some ⟨sb, 0, none⟩)] 26)]
theorem sput_err_in (nn : Nat) (w : World) (sb a aw tb : Nat) {W : List Nat} (tao : Option Addr) (tcap : Nat) (L : List Ty) (hA : SpAt w sb a aw tb W tao tcap L) (hf : W.length ≤ 65536) (hTy : ∀ t ∈ L, TyIn t) (hL : L.length ≤ 1000)
  (g id n : Int) (hno : tyErr L id n ≠ 0 ∨ g < 0 ∨ ((W.length / 2 : Nat) : Int) ≤ g) (hn : 3 ≤ nn) :
  CallsIn Fence.wide nn Tryz.prog 16 #[.pointer (some ⟨sb, 0, none⟩), .int .i64 g, .int .i64 id, .int .i64 n] w fun e w' => e = .returned (.int .i64 (if tyErr L id n ≠ 0 then tyErr L id n else 2)) ∧ Below w.heap.size w w' := by
 have h1 : 1 ≤ nn := by omega
 have h3 : Fence.wide.fn 16 := trivial
 have h6 : Fence.wide.fn 64 := trivial
 have h8 : Fence.wide.fn 13 := trivial
 have hro : Fence.wide.round = none := rfl
 have hszH := sz_head
 have Hof := uh (fun w' (hB : Below w.heap.size w w') => hof w' L hTy hL tb tao tcap (hA.below hB).tab id n)
 obtain ⟨x0, x1, x2, x3, hx, hox⟩ : ∃ x0 x1 x2 x3 : Value, ofCells L id n = [x0, x1, x2, x3] ∧ (#[x0, x1, x2, x3] : Array Value).all (·.oneCell') = true := by
  unfold ofCells
  split
  · exact ⟨_, _, _, _, rfl, all_one (cs := [.int .u8 1, .int .i64 id, .int .i64 n, .int .i64 (tySize L id n : Nat)]) (by simp [Value.oneCell'])⟩
  · exact ⟨_, _, _, _, rfl, hd0_one⟩
 rw [hx] at Hof
 have Hgr := uh (fun w' (hB : Below w.heap.size w w') => sgran w' (hA.below hB).c0 (hA.below hB).ar hf)
 have T0 := (((((Turn.refl (Has.nil w)).alloc (.cells #[.pointer (some ⟨sb, 0, none⟩)] 26)).alloc (.cells #[.int .i64 g] 3)).alloc (.cells #[.int .i64 id] 3)).alloc (.cells #[.int .i64 n] 3)).alloc (.cells #[.int .i64 0] 33)
 simp only [World.size_alloc] at T0
 have HT0 : Hid (Turn [] w (putBz w.heap.size sb g id n (.int .i64 0)) (((((w.alloc (.cells #[.pointer (some ⟨sb, 0, none⟩)] 26)).alloc (.cells #[.int .i64 g] 3)).alloc (.cells #[.int .i64 id] 3)).alloc (.cells #[.int .i64 n] 3)).alloc (.cells #[.int .i64 0] 33))) := uh T0
 have hq0 : ∀ w' (Y : List Blk), Turn [] w (Y ++ putBz w.heap.size sb g id n (.int .i64 0)) w' → w'.cell? ⟨w.heap.size, 0, none⟩ = some (.pointer (some ⟨sb, 0, none⟩)) := fun w' Y V => V.has.cell (b := w.heap.size) (c := #[.pointer (some ⟨sb, 0, none⟩)]) (e := 26) (f := (0, 0)) (by simp [putBz]) 0
 have hq := hq0 _ [] HT0.out
 have HS := uh (fun w' (Y : List Blk) (V : Turn [] w (Y ++ putBz w.heap.size sb g id n (.int .i64 0)) w') => (⟨hq0 w' Y V, (hA.below V.below).c1,
    V.has.cell (b := w.heap.size + 1 + 1) (c := #[.int .i64 id]) (e := 3) (f := (0, 0)) (by simp [putBz]) 0, V.has.cell (b := w.heap.size + 1 + 1 + 1) (c := #[.int .i64 n]) (e := 3) (f := (0, 0)) (by simp [putBz]) 0⟩ :
    w'.cell? ⟨w.heap.size, 0, none⟩ = some (.pointer (some ⟨sb, 0, none⟩)) ∧ w'.cell? ⟨sb, 1, none⟩ = some (.pointer (some ⟨tb, 0, none⟩)) ∧ w'.cell? ⟨w.heap.size + 1 + 1, 0, none⟩ = some (.int .i64 id) ∧ w'.cell? ⟨w.heap.size + 1 + 1 + 1, 0, none⟩ = some (.int .i64 n)))
 have HS6 := uh (fun w' (Y : List Blk) (V : Turn [] w (Y ++ putBz w.heap.size sb g id n (.int .i64 0)) w') => (⟨hq0 w' Y V, V.has.cell (b := w.heap.size + 1) (c := #[.int .i64 g]) (e := 3) (f := (0, 0)) (by simp [putBz]) 0⟩ :
    w'.cell? ⟨w.heap.size, 0, none⟩ = some (.pointer (some ⟨sb, 0, none⟩)) ∧ w'.cell? ⟨w.heap.size + 1, 0, none⟩ = some (.int .i64 g)))
 have HR := uh (fun w' (b9 : Nat) (er : Int) (V : Turn [] w ([(b9, .cells #[x0, x1, x2, x3] 79)] ++ putBz w.heap.size sb g id n (.int .i64 0)) w') => by
  have V' := V.perm (l2 := (w.heap.size + 1 + 1 + 1 + 1, .cells #[.int .i64 0] 33) :: (b9, .cells #[x0, x1, x2, x3] 79) :: (w.heap.size + 1 + 1 + 1, .cells #[.int .i64 n] 3) :: (w.heap.size + 1 + 1, .cells #[.int .i64 id] 3) :: (w.heap.size + 1, .cells #[.int .i64 g] 3) :: [(w.heap.size, .cells #[.pointer (some ⟨sb, 0, none⟩)] 26)]) (perm_of fun c => by simp [putBz]; omega)
  have V2 := V'.setCell 0 (.int .i64 er)
  exact (⟨V'.cell1 0, V'.free1 0, V2.cell1 0, V2.below⟩ : w'.cell? ⟨w.heap.size + 1 + 1 + 1 + 1, 0, none⟩ = some (.int .i64 0) ∧ w'.frozen? ⟨w.heap.size + 1 + 1 + 1 + 1, 0, none⟩ = false ∧ (w'.setCell ⟨w.heap.size + 1 + 1 + 1 + 1, 0, none⟩ (.int .i64 er)).cell? ⟨w.heap.size + 1 + 1 + 1 + 1, 0, none⟩ = some (.int .i64 er) ∧ Below w.heap.size w (w'.setCell ⟨w.heap.size + 1 + 1 + 1 + 1, 0, none⟩ (.int .i64 er))))
 have hzb : W.length / 2 ≤ 32768 := by omega
 obtain ⟨z, hz⟩ : ∃ z : Nat, W.length / 2 = z := ⟨_, rfl⟩
 rw [hz] at Hgr hno hzb
 generalize tyErr L id n = er at *
 obtain ⟨res, hres⟩ : ∃ res : Int, (if er ≠ 0 then er else 2) = res := ⟨_, rfl⟩
 rw [hres]
 have Hres := uh hres
 clear hres
 clear T0 hA hz hq0 hx
 refine callsIn_of_wp Tryz.func16 rfl h3 ?_ hro
 simp only [Tryz.ntmps16, List.size_toArray, List.length_cons, List.length_nil, Nat.reduceAdd, Nat.reduceSub, Array.replicate_succ, Array.replicate_zero, List.push_toArray, List.append_toArray, List.nil_append, List.cons_append]
 gi_wp2_with fail
 have HT1 := uh HT0.out.drew
 generalize ((((w.alloc (.cells #[.pointer (some ⟨sb, 0, none⟩)] 26)).alloc (.cells #[.int .i64 g] 3)).alloc (.cells #[.int .i64 id] 3)).alloc (.cells #[.int .i64 n] 3)).alloc (.cells #[.int .i64 0] 33) = W1 at *
 clear HT0 hq
 apply wpIn_mid1 (I := fun b9 w' => Turn [] w ((b9, .cells #[x0, x1, x2, x3] 79) :: putBz w.heap.size sb g id n (.int .i64 0)) w')
 case h =>
  have T1 := HT1.out
  have hS1 := HS.out _ [] T1
  refine wpIn_region_noPanic ?_
  refine wpIn_region_listedHI (S := fun W' => W'.cell? ⟨w.heap.size, 0, none⟩ = some (.pointer (some ⟨sb, 0, none⟩)) ∧ W'.cell? ⟨sb, 1, none⟩ = some (.pointer (some ⟨tb, 0, none⟩)) ∧ W'.cell? ⟨w.heap.size + 1 + 1, 0, none⟩ = some (.int .i64 id) ∧ W'.cell? ⟨w.heap.size + 1 + 1 + 1, 0, none⟩ = some (.int .i64 n)) 13 [false, false, false, false, false, false, false, false, false, false, false, false, false] rfl rfl (by kernel_rfl) ?_
  refine tkJ 0 17 hro hS1 (fun w hSw => hSw.1) ?_
  refine tkI 1 18 hro hS1 ?_
  refine tkI 2 19 hro hS1 ?_
  refine tkJ 3 20 hro hS1 (fun w hSw => hSw.2.1) ?_
  refine tkJ 4 21 hro hS1 (fun w hSw => hSw.2.2.1) ?_
  refine tkJ 5 22 hro hS1 (fun w hSw => hSw.2.2.2) ?_
  clear hS1
  generalize W1.drew = V0 at T1 ⊢
  refine wpAnyHI_two (i := 6) (j := 10) (by kernel_rfl) rfl rfl (fun K hK => ?_) (fun K hK => ?_)
  · go_simp
    refine (callsIn_wide.2 (Hof.out _ T1.below)).mono ?_
    rintro e V1 ⟨rfl, hB⟩
    have T2 := T1.call hB
    have hS2 := HS.out _ [] T2
    refine hK.out _ _ hS2 ?_
    clear hK K
    simp only [st0, st1, st2]
    refine tkI 7 16 hro hS2 ?_
    refine tkI 8 24 hro hS2 ?_
    refine tkI 9 25 hro hS2 ?_
    refine wpAnyHI_call (i := 10) (by kernel_rfl) rfl (fun K hK => ?_)
    go_simp
    have T3 : Turn [] w ([(V1.heap.size, .cells #[.int .u8 0, .int .i64 0, .int .i64 0, .int .i64 0] 79)] ++ putBz w.heap.size sb g id n (.int .i64 0)) (V1.alloc (.cells #[.int .u8 0, .int .i64 0, .int .i64 0, .int .i64 0] 79)) := T2.alloc (.cells #[.int .u8 0, .int .i64 0, .int .i64 0, .int .i64 0] 79)
    have hS3 := HS.out _ _ T3
    refine hK.out _ _ hS3 ?_
    clear hK K
    simp only [st0, st1, st2]
    clear hS3 hS2 T2
    generalize V1.alloc (.cells #[.int .u8 0, .int .i64 0, .int .i64 0, .int .i64 0] 79) = V3 at *
    generalize V1.heap.size = b9 at *
    have hth := T3.there1
    have U := T3.laid [x0, x1, x2, x3] rfl
    refine wpAnyHI_call (i := 11) (by kernel_rfl) rfl (fun K hK => ?_)
    refine stepIn_store rfl rfl 79 _ _ rfl _ 0 #[x0, x1, x2, x3] rfl rfl hth hszH hox (follows_wide _ _) ?_
    have hS4 := HS.out _ [_] U
    refine hK.out _ _ hS4 ?_
    clear hK K
    simp only [st0, st1, st2]
    refine tkI 12 10 hro hS4 ?_
    refine wpAnyHI_done (by kernel_rfl) ?_ _
    refine NoPanic.normal ?_
    exact ⟨rfl, b9, rfl, U⟩
  · go_simp
    have T2 : Turn [] w ([(V0.heap.size, .cells #[.int .u8 0, .int .i64 0, .int .i64 0, .int .i64 0] 79)] ++ putBz w.heap.size sb g id n (.int .i64 0)) (V0.alloc (.cells #[.int .u8 0, .int .i64 0, .int .i64 0, .int .i64 0] 79)) := T1.alloc (.cells #[.int .u8 0, .int .i64 0, .int .i64 0, .int .i64 0] 79)
    have hS2 := HS.out _ _ T2
    refine hK.out _ _ hS2 ?_
    clear hK K
    simp only [st0, st1, st2]
    clear hS2
    generalize V0.alloc (.cells #[.int .u8 0, .int .i64 0, .int .i64 0, .int .i64 0] 79) = V2 at T2 ⊢
    generalize V0.heap.size = b9 at T2 ⊢
    refine wpAnyHI_call (i := 6) (by kernel_rfl) rfl (fun K hK => ?_)
    go_simp
    refine (callsIn_wide.2 (Hof.out _ T2.below)).mono ?_
    rintro e V3 ⟨rfl, hB⟩
    have T3 := T2.call hB
    have hS3 := HS.out _ [_] T3
    refine hK.out _ _ hS3 ?_
    clear hK K
    simp only [st0, st1, st2]
    refine tkI 7 16 hro hS3 ?_
    refine tkI 8 24 hro hS3 ?_
    refine tkI 9 25 hro hS3 ?_
    clear hS3
    have hth := T3.there1
    have U := T3.laid [x0, x1, x2, x3] rfl
    refine wpAnyHI_call (i := 11) (by kernel_rfl) rfl (fun K hK => ?_)
    refine stepIn_store rfl rfl 79 _ _ rfl _ 0 #[x0, x1, x2, x3] rfl rfl hth hszH hox (follows_wide _ _) ?_
    have hS4 := HS.out _ [_] U
    refine hK.out _ _ hS4 ?_
    clear hK K
    simp only [st0, st1, st2]
    refine tkI 12 10 hro hS4 ?_
    refine wpAnyHI_done (by kernel_rfl) ?_ _
    refine NoPanic.normal ?_
    exact ⟨rfl, b9, rfl, U⟩
 case hq =>
  intro b9 w6 T5
  have HT5 : Hid (Turn [] w ([(b9, .cells #[x0, x1, x2, x3] 79)] ++ putBz w.heap.size sb g id n (.int .i64 0)) w6) := uh T5
  have T6 : Turn [] w ([(b9, .cells #[x0, x1, x2, x3] 79)] ++ putBz w.heap.size sb g id n (.int .i64 0)) w6.drew := T5.drew
  have hS6 := HS6.out _ _ T6
  clear T5
  by_cases he : er = 0
  · subst he
    have Hr2 := uh (show res = 2 by have := Hres.out; simpa using this.symm)
    obtain ⟨c8, f8, r8, b8⟩ := HR.out _ b9 2 HT5.out
    have hno' : g < 0 ∨ (z : Int) ≤ g := hno.resolve_left (by simp)
    clear hno
    by_cases hg : g < 0
    · have k0 : decide (g < 0) = true := decide_eq_true hg
      clear hno'
      gi_wp2_with fail
      refine wpIn_region_noPanic ?_
      refine wpIn_region_listedHI (S := fun W' => W'.cell? ⟨w.heap.size, 0, none⟩ = some (.pointer (some ⟨sb, 0, none⟩)) ∧ W'.cell? ⟨w.heap.size + 1, 0, none⟩ = some (.int .i64 g)) 8 [false, false, false, false, false, false, false, false] rfl rfl (by kernel_rfl) ?_
      refine tkJ 0 29 hro hS6 (fun w hSw => hSw.2) ?_
      refine tkI 1 30 hro hS6 ?_
      refine tkI 2 31 hro hS6 ?_
      refine tkT 3 32 hro hS6 ?_
      refine tkT 4 33 hro hS6 ?_
      refine wpAnyHI_call (i := 5) (by kernel_rfl) rfl (fun K hK => ?_)
      go_simp
      refine hK.out _ _ hS6 ?_
      clear hK K
      simp only [st0, st1, st2]
      refine tkT 6 35 hro hS6 ?_
      refine tkI 7 36 hro hS6 ?_
      refine wpAnyHI_done (by kernel_rfl) ?_ _
      refine NoPanic.normal ?_
      clear hS6 HS HS6
      gi_wp2_with fail
      refine bodyPost_ret (v := .int .i64 2) ?_ rfl ?_
      · simp [results, Tryz.results16, go_sem, r8]
      · exact ⟨by rw [Hr2.out], b8.drew⟩
    · have k0 : decide (g < 0) = false := decide_eq_false hg
      have k1 : decide ((z : Int) ≤ g) = true := decide_eq_true (hno'.resolve_left hg)
      clear hno'
      gi_wp2_with fail
      refine wpIn_region_noPanic ?_
      refine wpIn_region_listedHI (S := fun W' => W'.cell? ⟨w.heap.size, 0, none⟩ = some (.pointer (some ⟨sb, 0, none⟩)) ∧ W'.cell? ⟨w.heap.size + 1, 0, none⟩ = some (.int .i64 g)) 8 [false, false, false, false, false, false, false, false] rfl rfl (by kernel_rfl) ?_
      refine tkJ 0 29 hro hS6 (fun w hSw => hSw.2) ?_
      refine tkI 1 30 hro hS6 ?_
      refine tkI 2 31 hro hS6 ?_
      refine tkJ 3 32 hro hS6 (fun w hSw => hSw.2) ?_
      refine tkJ 4 33 hro hS6 (fun w hSw => hSw.1) ?_
      refine wpAnyHI_call (i := 5) (by kernel_rfl) rfl (fun K hK => ?_)
      go_simp
      refine (callsIn_wide.2 (Hgr.out _ T6.below)).mono ?_
      rintro e V6 ⟨rfl, hw6⟩
      rw [hw6]
      clear hw6 V6
      refine hK.out _ _ hS6 ?_
      clear hK K
      simp only [st0, st1, st2]
      refine tkI 6 35 hro hS6 ?_
      refine tkI 7 36 hro hS6 ?_
      refine wpAnyHI_done (by kernel_rfl) ?_ _
      refine NoPanic.normal ?_
      clear hS6 HS HS6
      gi_wp2_with fail
      refine bodyPost_ret (v := .int .i64 2) ?_ rfl ?_
      · simp [results, Tryz.results16, go_sem, r8]
      · exact ⟨by rw [Hr2.out], b8.drew⟩
  · have Hr2 := uh (show res = er by have := Hres.out; rw [if_pos he] at this; exact this.symm)
    have ke : (er != 0) = true := by rw [bne_iff_ne]; exact he
    obtain ⟨c8, f8, r8, b8⟩ := HR.out _ b9 er HT5.out
    clear hno hS6 T6 HS HS6
    gi_wp2_with fail
    refine bodyPost_ret (v := .int .i64 er) ?_ rfl ?_
    · simp [results, Tryz.results16, go_sem, r8]
    · exact ⟨by rw [Hr2.out], b8⟩
def endsOf (os : List Ce) : List Nat := 0 :: os.map fun c => c.1 + c.2.size
theorem endsOf_next {os : List Ce} {i : Nat} {c : Ce} (h : os[i]? = some c) : endsOf (os.take (i + 1)) = endsOf (os.take i) ++ [c.1 + c.2.size] := by rw [take_next h]; simp [endsOf]
theorem endOf_get : ∀ (os : List Ce) (e i : Nat), i ≤ os.length → (e :: os.map fun c => c.1 + c.2.size)[i]? = some (endOf e (os.take i))
 | _, e, 0, _ => rfl
 | c :: os, e, i + 1, h => by
  rw [List.getElem?_cons_succ, List.map_cons, List.take_succ_cons]
  exact endOf_get os _ i (by simpa using h)
 | [], _, i + 1, h => by simp at h
theorem endsOf_get (os : List Ce) {i : Nat} (h : i ≤ os.length) : (nats (endsOf os))[i]? = some (.int .i64 (endOf 0 (os.take i) : Nat)) := by
 have := endOf_get os 0 i h
 unfold nats endsOf
 rw [List.getElem?_map, this]
 rfl
theorem endsOf_take_get (os : List Ce) {i : Nat} (h : i ≤ os.length) : (nats (endsOf (os.take i)))[i]? = some (.int .i64 (endOf 0 (os.take i) : Nat)) := by
 have := endsOf_get (os.take i) (i := i) (by simp; omega)
 rw [List.take_take, Nat.min_self] at this
 exact this
def bitsOf (B : List Nat) (z : Nat) (os : List Ce) : Prop := ∀ i, i < z → (bitAt B i = true ↔ ∃ c ∈ os, c.1 = i)
theorem bitsOf.clr {B B' : List Nat} {z : Nat} (h : ClrIn B B' 0 z) : bitsOf B' z [] := fun i hi => by
 rw [h.2.2 i]
 have : (decide (0 ≤ i) && decide (i < 0 + z)) = true := by simp; omega
 rw [this]
 simp
theorem bitsOf.set {B B' : List Nat} {z : Nat} {os : List Ce} {c : Ce} (hb : bitsOf B z os) (h : SetIn B B' c.1 1) : bitsOf B' z (os ++ [c]) := fun i hi => by
 rw [h.2.2 i, Bool.or_eq_true, hb i hi, Bool.and_eq_true, decide_eq_true_eq, decide_eq_true_eq]
 constructor
 · rintro (⟨d, hd, he⟩ | h1)
   · exact ⟨d, List.mem_append_left _ hd, he⟩
   · exact ⟨c, by simp, by omega⟩
 · rintro ⟨d, hd, he⟩
   rcases List.mem_append.1 hd with hd | hd
   · exact .inl ⟨d, hd, he⟩
   · rw [List.mem_singleton.1 hd] at he
     exact .inr (by omega)
theorem ssettle {w0 : World} (w : World) (sb a aw tb bb : Nat) {W B : List Nat} {lb R : List Blk} {cw : Int} (tao : Option Addr) (tcap : Nat) (L : List Ty) (hB : BitIs bb B (W.length / 2) lb) (hBu : u64ok B) (hBl : (W.length / 2 + 63) / 64 ≤ B.length)
  (T : Turn [] w0 (arBlks a aw W cw ++ (spBlk sb a tb bb :: lb) ++ R) w) (hTab : TabAt w0 tb tao tcap L) (hF0 : Fields w0) (hf : W.length ≤ 65536) (hu : ∀ v ∈ W, v < 18446744073709551616) (hTy : ∀ t ∈ L, TyIn t) (hL : L.length ≤ 1000)
  (os : List Ce) (hr : rises L W 0 os) (aa : Option Addr) (acap : Nat) (hAt : ∀ (w' : World) (X : List Blk), Turn [] w0 (X ++ R) w' → Src w' aa os.length acap 1 (ints (cesAt os))) :
  Calls Tryz.prog 138 #[.pointer (some ⟨sb, 0, none⟩), .slice aa os.length acap] w fun e w' => e = .returned (.int .i64 0) ∧ ∃ (B' : List Nat) (lb' : List Blk) (cw' : Int), B'.length = B.length ∧ u64ok B' ∧ bitsOf B' (W.length / 2) os ∧ BitIs bb B' (W.length / 2) lb' ∧
   Turn [] w0 (arBlks a aw (settleW (W.length / 2) W os 0) cw' ++ (spBlk sb a tb bb :: lb') ++ R) w' := by
 have hl0 := rises_len hr (Nat.zero_le _)
 have hzb : W.length / 2 ≤ 32768 := by omega
 have Hsp := uh (fun w' (W' : List Nat) (c' : Int) (Y : List Blk) (hl : W'.length ≤ 65536) (V : Turn [] w0 (arBlks a aw W' c' ++ (spBlk sb a tb bb :: Y)) w') =>
  (⟨V.has.cell (b := sb) (c := #[.pointer (some ⟨a, 0, none⟩), .pointer (some ⟨tb, 0, none⟩), .pointer (some ⟨bb, 0, none⟩)]) (e := 146) (f := (0, 0)) (by simp [spBlk]) 0, V.has.cell (b := sb) (c := #[.pointer (some ⟨a, 0, none⟩), .pointer (some ⟨tb, 0, none⟩), .pointer (some ⟨bb, 0, none⟩)]) (e := 146) (f := (0, 0)) (by simp [spBlk]) 1, arBlks_at V.has hl, hTab.below V.below, range_below hF0 V.below⟩ : SpAt w' sb a aw tb W' tao tcap L))
 have Hs2 := uh (fun w' (Y : List Blk) (V : Turn [] w0 (spBlk sb a tb bb :: Y) w') => (V.cell1 2 : w'.cell? ⟨sb, 2, none⟩ = some (.pointer (some ⟨bb, 0, none⟩))))
 have Hof := uh (fun w' (A : SpAt w' sb a aw tb W tao tcap L) (g : Int) => sof w' A.fields A.ar hu L hTy hL tb tao tcap A.tab g)
 have Hr := uh (fun i c => rises_at hr (i := i) (c := c))
 have Hle := uh (endOf_take_le hr)
 have HA := uh (fun (h : 0 < os.length) w' X (V : Turn [] w0 (X ++ R) w') => (hAt w' X V).form (by rw [ints_len, cesAt_len]; exact h))
 have HAg := uh (fun w' X (V : Turn [] w0 (X ++ R) w') => hAt w' X V)
 have hone : ∀ v : Nat, ∀ u ∈ ([.int .i64 v] : List Value), u.oneCell' = true := by intro v u hu; simp at hu; subst hu; rfl
 have HB := uh hB
 have HT := uh (T.perm (l2 := arBlks a aw W cw ++ (spBlk sb a tb bb :: (lb ++ R))) po)
 have hrow0 : Row 3 1 (some ⟨w.heap.size, 0, none⟩) 1 1 (nats (endsOf (os.take 0))) [(w.heap.size, .cells #[.int .i64 0] 3)] := ⟨rfl, Nat.le_refl _, by decide, .inr ⟨_, _, rfl, rfl, by decide, rfl⟩⟩
 have HR0 := uh hrow0
 have HT0 := uh (HT.out.alloc (.cells #[.int .i64 0] 3))
 have HF0 := uh hF0
 clear T hB hTab hF0 hAt hrow0
 go_enter Tryz.func138, Tryz.ntmps138
 go_wp2_with fail
 go_loopw [5, 18] (fun v5 v18 wr => ∃ (i : Nat) (b5 p5 : Nat) (lr5 : List Blk), i ≤ os.length ∧ v18 = .int .i64 i ∧ v5 = .slice (some ⟨b5, 0, none⟩) (i + 1) p5 ∧ Row 3 1 (some ⟨b5, 0, none⟩) (i + 1) p5 (nats (endsOf (os.take i))) lr5 ∧ Turn [] w0 (lr5 ++ (arBlks a aw W cw ++ (spBlk sb a tb bb :: (lb ++ R)))) wr) (fun _ v18 _ => os.length - (intOf v18).toNat)
 case atStart => exact ⟨0, w.heap.size, 1, _, Nat.zero_le _, by go_num, by go_num, HR0.out, HT0.out⟩
 case round =>
  clear HT0 HR0
  obtain ⟨i, b5, p5, lr5, hi, rfl, rfl, hr5, T⟩ := hrel
  by_cases hlt : i < os.length
  · have hlt' : (i : Int) < (os.length : Int) := by omega
    obtain ⟨c, hc⟩ : ∃ c, os[i]? = some c := ⟨os[i], List.getElem?_eq_getElem hlt⟩
    obtain ⟨hce, hst, hct⟩ := Hr.out i c hc
    have hoq := objq_of hst hct
    have hroom := hst.2.2
    have hexT := T.perm (l2 := (lr5 ++ (arBlks a aw W cw ++ (spBlk sb a tb bb :: lb))) ++ R) po
    obtain ⟨ab, aoff, rfl, hat0⟩ := HA.out (by omega) wr _ hexT
    have hat := hat0 i _ (ints_get (cesAt_get hc))
    have T7 := T.perm (l2 := arBlks a aw W cw ++ (spBlk sb a tb bb :: (lr5 ++ (lb ++ R)))) po
    have Hen := uh (endsOf_next hc)
    have hcur := (hr5.src (R := arBlks a aw W cw ++ (spBlk sb a tb bb :: (lb ++ R))) T.has)
    have HSp := uh (fun w' Y (V : Turn [] w0 (arBlks a aw W cw ++ (spBlk sb a tb bb :: Y)) w') => Hsp.out w' W cw Y hf V)
    have Hcall := uh (fun w' Y (V : Turn [] w0 (arBlks a aw W cw ++ (spBlk sb a tb bb :: Y)) w') => by
     have h := Hof.out w' (HSp.out w' Y V) c.1
     rw [hoq] at h
     exact h)
    simp only at Hcall
    have hlast := endsOf_take_get os (i := i) (by omega)
    generalize hen : endOf 0 (os.take i) = en at *
    have k1 : decide ((c.1 : Int) < (en : Int)) = false := decide_eq_false (by omega)
    have k2 : decide (c.1 < en) = false := decide_eq_false (by omega)
    have HT7 := uh T7.drew
    have Hr5 := uh hr5
    have Hlast := uh hlast
    clear hexT hat0 T T7 hcur hr5 hlast hst hoq hen HB
    go_wp2_with fail
    refine wp_abs (fun W' => Turn [] w0 (arBlks a aw W cw ++ (spBlk sb a tb bb :: (lr5 ++ (lb ++ R)))) W'.drew) HT7.out fun W1 T1 => ?_
    have hS1 := (⟨(HSp.out _ _ T1).c0, (HSp.out _ _ T1).c1⟩ : W1.drew.cell? ⟨sb, 0, none⟩ = some (.pointer (some ⟨a, 0, none⟩)) ∧ W1.drew.cell? ⟨sb, 1, none⟩ = some (.pointer (some ⟨tb, 0, none⟩)))
    have HT1 := uh T1
    clear T1 HT7 hat
    refine wp_region_noPanic ?_
    refine wp_region_listed (S := fun W' => W'.cell? ⟨sb, 0, none⟩ = some (.pointer (some ⟨a, 0, none⟩)) ∧ W'.cell? ⟨sb, 1, none⟩ = some (.pointer (some ⟨tb, 0, none⟩))) 15 [false, false, false, false, false, false, false, false, false, false, false, false, false, false, false] rfl rfl (by kernel_rfl) ?_
    refine tkA 0 23 hS1 ?_
    refine tkA 1 24 hS1 ?_
    refine tkA 2 25 hS1 ?_
    refine tkB 3 26 hS1 (fun w hSw => hSw.1) ?_
    refine tkA 4 27 hS1 ?_
    refine tkA 5 28 hS1 ?_
    refine tkA 6 29 hS1 ?_
    refine tkB 7 30 hS1 (fun w hSw => hSw.2) ?_
    refine tkA 8 31 hS1 ?_
    refine rdyA 9 (fun K hK => ?_)
    go_simp
    refine (Hcall.out _ _ HT1.out).mono ?_
    rintro e w2 ⟨vb, rfl, T2⟩
    have T3 := HT1.out.grow T2
    have T4 := T3.perm (l2 := arBlks a aw W cw ++ (spBlk sb a tb bb :: ((vb, .cells (viewCells a c.1 c.2 (tyAt L c.2.typ)).toArray 238) :: (lr5 ++ (lb ++ R))))) po
    have hS2 := (⟨(HSp.out _ _ T4).c0, (HSp.out _ _ T4).c1⟩ : w2.cell? ⟨sb, 0, none⟩ = some (.pointer (some ⟨a, 0, none⟩)) ∧ w2.cell? ⟨sb, 1, none⟩ = some (.pointer (some ⟨tb, 0, none⟩)))
    have HT3 := uh (T3.perm (l2 := lr5 ++ ((vb, .cells (viewCells a c.1 c.2 (tyAt L c.2.typ)).toArray 238) :: (arBlks a aw W cw ++ (spBlk sb a tb bb :: (lb ++ R))))) po)
    have hv : VwAt w2 vb a c.1 c.2 (tyAt L c.2.typ) := (T3.has.range (List.mem_cons_self ..))
    have HV := uh hv
    clear T2 T3 T4 hS1 HT1 hv Hcall
    refine hK.out _ _ hS2 fun _ => ?_
    clear hK K
    simp only [st0, st1, st2]
    refine tkA 10 22 hS2 ?_
    refine tkA 11 33 hS2 ?_
    refine tkA 12 34 hS2 ?_
    refine tkA 13 8 hS2 ?_
    refine tkA 14 9 hS2 ?_
    refine wpAnyH_done (by kernel_rfl) ?_ _
    refine NoPanic.normal ?_
    clear hS2
    have q5 : w2.cell? ⟨b5, i, none⟩ = some (.int .i64 en) := by
     have h := (Hr5.out.src (R := (vb, .cells (viewCells a c.1 c.2 (tyAt L c.2.typ)).toArray 238) :: (arBlks a aw W cw ++ (spBlk sb a tb bb :: (lb ++ R)))) HT3.out.has).at_ _ rfl i _ Hlast.out
     rw [add_lit, Nat.zero_add] at h
     exact h
    have hil : i ≤ 65536 := by omega
    have hcb : c.1 + c.2.size ≤ 65536 := by omega
    have h63 : i + 1 + 1 ≤ maxLen := by unfold maxLen; omega
    have hby : (i + 1 + 1) * 8 ≤ 140737488355328 := by omega
    go_wp2_with fail
    refine (vhead w2 HV.out).mono ?_
    rintro e w3 ⟨rfl, hB3⟩
    unfold hdVal
    have hfd : ∀ w : World, (Instr.field 79 (.agg #[.int .u8 c.2.tag, .int .i64 c.2.typ, .int .i64 c.2.len, .int .i64 c.2.size]) 3).run Tryz.prog w = .ok (.int .i64 c.2.size) w := fun _ => by kernel_rfl
    have hfd1 : ∀ w : World, (Instr.field 79 (.agg #[.int .u8 1, .int .i64 c.2.typ, .int .i64 c.2.len, .int .i64 c.2.size]) 3).run Tryz.prog w = .ok (.int .i64 c.2.size) w := fun _ => by kernel_rfl
    have HT4 := uh (HT3.out.call hB3)
    clear hB3 HT3 q5 HV Hlast
    go_wp2_with (first
     | (at_builtin; refine wpList_append_row rfl _ _ rfl el_int rfl Hr5.out (R := (w3.heap.size, .cells #[.int .i64 ((c.1 : Int) + (c.2.size : Int))] 3) :: (vb, .cells (viewCells a c.1 c.2 (tyAt L c.2.typ)).toArray 238) :: (arBlks a aw W cw ++ (spBlk sb a tb bb :: (lb ++ R)))) ((HT4.out.alloc (.cells #[.int .i64 ((c.1 : Int) + (c.2.size : Int))] 3)).perm po).has rfl (news := [.int .i64 ((c.1 : Int) + (c.2.size : Int))]) rfl (news_of (heap_alloc_new _ _)) (by simp [Value.oneCell']) h63 hby ?_; intro a9 p9 l9 w9 hr9 V9 hno; have HT9 := uh (((HT4.out.alloc (.cells #[.int .i64 ((c.1 : Int) + (c.2.size : Int))] 3)).perm (l2 := lr5 ++ ((w3.heap.size, .cells #[.int .i64 ((c.1 : Int) + (c.2.size : Int))] 3) :: (vb, .cells (viewCells a c.1 c.2 (tyAt L c.2.typ)).toArray 238) :: (arBlks a aw W cw ++ (spBlk sb a tb bb :: (lb ++ R))))) po).trans V9); have Hr9 := uh hr9; clear hr9 V9 hno)
     | fail)
    obtain ⟨b9, cur9, rfl, -, -, -⟩ := Hr9.out.some_of (by omega)
    go_roundw
    case rel =>
     refine ⟨i + 1, b9, p9, l9, by omega, by go_num, by go_num, ?_, ((HT9.out.perm (l2 := [(w3.heap.size, .cells #[.int .i64 ((c.1 : Int) + (c.2.size : Int))] 3), (vb, .cells (viewCells a c.1 c.2 (tyAt L c.2.typ)).toArray 238)] ++ (l9 ++ (arBlks a aw W cw ++ (spBlk sb a tb bb :: (lb ++ R))))) po).drop)⟩
     rw [Hen.out, nats_append]
     have h9 : nats [c.1 + c.2.size] = [.int .i64 ((c.1 : Int) + (c.2.size : Int))] := by simp [nats]
     rw [h9]
     exact Hr9.out
    case measure => simp [intOf]; omega
  · obtain rfl : i = os.length := by omega
    have hnl : ¬ ((os.length : Nat) : Int) < (os.length : Int) := by omega
    rw [List.take_length] at hr5
    have HT2 := uh ((T.perm (l2 := lb ++ (arBlks a aw W cw ++ (spBlk sb a tb bb :: (lr5 ++ R)))) po).drew)
    have Hr5 := uh hr5
    have Hen := uh (fun w' (X : List Blk) (j : Nat) (hj : j ≤ os.length) (V : Turn [] w0 (X ++ (lr5 ++ R)) w') => by
     have h := (hr5.src (R := X ++ R) (V.has.perm po)).at_ _ rfl j _ (endsOf_get os hj)
     rw [add_lit, Nat.zero_add] at h
     exact h)
    have hB := HB.out
    have Hclr := uh (fun w' (X : List Blk) (V : Turn [] w0 (lb ++ X) w') => bclrrun w' bb _ B lb X hB hBu hBl (by omega) V)
    clear T hr5 hi hlt hB
    obtain ⟨z, hz⟩ : ∃ z : Nat, W.length / 2 = z := ⟨_, rfl⟩
    rw [hz] at Hclr hzb Hle
    have HZ := uh hz
    clear hz
    go_wp2_with fail
    refine wp_abs (fun W' => Turn [] w0 (lb ++ (arBlks a aw W cw ++ (spBlk sb a tb bb :: (lr5 ++ R)))) W'.drew) HT2.out fun W1 T1 => ?_
    have A1 := Hsp.out W1.drew W cw (lb ++ (lr5 ++ R)) hf (T1.perm po)
    have Hs22 := uh (fun w' (Y : List Blk) (V : Turn [] w0 (Y ++ (arBlks a aw W cw ++ (spBlk sb a tb bb :: (lr5 ++ R)))) w') => Hs2.out w' (Y ++ (arBlks a aw W cw ++ (lr5 ++ R))) (V.perm po))
    have hS1 := Hs22.out _ _ T1
    have Hg1 := uh (sgran _ A1.c0 A1.ar hf)
    rw [HZ.out] at Hg1
    have Hc1 := uh (Hclr.out _ _ T1)
    rw [show ((0 : Nat) : Int) = 0 from rfl] at Hc1
    clear T1 A1 HT2
    refine wp_region_noPanic ?_
    refine wp_region_listed (S := fun W' => W'.cell? ⟨sb, 2, none⟩ = some (.pointer (some ⟨bb, 0, none⟩))) 7 [false, false, false, false, false, false, false] rfl rfl (by kernel_rfl) ?_
    refine tkA 0 56 hS1 ?_
    refine tkA 1 57 hS1 ?_
    refine tkA 2 58 hS1 ?_
    refine tkB 3 59 hS1 (fun w hSw => hSw) ?_
    refine tkA 4 60 hS1 ?_
    refine rdyA 5 (fun K hK => ?_)
    go_simp
    refine Hg1.out.mono ?_
    rintro e w2 ⟨rfl, hw2⟩
    subst hw2
    refine hK.out _ _ hS1 fun _ => ?_
    clear hK K
    simp only [st0, st1, st2]
    refine rdyA 6 (fun K hK => ?_)
    go_simp
    refine Hc1.out.mono ?_
    rintro e w3 ⟨rfl, B1, lb1, hci, hbi, T3⟩
    have hS3 := Hs22.out _ _ T3
    have HT3 := uh (T3.perm (l2 := arBlks a aw W cw ++ (spBlk sb a tb bb :: (lb1 ++ (lr5 ++ R)))) po)
    have HB1 := uh (⟨hci.1, hci.2.1, bitsOf.clr hci, hbi⟩ : B1.length = B.length ∧ u64ok B1 ∧ bitsOf B1 z [] ∧ BitIs bb B1 z lb1)
    clear hci hbi T3 Hg1 Hc1 hS1
    refine hK.out _ _ hS3 fun _ => ?_
    clear hK K
    simp only [st0, st1, st2]
    refine wpAnyH_done (by kernel_rfl) ?_ _
    refine NoPanic.normal ?_
    clear hS3
    go_wp2_with fail
    go_loopw [65] (fun v65 wr => ∃ (j en : Nat) (Wj Bj : List Nat) (lbj : List Blk) (cj : Int), j ≤ os.length ∧ v65 = .int .i64 j ∧ en = endOf 0 (os.take j) ∧ settleW z Wj (os.drop j) en = settleW z W os 0 ∧ Wj.length = W.length ∧ Bj.length = B.length ∧ u64ok Bj ∧ bitsOf Bj z (os.take j) ∧ BitIs bb Bj z lbj ∧ Turn [] w0 (arBlks a aw Wj cj ++ (spBlk sb a tb bb :: (lbj ++ (lr5 ++ R)))) wr) (fun v65 _ => os.length - (intOf v65).toNat)
    case atStart => exact ⟨0, 0, W, B1, lb1, cw, Nat.zero_le _, by go_num, rfl, rfl, rfl, HB1.out.1, HB1.out.2.1, HB1.out.2.2.1, HB1.out.2.2.2, HT3.out⟩
    case round =>
     clear HT3 HB1
     obtain ⟨j, en, Wj, Bj, lbj, cj, hj, rfl, hen, hsw, hwl, hbl, hbu, hbo, hbi, T⟩ := hrel
     by_cases hlt : j < os.length
     · have hlt' : (j : Int) < (os.length : Int) := by omega
       obtain ⟨c, hc⟩ : ∃ c, os[j]? = some c := ⟨os[j], List.getElem?_eq_getElem hlt⟩
       obtain ⟨hce, hst, hct⟩ := Hr.out j c hc
       rw [← hen] at hce
       have hroom := hst.2.2
       rw [HZ.out] at hroom
       have hpos := hst.pos
       rw [settleW_next hc] at hsw
       have He1 := uh (endOf_next hc)
       have Htk := uh (take_next hc)
       obtain ⟨ab, aoff, rfl, hat0⟩ := HA.out (by omega) wr _ (T.perm (l2 := (arBlks a aw Wj cj ++ (spBlk sb a tb bb :: (lbj ++ lr5))) ++ R) po)
       have hat := hat0 j _ (ints_get (cesAt_get hc))
       have hs2 := Hs2.out wr (arBlks a aw Wj cj ++ (lbj ++ (lr5 ++ R))) (T.perm po)
       have Hset := uh (bset wr bb z c.1 Bj lbj (arBlks a aw Wj cj ++ (spBlk sb a tb bb :: (lr5 ++ R))) hbi hbu (by rw [hbl]; rw [← HZ.out]; exact hBl) (by omega) (by omega) (T.perm po))
       have hsub : (c.1 : Int) - (en : Int) = ((c.1 - en : Nat) : Int) := by omega
       have HQ := uh (⟨hsw, hwl, hbl, hbo⟩ : settleW z (lay Wj en (c.1 - en)) (os.drop (j + 1)) (c.1 + c.2.size) = settleW z W os 0 ∧ Wj.length = W.length ∧ Bj.length = B.length ∧ bitsOf Bj z (os.take j))
       have Henj := uh (fun w' (X : List Blk) (V : Turn [] w0 (X ++ (lr5 ++ R)) w') => Hen.out w' X j hj V)
       rw [← hen] at Henj
       have hwr : IntKind.i64.wrap (((c.1 - en : Nat)) : Int) = ((c.1 - en : Nat) : Int) := i64_in _ (by omega)
       have hjb : (j : Int) < (os.length : Int) + 1 := by omega
       have hg9 : en + (c.1 - en) ≤ Wj.length / 2 := by rw [hwl, HZ.out]; omega
       have hf9 : Wj.length ≤ 65536 := by rw [hwl]; exact hf
       clear hc hst hct T hsw hwl hbl hbu hbo hbi hat0 hen hpos
       go_wp2_with fail
       refine Hset.out.mono ?_
       rintro e w4 ⟨rfl, B5, lb5, hsi, hbi, T4⟩
       have HB5 := uh (⟨hsi.1.trans HQ.out.2.2.1, hsi.2.1, HQ.out.2.2.2.set hsi, hbi⟩ : B5.length = B.length ∧ u64ok B5 ∧ bitsOf B5 z (os.take j ++ [c]) ∧ BitIs bb B5 z lb5)
       have HT5 := uh ((T4.perm (l2 := (arBlks a aw Wj cj ++ (spBlk sb a tb bb :: lb5)) ++ (lr5 ++ R)) po).drew)
       clear hsi hbi T4 Hset hat hs2
       go_wp2_with fail
       refine wp_abs (fun W' => Turn [] w0 ((arBlks a aw Wj cj ++ (spBlk sb a tb bb :: lb5)) ++ (lr5 ++ R)) W'.drew) HT5.out fun W1 T1 => ?_
       have hS1 := Henj.out _ _ T1
       have T1' := T1.perm (l2 := arBlks a aw Wj cj ++ (spBlk sb a tb bb :: (lb5 ++ (lr5 ++ R)))) po
       have HG := uh (sgap _ (range_below HF0.out T1'.below) T1' (s := sb) (tb := tb) (bb := bb) (List.mem_cons_self ..) hf9 en (c.1 - en) hg9)
       clear T1 T1' HT5
       refine wp_region_noPanic ?_
       refine wp_region_listed (S := fun W' => W'.cell? ⟨b5, j, none⟩ = some (.int .i64 en)) 12 [false, false, false, false, false, false, false, false, false, false, false, false] rfl rfl (by kernel_rfl) ?_
       refine tkA 0 76 hS1 ?_
       refine tkA 1 77 hS1 ?_
       refine tkA 2 78 hS1 ?_
       refine tkA 3 79 hS1 ?_
       refine tkB 4 80 hS1 (fun w hSw => hSw) ?_
       refine tkA 5 81 hS1 ?_
       refine tkA 6 82 hS1 ?_
       refine tkA 7 83 hS1 ?_
       refine tkA 8 84 hS1 ?_
       refine tkB 9 85 hS1 (fun w hSw => hSw) ?_
       refine tkA 10 86 hS1 ?_
       refine rdyA 11 (fun K hK => ?_)
       go_simp
       refine HG.out.mono ?_
       rintro e w6 ⟨⟨u, rfl⟩, c6, T6⟩
       have hS6 := Henj.out _ _ (T6.perm (l2 := (arBlks a aw (lay Wj en (c.1 - en)) c6 ++ (spBlk sb a tb bb :: lb5)) ++ (lr5 ++ R)) po)
       have HT6 := uh T6
       clear T6 HG hS1
       refine hK.out _ _ hS6 fun _ => ?_
       clear hK K
       simp only [st0, st1, st2]
       refine wpAnyH_done (by kernel_rfl) ?_ _
       refine NoPanic.normal ?_
       clear hS6 Henj
       go_wp2_with fail
       go_roundw
       case rel => exact ⟨j + 1, c.1 + c.2.size, _, B5, lb5, c6, by omega, by go_num, He1.out.symm, HQ.out.1, by rw [lay_len]; exact HQ.out.2.1, HB5.out.1, HB5.out.2.1, by rw [Htk.out]; exact HB5.out.2.2.1, HB5.out.2.2.2, HT6.out⟩
       case measure => simp [intOf]; omega
     · obtain rfl : j = os.length := by omega
       rw [settleW_last (Nat.le_refl _)] at hsw
       rw [List.take_length] at hbo
       have hb := Hle.out os.length
       rw [← hen] at hb
       have hq := Hen.out wr (arBlks a aw Wj cj ++ (spBlk sb a tb bb :: lbj)) os.length (Nat.le_refl _) (T.perm po)
       rw [← hen] at hq
       have A2 := Hsp.out wr Wj cj (lbj ++ (lr5 ++ R)) (by rw [hwl]; exact hf) T
       have Hg2 := uh (sgran _ A2.c0 A2.ar (by rw [hwl]; exact hf))
       rw [hwl, HZ.out] at Hg2
       have HG := uh (sgap _ A2.fields T (s := sb) (tb := tb) (bb := bb) (List.mem_cons_self ..) (by rw [hwl]; exact hf) en (z - en) (by rw [hwl, HZ.out]; omega))
       rw [hsw] at HG
       have HBF := uh (⟨hbl, hbu, hbo, hbi⟩ : Bj.length = B.length ∧ u64ok Bj ∧ bitsOf Bj z os ∧ BitIs bb Bj z lbj)
       have hsub : (z : Int) - (en : Int) = ((z - en : Nat) : Int) := by omega
       have hwr : IntKind.i64.wrap (((z - en : Nat)) : Int) = ((z - en : Nat) : Int) := i64_in _ (by omega)
       have hol : os.length ≤ 65536 := by have := HZ.out; omega
       clear T A2 hsw hwl hbl hbu hbo hbi hen
       go_wp2_with fail
       refine Hg2.out.mono ?_
       rintro e w7 ⟨rfl, hw7⟩
       subst hw7
       go_wp2_with fail
       refine HG.out.mono ?_
       rintro e w8 ⟨⟨u, rfl⟩, c8, T8⟩
       have HT8 := uh ((T8.perm (l2 := lr5 ++ (arBlks a aw (settleW z W os 0) c8 ++ (spBlk sb a tb bb :: lbj) ++ R)) po).drop)
       clear T8 HG Hg2 hq
       go_wp2_with fail
       go_ret
       refine ⟨rfl, Bj, lbj, c8, HBF.out.1, HBF.out.2.1, ?_, ?_, ?_⟩
       · rw [HZ.out]; exact HBF.out.2.2.1
       · rw [HZ.out]; exact HBF.out.2.2.2
       · rw [HZ.out]; exact HT8.out
theorem ssettle_err {w0 : World} (w : World) (sb a aw tb bb : Nat) {W B : List Nat} {lb R : List Blk} {cw : Int} (tao : Option Addr) (tcap : Nat) (L : List Ty) (hB : BitIs bb B (W.length / 2) lb) (_hBu : u64ok B) (_hBl : (W.length / 2 + 63) / 64 ≤ B.length)
  (T : Turn [] w0 (arBlks a aw W cw ++ (spBlk sb a tb bb :: lb) ++ R) w) (hTab : TabAt w0 tb tao tcap L) (hF0 : Fields w0) (hf : W.length ≤ 65536) (hu : ∀ v ∈ W, v < 18446744073709551616) (hTy : ∀ t ∈ L, TyIn t) (hL : L.length ≤ 1000)
  (ats : List Int) (os : List Ce) (hr : rises L W 0 os) (x : Int) (hx : ats[os.length]? = some x) (hpre : ∀ (i : Nat) (c : Ce), os[i]? = some c → ats[i]? = some (c.1 : Int)) (hbad : ∀ h, objq L W x = some h → x < (endOf 0 os : Nat)) (hlen : ats.length ≤ 65536) (aa : Option Addr) (acap : Nat) (hAt : ∀ (w' : World) (X : List Blk), Turn [] w0 (X ++ R) w' → Src w' aa ats.length acap 1 (ints ats)) :
  Calls Tryz.prog 138 #[.pointer (some ⟨sb, 0, none⟩), .slice aa ats.length acap] w fun e w' => e = .returned (.int .i64 2) ∧ Turn [] w0 (arBlks a aw W cw ++ (spBlk sb a tb bb :: lb) ++ R) w' := by
 have hol : os.length < ats.length := (List.getElem?_eq_some_iff.1 hx).1
 have hl0 := rises_len hr (Nat.zero_le _)
 have hzb : W.length / 2 ≤ 32768 := by omega
 have Hsp := uh (fun w' (W' : List Nat) (c' : Int) (Y : List Blk) (hl : W'.length ≤ 65536) (V : Turn [] w0 (arBlks a aw W' c' ++ (spBlk sb a tb bb :: Y)) w') =>
  (⟨V.has.cell (b := sb) (c := #[.pointer (some ⟨a, 0, none⟩), .pointer (some ⟨tb, 0, none⟩), .pointer (some ⟨bb, 0, none⟩)]) (e := 146) (f := (0, 0)) (by simp [spBlk]) 0, V.has.cell (b := sb) (c := #[.pointer (some ⟨a, 0, none⟩), .pointer (some ⟨tb, 0, none⟩), .pointer (some ⟨bb, 0, none⟩)]) (e := 146) (f := (0, 0)) (by simp [spBlk]) 1, arBlks_at V.has hl, hTab.below V.below, range_below hF0 V.below⟩ : SpAt w' sb a aw tb W' tao tcap L))
 have Hs2 := uh (fun w' (Y : List Blk) (V : Turn [] w0 (spBlk sb a tb bb :: Y) w') => (V.cell1 2 : w'.cell? ⟨sb, 2, none⟩ = some (.pointer (some ⟨bb, 0, none⟩))))
 have Hof := uh (fun w' (A : SpAt w' sb a aw tb W tao tcap L) (g : Int) => sof w' A.fields A.ar hu L hTy hL tb tao tcap A.tab g)
 have Hr := uh (fun i c => rises_at hr (i := i) (c := c))
 have Hle := uh (endOf_take_le hr)
 have HA := uh (fun w' X (V : Turn [] w0 (X ++ R) w') => (hAt w' X V).form (by rw [ints_len]; omega))
 have hone : ∀ v : Nat, ∀ u ∈ ([.int .i64 v] : List Value), u.oneCell' = true := by intro v u hu; simp at hu; subst hu; rfl
 have HB := uh hB
 have HT := uh (T.perm (l2 := arBlks a aw W cw ++ (spBlk sb a tb bb :: (lb ++ R))) po)
 have hrow0 : Row 3 1 (some ⟨w.heap.size, 0, none⟩) 1 1 (nats (endsOf (os.take 0))) [(w.heap.size, .cells #[.int .i64 0] 3)] := ⟨rfl, Nat.le_refl _, by decide, .inr ⟨_, _, rfl, rfl, by decide, rfl⟩⟩
 have HR0 := uh hrow0
 have HT0 := uh (HT.out.alloc (.cells #[.int .i64 0] 3))
 have HF0 := uh hF0
 clear T hB hTab hF0 hAt hrow0
 go_enter Tryz.func138, Tryz.ntmps138
 go_wp2_with fail
 go_loopw [5, 18] (fun v5 v18 wr => ∃ (i : Nat) (b5 p5 : Nat) (lr5 : List Blk), i ≤ os.length ∧ v18 = .int .i64 i ∧ v5 = .slice (some ⟨b5, 0, none⟩) (i + 1) p5 ∧ Row 3 1 (some ⟨b5, 0, none⟩) (i + 1) p5 (nats (endsOf (os.take i))) lr5 ∧ Turn [] w0 (lr5 ++ (arBlks a aw W cw ++ (spBlk sb a tb bb :: (lb ++ R)))) wr) (fun _ v18 _ => ats.length - (intOf v18).toNat)
 case atStart => exact ⟨0, w.heap.size, 1, _, Nat.zero_le _, by go_num, by go_num, HR0.out, HT0.out⟩
 case round =>
  clear HT0 HR0
  obtain ⟨i, b5, p5, lr5, hi, rfl, rfl, hr5, T⟩ := hrel
  by_cases hlt : i < os.length
  · have hlt' : (i : Int) < (os.length : Int) := by omega
    obtain ⟨c, hc⟩ : ∃ c, os[i]? = some c := ⟨os[i], List.getElem?_eq_getElem hlt⟩
    obtain ⟨hce, hst, hct⟩ := Hr.out i c hc
    have hoq := objq_of hst hct
    have hroom := hst.2.2
    have hexT := T.perm (l2 := (lr5 ++ (arBlks a aw W cw ++ (spBlk sb a tb bb :: lb))) ++ R) po
    obtain ⟨ab, aoff, rfl, hat0⟩ := HA.out wr _ hexT
    have hat := hat0 i _ (ints_get (hpre i c hc))
    have T7 := T.perm (l2 := arBlks a aw W cw ++ (spBlk sb a tb bb :: (lr5 ++ (lb ++ R)))) po
    have Hen := uh (endsOf_next hc)
    have hcur := (hr5.src (R := arBlks a aw W cw ++ (spBlk sb a tb bb :: (lb ++ R))) T.has)
    have HSp := uh (fun w' Y (V : Turn [] w0 (arBlks a aw W cw ++ (spBlk sb a tb bb :: Y)) w') => Hsp.out w' W cw Y hf V)
    have Hcall := uh (fun w' Y (V : Turn [] w0 (arBlks a aw W cw ++ (spBlk sb a tb bb :: Y)) w') => by
     have h := Hof.out w' (HSp.out w' Y V) c.1
     rw [hoq] at h
     exact h)
    simp only at Hcall
    have hlast := endsOf_take_get os (i := i) (by omega)
    generalize hen : endOf 0 (os.take i) = en at *
    have k1 : decide ((c.1 : Int) < (en : Int)) = false := decide_eq_false (by omega)
    have k2 : decide (c.1 < en) = false := decide_eq_false (by omega)
    have HT7 := uh T7.drew
    have Hr5 := uh hr5
    have Hlast := uh hlast
    clear hexT hat0 T T7 hcur hr5 hlast hst hoq hen HB
    go_wp2_with fail
    refine wp_abs (fun W' => Turn [] w0 (arBlks a aw W cw ++ (spBlk sb a tb bb :: (lr5 ++ (lb ++ R)))) W'.drew) HT7.out fun W1 T1 => ?_
    have hS1 := (⟨(HSp.out _ _ T1).c0, (HSp.out _ _ T1).c1⟩ : W1.drew.cell? ⟨sb, 0, none⟩ = some (.pointer (some ⟨a, 0, none⟩)) ∧ W1.drew.cell? ⟨sb, 1, none⟩ = some (.pointer (some ⟨tb, 0, none⟩)))
    have HT1 := uh T1
    clear T1 HT7 hat
    refine wp_region_noPanic ?_
    refine wp_region_listed (S := fun W' => W'.cell? ⟨sb, 0, none⟩ = some (.pointer (some ⟨a, 0, none⟩)) ∧ W'.cell? ⟨sb, 1, none⟩ = some (.pointer (some ⟨tb, 0, none⟩))) 15 [false, false, false, false, false, false, false, false, false, false, false, false, false, false, false] rfl rfl (by kernel_rfl) ?_
    refine tkA 0 23 hS1 ?_
    refine tkA 1 24 hS1 ?_
    refine tkA 2 25 hS1 ?_
    refine tkB 3 26 hS1 (fun w hSw => hSw.1) ?_
    refine tkA 4 27 hS1 ?_
    refine tkA 5 28 hS1 ?_
    refine tkA 6 29 hS1 ?_
    refine tkB 7 30 hS1 (fun w hSw => hSw.2) ?_
    refine tkA 8 31 hS1 ?_
    refine rdyA 9 (fun K hK => ?_)
    go_simp
    refine (Hcall.out _ _ HT1.out).mono ?_
    rintro e w2 ⟨vb, rfl, T2⟩
    have T3 := HT1.out.grow T2
    have T4 := T3.perm (l2 := arBlks a aw W cw ++ (spBlk sb a tb bb :: ((vb, .cells (viewCells a c.1 c.2 (tyAt L c.2.typ)).toArray 238) :: (lr5 ++ (lb ++ R))))) po
    have hS2 := (⟨(HSp.out _ _ T4).c0, (HSp.out _ _ T4).c1⟩ : w2.cell? ⟨sb, 0, none⟩ = some (.pointer (some ⟨a, 0, none⟩)) ∧ w2.cell? ⟨sb, 1, none⟩ = some (.pointer (some ⟨tb, 0, none⟩)))
    have HT3 := uh (T3.perm (l2 := lr5 ++ ((vb, .cells (viewCells a c.1 c.2 (tyAt L c.2.typ)).toArray 238) :: (arBlks a aw W cw ++ (spBlk sb a tb bb :: (lb ++ R))))) po)
    have hv : VwAt w2 vb a c.1 c.2 (tyAt L c.2.typ) := (T3.has.range (List.mem_cons_self ..))
    have HV := uh hv
    clear T2 T3 T4 hS1 HT1 hv Hcall
    refine hK.out _ _ hS2 fun _ => ?_
    clear hK K
    simp only [st0, st1, st2]
    refine tkA 10 22 hS2 ?_
    refine tkA 11 33 hS2 ?_
    refine tkA 12 34 hS2 ?_
    refine tkA 13 8 hS2 ?_
    refine tkA 14 9 hS2 ?_
    refine wpAnyH_done (by kernel_rfl) ?_ _
    refine NoPanic.normal ?_
    clear hS2
    have q5 : w2.cell? ⟨b5, i, none⟩ = some (.int .i64 en) := by
     have h := (Hr5.out.src (R := (vb, .cells (viewCells a c.1 c.2 (tyAt L c.2.typ)).toArray 238) :: (arBlks a aw W cw ++ (spBlk sb a tb bb :: (lb ++ R)))) HT3.out.has).at_ _ rfl i _ Hlast.out
     rw [add_lit, Nat.zero_add] at h
     exact h
    have hil : i ≤ 65536 := by omega
    have hcb : c.1 + c.2.size ≤ 65536 := by omega
    have h63 : i + 1 + 1 ≤ maxLen := by unfold maxLen; omega
    have hby : (i + 1 + 1) * 8 ≤ 140737488355328 := by omega
    go_wp2_with fail
    refine (vhead w2 HV.out).mono ?_
    rintro e w3 ⟨rfl, hB3⟩
    unfold hdVal
    have hfd : ∀ w : World, (Instr.field 79 (.agg #[.int .u8 c.2.tag, .int .i64 c.2.typ, .int .i64 c.2.len, .int .i64 c.2.size]) 3).run Tryz.prog w = .ok (.int .i64 c.2.size) w := fun _ => by kernel_rfl
    have hfd1 : ∀ w : World, (Instr.field 79 (.agg #[.int .u8 1, .int .i64 c.2.typ, .int .i64 c.2.len, .int .i64 c.2.size]) 3).run Tryz.prog w = .ok (.int .i64 c.2.size) w := fun _ => by kernel_rfl
    have HT4 := uh (HT3.out.call hB3)
    clear hB3 HT3 q5 HV Hlast
    go_wp2_with (first
     | (at_builtin; refine wpList_append_row rfl _ _ rfl el_int rfl Hr5.out (R := (w3.heap.size, .cells #[.int .i64 ((c.1 : Int) + (c.2.size : Int))] 3) :: (vb, .cells (viewCells a c.1 c.2 (tyAt L c.2.typ)).toArray 238) :: (arBlks a aw W cw ++ (spBlk sb a tb bb :: (lb ++ R)))) ((HT4.out.alloc (.cells #[.int .i64 ((c.1 : Int) + (c.2.size : Int))] 3)).perm po).has rfl (news := [.int .i64 ((c.1 : Int) + (c.2.size : Int))]) rfl (news_of (heap_alloc_new _ _)) (by simp [Value.oneCell']) h63 hby ?_; intro a9 p9 l9 w9 hr9 V9 hno; have HT9 := uh (((HT4.out.alloc (.cells #[.int .i64 ((c.1 : Int) + (c.2.size : Int))] 3)).perm (l2 := lr5 ++ ((w3.heap.size, .cells #[.int .i64 ((c.1 : Int) + (c.2.size : Int))] 3) :: (vb, .cells (viewCells a c.1 c.2 (tyAt L c.2.typ)).toArray 238) :: (arBlks a aw W cw ++ (spBlk sb a tb bb :: (lb ++ R))))) po).trans V9); have Hr9 := uh hr9; clear hr9 V9 hno)
     | fail)
    obtain ⟨b9, cur9, rfl, -, -, -⟩ := Hr9.out.some_of (by omega)
    go_roundw
    case rel =>
     refine ⟨i + 1, b9, p9, l9, by omega, by go_num, by go_num, ?_, ((HT9.out.perm (l2 := [(w3.heap.size, .cells #[.int .i64 ((c.1 : Int) + (c.2.size : Int))] 3), (vb, .cells (viewCells a c.1 c.2 (tyAt L c.2.typ)).toArray 238)] ++ (l9 ++ (arBlks a aw W cw ++ (spBlk sb a tb bb :: (lb ++ R))))) po).drop)⟩
     rw [Hen.out, nats_append]
     have h9 : nats [c.1 + c.2.size] = [.int .i64 ((c.1 : Int) + (c.2.size : Int))] := by simp [nats]
     rw [h9]
     exact Hr9.out
    case measure => simp [intOf]; omega
  · obtain rfl : i = os.length := by omega
    have hlt' : ((os.length : Nat) : Int) < (ats.length : Int) := by omega
    have hexT := T.perm (l2 := (lr5 ++ (arBlks a aw W cw ++ (spBlk sb a tb bb :: lb))) ++ R) po
    obtain ⟨ab, aoff, rfl, hat0⟩ := HA.out wr _ hexT
    have hat := hat0 os.length _ (ints_get hx)
    have T7 := T.perm (l2 := arBlks a aw W cw ++ (spBlk sb a tb bb :: (lr5 ++ (lb ++ R)))) po
    have HSp := uh (fun w' Y (V : Turn [] w0 (arBlks a aw W cw ++ (spBlk sb a tb bb :: Y)) w') => Hsp.out w' W cw Y hf V)
    have hlast := endsOf_take_get os (i := os.length) (Nat.le_refl _)
    rw [List.take_length] at hlast hr5
    generalize hen : endOf 0 os = en at *
    have HT7 := uh T7.drew
    have Hr5 := uh hr5
    have Hlast := uh hlast
    have Hcall := uh (fun w' Y (V : Turn [] w0 (arBlks a aw W cw ++ (spBlk sb a tb bb :: Y)) w') => Hof.out w' (HSp.out w' Y V) x)
    have hil : os.length ≤ 65536 := by omega
    clear hexT hat0 T T7 hr5 hlast hen HB
    go_wp2_with fail
    refine wp_abs (fun W' => Turn [] w0 (arBlks a aw W cw ++ (spBlk sb a tb bb :: (lr5 ++ (lb ++ R)))) W'.drew) HT7.out fun W1 T1 => ?_
    have hS1 := (⟨(HSp.out _ _ T1).c0, (HSp.out _ _ T1).c1⟩ : W1.drew.cell? ⟨sb, 0, none⟩ = some (.pointer (some ⟨a, 0, none⟩)) ∧ W1.drew.cell? ⟨sb, 1, none⟩ = some (.pointer (some ⟨tb, 0, none⟩)))
    have HT1 := uh T1
    have hcl := uh (Hcall.out _ _ T1)
    clear T1 HT7 hat Hcall
    refine wp_region_noPanic ?_
    refine wp_region_listed (S := fun W' => W'.cell? ⟨sb, 0, none⟩ = some (.pointer (some ⟨a, 0, none⟩)) ∧ W'.cell? ⟨sb, 1, none⟩ = some (.pointer (some ⟨tb, 0, none⟩))) 15 [false, false, false, false, false, false, false, false, false, false, false, false, false, false, false] rfl rfl (by kernel_rfl) ?_
    refine tkA 0 23 hS1 ?_
    refine tkA 1 24 hS1 ?_
    refine tkA 2 25 hS1 ?_
    refine tkB 3 26 hS1 (fun w hSw => hSw.1) ?_
    refine tkA 4 27 hS1 ?_
    refine tkA 5 28 hS1 ?_
    refine tkA 6 29 hS1 ?_
    refine tkB 7 30 hS1 (fun w hSw => hSw.2) ?_
    refine tkA 8 31 hS1 ?_
    refine rdyA 9 (fun K hK => ?_)
    go_simp
    cases hq : objq L W x with
    | none =>
     rw [hq] at hcl
     refine hcl.out.mono ?_
     rintro e w2 ⟨er, rfl, hne, hB2⟩
     have T3 := HT1.out.call hB2
     have hS2 := (⟨(HSp.out _ _ T3).c0, (HSp.out _ _ T3).c1⟩ : w2.cell? ⟨sb, 0, none⟩ = some (.pointer (some ⟨a, 0, none⟩)) ∧ w2.cell? ⟨sb, 1, none⟩ = some (.pointer (some ⟨tb, 0, none⟩)))
     have HT3 := uh ((T3.perm (l2 := lr5 ++ (arBlks a aw W cw ++ (spBlk sb a tb bb :: lb) ++ R)) po).drop)
     have ke : (er != 0) = true := by rw [bne_iff_ne]; exact hne
     clear T3 hB2 hS1 HT1 hcl
     refine hK.out _ _ hS2 fun _ => ?_
     clear hK K
     simp only [st0, st1, st2]
     refine tkA 10 22 hS2 ?_
     refine tkA 11 33 hS2 ?_
     refine tkA 12 34 hS2 ?_
     refine tkA 13 8 hS2 ?_
     refine tkA 14 9 hS2 ?_
     refine wpAnyH_done (by kernel_rfl) ?_ _
     refine NoPanic.normal ?_
     clear hS2
     go_wp2_with fail
     go_ret
     exact ⟨rfl, HT3.out⟩
    | some h =>
     rw [hq] at hcl
     refine hcl.out.mono ?_
     rintro e w2 ⟨vb, rfl, T2⟩
     have T3 := HT1.out.grow T2
     have T4 := T3.perm (l2 := arBlks a aw W cw ++ (spBlk sb a tb bb :: ((vb, .cells (viewCells a x h (tyAt L h.typ)).toArray 238) :: (lr5 ++ (lb ++ R))))) po
     have hS2 := (⟨(HSp.out _ _ T4).c0, (HSp.out _ _ T4).c1⟩ : w2.cell? ⟨sb, 0, none⟩ = some (.pointer (some ⟨a, 0, none⟩)) ∧ w2.cell? ⟨sb, 1, none⟩ = some (.pointer (some ⟨tb, 0, none⟩)))
     have HT3 := uh ((T3.perm (l2 := ((vb, .cells (viewCells a x h (tyAt L h.typ)).toArray 238) :: lr5) ++ (arBlks a aw W cw ++ (spBlk sb a tb bb :: lb) ++ R)) po).drop)
     have q5 : w2.cell? ⟨b5, os.length, none⟩ = some (.int .i64 en) := by
      have h9 := (Hr5.out.src (R := (vb, .cells (viewCells a x h (tyAt L h.typ)).toArray 238) :: (arBlks a aw W cw ++ (spBlk sb a tb bb :: (lb ++ R)))) (T3.has.perm po)).at_ _ rfl os.length _ Hlast.out
      rw [add_lit, Nat.zero_add] at h9
      exact h9
     have hlt9 := hbad h hq
     have k1 : decide (x < (en : Int)) = true := decide_eq_true hlt9
     clear T2 T3 T4 hS1 HT1 hcl
     refine hK.out _ _ hS2 fun _ => ?_
     clear hK K
     simp only [st0, st1, st2]
     refine tkA 10 22 hS2 ?_
     refine tkA 11 33 hS2 ?_
     refine tkA 12 34 hS2 ?_
     refine tkA 13 8 hS2 ?_
     refine tkA 14 9 hS2 ?_
     refine wpAnyH_done (by kernel_rfl) ?_ _
     refine NoPanic.normal ?_
     clear hS2
     go_wp2_with fail
     go_ret
     exact ⟨rfl, HT3.out⟩
end
section
open Go Go.RowKit Go.IntWalk
theorem el_type : Elem Tryz.prog 22 49 3 24 (tyVal ⟨0, 0, 0⟩) := Elem.of Tryz.underlying22 (by kernel_rfl) rfl
theorem tys_append (a b : List Ty) : tys (a ++ b) = tys a ++ tys b := by simp [tys]
def TabIs (tb : Nat) (L : List Ty) (l : List Blk) : Prop := ∃ ao cap lr, Row 49 3 ao L.length cap (tys L) lr ∧ l = (tb, .cells #[.slice ao L.length cap] 228) :: lr
theorem tput {l0 l R : List Blk} {w0 : World} (w : World) {tb : Nat} {L : List Ty} (hI : TabIs tb L l) (T : Turn l0 w0 (l ++ R) w) (hL : L.length ≤ 1000) (t : Ty) :
  Calls Tryz.prog 186 #[.pointer (some ⟨tb, 0, none⟩), tyVal t] w fun e w' => e = .returned (.int .i64 (L.length + 1 : Nat)) ∧ ∃ l', TabIs tb (L ++ [t]) l' ∧ Turn l0 w0 (l' ++ R) w' := by
 obtain ⟨ao, cap, lr, hr, rfl⟩ := hI
 obtain ⟨k, m, mk⟩ := t
 have T1 := T.alloc (.cells #[.int .u8 k, .int .i64 m, .int .u64 mk] 49)
 have c0 : (w.alloc (.cells #[.int .u8 k, .int .i64 m, .int .u64 mk] 49)).cell? ⟨tb, 0, none⟩ = some (.slice ao L.length cap) := T1.has.cell (b := tb) (c := #[.slice ao L.length cap]) (e := 228) (f := (0, 0)) (by simp) 0
 have f0 : (w.alloc (.cells #[.int .u8 k, .int .i64 m, .int .u64 mk] 49)).frozen? ⟨tb, 0, none⟩ = false := T1.has.free (b := tb) (c := #[.slice ao L.length cap]) (e := 228) (by simp) 0
 have b0 := T1.cell1 0
 have b1 := T1.cell1 1
 have b2 := T1.cell1 2
 have T00 := (T1.alloc (.cells #[.int .u8 k, .int .i64 m, .int .u64 mk] 49)).drew
 rw [World.size_alloc] at T00
 have T0 := T00.perm (l2 := lr ++ ((w.heap.size + 1, .cells #[.int .u8 k, .int .i64 m, .int .u64 mk] 49) :: (tb, .cells #[.slice ao L.length cap] 228) :: (w.heap.size, .cells #[.int .u8 k, .int .i64 m, .int .u64 mk] 49) :: R)) po
 have h63 : L.length + 1 ≤ maxLen := by unfold maxLen; omega
 have hby : (L.length + 1) * 24 ≤ 140737488355328 := by omega
 have HT0 := uh T0
 have hnews : ∀ (j : Nat) (u : Value), ([.int .u8 k, .int .i64 m, .int .u64 mk] : List Value)[j]? = some u → ((w.alloc (.cells #[.int .u8 k, .int .i64 m, .int .u64 mk] 49)).drew.alloc (.cells #[.int .u8 k, .int .i64 m, .int .u64 mk] 49)).cell? ((⟨w.heap.size + 1, 0, none⟩ : Addr).add j) = some u := fun j u hj => by
  have h := T00.has.cell (b := w.heap.size + 1) (c := #[.int .u8 k, .int .i64 m, .int .u64 mk]) (e := 49) (f := (0, 0)) (List.mem_cons_self ..) j
  rw [add_lit, Nat.zero_add]
  exact h.trans (by rw [← Array.getElem?_toList]; exact hj)
 have c0b : ((w.alloc (.cells #[.int .u8 k, .int .i64 m, .int .u64 mk] 49)).alloc (.cells #[.int .u8 k, .int .i64 m, .int .u64 mk] 49)).cell? ⟨tb, 0, none⟩ = some (.slice ao L.length cap) := T00.has.cell (b := tb) (c := #[.slice ao L.length cap]) (e := 228) (f := (0, 0)) (by simp) 0
 have b0b : ((w.alloc (.cells #[.int .u8 k, .int .i64 m, .int .u64 mk] 49)).alloc (.cells #[.int .u8 k, .int .i64 m, .int .u64 mk] 49)).cell? ⟨w.heap.size, 0, none⟩ = some (.int .u8 k) := T00.has.cell (b := w.heap.size) (c := #[.int .u8 k, .int .i64 m, .int .u64 mk]) (e := 49) (f := (0, 0)) (by simp) 0
 have b1b : ((w.alloc (.cells #[.int .u8 k, .int .i64 m, .int .u64 mk] 49)).alloc (.cells #[.int .u8 k, .int .i64 m, .int .u64 mk] 49)).cell? ⟨w.heap.size, 1, none⟩ = some (.int .i64 m) := T00.has.cell (b := w.heap.size) (c := #[.int .u8 k, .int .i64 m, .int .u64 mk]) (e := 49) (f := (0, 0)) (by simp) 1
 have b2b : ((w.alloc (.cells #[.int .u8 k, .int .i64 m, .int .u64 mk] 49)).alloc (.cells #[.int .u8 k, .int .i64 m, .int .u64 mk] 49)).cell? ⟨w.heap.size, 2, none⟩ = some (.int .u64 mk) := T00.has.cell (b := w.heap.size) (c := #[.int .u8 k, .int .i64 m, .int .u64 mk]) (e := 49) (f := (0, 0)) (by simp) 2
 have Hnews := uh hnews
 clear hnews T00
 have Hr := uh hr
 clear T T1 T0 hr
 go_enter Tryz.func186, Tryz.ntmps186
 go_wp2_with fail
 go_region_law ((refine step_append_row (by rfl) _ _ (by rfl) el_type (by rfl) Hr.out HT0.out.has (by rfl) (news := [.int .u8 k, .int .i64 m, .int .u64 mk]) (by rfl) Hnews.out (by simp [Value.oneCell']) h63 hby ?_; intro a' p' l' w1 hr1 T1 hno; have V1 := (HT0.out.trans T1).perm (l2 := (tb, .cells #[.slice ao L.length cap] 228) :: ((w.heap.size + 1, .cells #[.int .u8 k, .int .i64 m, .int .u64 mk] 49) :: (w.heap.size, .cells #[.int .u8 k, .int .i64 m, .int .u64 mk] 49) :: (l' ++ R))) po; have d0 := V1.cell1 0; have e0 := V1.free1 0; have HV1 := uh V1; have Hr1 := uh hr1; clear V1 hr1 T1 hno))
 all_goals (have V2 := uh (HV1.out.setCell 0 (.slice a' (L.length + 1 : Nat) p')))
 all_goals (have c2 := V2.out.cell1 0)
 all_goals go_wp2
 all_goals go_ret
 all_goals (refine ⟨?_, (tb, .cells #[.slice a' (L.length + 1) p'] 228) :: l', ⟨a', p', l', ?_, by rw [List.length_append]; rfl⟩, ?_⟩)
 all_goals first
  | rfl
  | (rw [List.length_append, tys_append]; exact Hr1.out)
  | exact (((V2.out.swap.drop (a := [_])).swap.drop (a := [_])))
theorem tadd_no {l0 l R : List Blk} {w0 : World} (w : World) {tb : Nat} {L : List Ty} (hI : TabIs tb L l) (T : Turn l0 w0 (l ++ R) w) (hL : L.length ≤ 64) (t : Ty) (ht : TyIn t) (hno : ¬ (t.may ∧ L.length < 64)) :
  Calls Tryz.prog 124 #[.pointer (some ⟨tb, 0, none⟩), tyVal t] w fun e w' => ∃ er : Int, e = .returned (.tuple #[.int .i64 0, .int .i64 er]) ∧ er ≠ 0 ∧ Turn l0 w0 (l ++ R) w' := by
 have hszT := sz_type
 have Hk := uh (fun W => kcheck W t ht)
 have HI := uh hI
 obtain ⟨ao, cap, lr, hr, rfl⟩ := hI
 obtain ⟨k, m, mk⟩ := t
 have T1 := T.alloc (.cells #[.int .u8 k, .int .i64 m, .int .u64 mk] 49)
 have hr1 := T1.range1
 have HT := uh T1
 clear T T1 hr ht
 by_cases hm : (Ty.mk k m mk).may
 · have hlen : L.length = 64 := by
     rcases Nat.lt_or_ge L.length 64 with h | h
     · exact absurd ⟨hm, h⟩ hno
     · omega
   rw [if_pos hm] at Hk
   clear hm hno
   go_enter Tryz.func124, Tryz.ntmps124
   go_wp2_with (first
    | (show lW 49; refine wpList_load_mid rfl 49 _ rfl w.heap.size 0 rfl [.int .u8 k, .int .i64 m, .int .u64 mk] _ hr1 Tryz.underlying49 rfl hszT ?_)
    | (go_at_call 185; refine (Hk.out _).mono ?_; rintro e w2 ⟨rfl, hB2⟩; have HT2 := uh (HT.out.call hB2); have c2 : w2.cell? ⟨tb, 0, none⟩ = some (.slice ao L.length cap) := HT2.out.cell2 0; clear hB2)
    | fail)
   go_ret2
   exact ⟨4, rfl, by decide, HT2.out.tail⟩
 · rw [if_neg hm] at Hk
   clear hm hno
   go_enter Tryz.func124, Tryz.ntmps124
   go_wp2_with (first
    | (show lW 49; refine wpList_load_mid rfl 49 _ rfl w.heap.size 0 rfl [.int .u8 k, .int .i64 m, .int .u64 mk] _ hr1 Tryz.underlying49 rfl hszT ?_)
    | (go_at_call 185; refine (Hk.out _).mono ?_; rintro e w2 ⟨rfl, hB2⟩; have HT2 := uh (HT.out.call hB2); clear hB2)
    | fail)
   go_ret2
   exact ⟨2, rfl, by decide, HT2.out.tail⟩
theorem tadd {l0 l R : List Blk} {w0 : World} (w : World) {tb : Nat} {L : List Ty} (hI : TabIs tb L l) (T : Turn l0 w0 (l ++ R) w) (t : Ty) (ht : TyIn t) (hm : t.may) (hL : L.length < 64) :
  Calls Tryz.prog 124 #[.pointer (some ⟨tb, 0, none⟩), tyVal t] w fun e w' => e = .returned (.tuple #[.int .i64 (L.length + 1 : Nat), .int .i64 0]) ∧ ∃ l', TabIs tb (L ++ [t]) l' ∧ Turn l0 w0 (l' ++ R) w' := by
 have hszT := sz_type
 have Hk := uh (fun W => kcheck W t ht)
 rw [if_pos hm] at Hk
 have HPut := uh (fun W (V : Turn l0 w0 (l ++ ((w.heap.size, .cells #[.int .u8 t.kind, .int .i64 t.words, .int .u64 t.mask] 49) :: R)) W) => tput W hI V (by omega) t)
 obtain ⟨ao, cap, lr, hr, rfl⟩ := hI
 obtain ⟨k, m, mk⟩ := t
 have T1 := T.alloc (.cells #[.int .u8 k, .int .i64 m, .int .u64 mk] 49)
 have hr1 := T1.range1
 have HT := uh T1
 have kl : decide ((64 : Int) ≤ (L.length : Int)) = false := decide_eq_false (by omega)
 have kl2 : ¬ (64 : Int) ≤ (L.length : Int) := by omega
 have kl3 : ¬ 64 ≤ L.length := by omega
 clear T T1 hr ht hm
 go_enter Tryz.func124, Tryz.ntmps124
 go_wp2_with (first
  | (show lW 49; refine wpList_load_mid rfl 49 _ rfl w.heap.size 0 rfl [.int .u8 k, .int .i64 m, .int .u64 mk] _ hr1 Tryz.underlying49 rfl hszT ?_)
  | (go_at_call 185; refine (Hk.out _).mono ?_; rintro e w2 ⟨rfl, hB2⟩; have HT2 := uh (HT.out.call hB2); have c2 : w2.cell? ⟨tb, 0, none⟩ = some (.slice ao L.length cap) := HT2.out.cell2 0; clear hB2)
  | fail)
 refine wp_abs (fun W' => Turn l0 w0 ((w.heap.size, .cells #[.int .u8 k, .int .i64 m, .int .u64 mk] 49) :: (tb, .cells #[.slice ao L.length cap] 228) :: (lr ++ R)) W'.drew) HT2.out.drew fun W1 T1 => ?_
 clear HT HT2 c2
 have hS := T1.range1
 have HT1 := uh (T1.perm (l2 := ((tb, .cells #[.slice ao L.length cap] 228) :: lr) ++ ((w.heap.size, .cells #[.int .u8 k, .int .i64 m, .int .u64 mk] 49) :: R)) po)
 clear T1
 refine wp_region_noPanic ?_
 refine wp_region_listed (S := fun W' => W'.rangeAt w.heap.size 0 [.int .u8 k, .int .i64 m, .int .u64 mk]) 7 [false, false, false, false, false, false, false] rfl rfl (by kernel_rfl) ?_
 refine tkA 0 21 hS ?_
 refine tkA 1 22 hS ?_
 refine tkA 2 23 hS ?_
 refine tkC 3 24 hS (fun w' hSw => load_mid_run 49 _ rfl w.heap.size 0 rfl [.int .u8 k, .int .i64 m, .int .u64 mk] _ hSw Tryz.underlying49 rfl hszT) ?_
 refine rdyA 4 (fun K hK => ?_)
 go_simp
 refine (HPut.out _ HT1.out).mono ?_
 rintro e W3 ⟨rfl, l', hI3, T3⟩
 have hS3 : W3.rangeAt w.heap.size 0 [.int .u8 k, .int .i64 m, .int .u64 mk] := T3.has.range (b := w.heap.size) (c := #[.int .u8 k, .int .i64 m, .int .u64 mk]) (e := 49) (f := (0, 0)) (by simp)
 have HT3 := uh (T3.sub (l2 := l' ++ R) (List.Sublist.append (List.Sublist.refl l') (List.sublist_cons_self ..)))
 have HI3 := uh hI3
 clear T3 HT1 hS hI3
 refine hK.out _ _ hS3 fun _ => ?_
 clear hK K
 simp only [st0, st1, st2]
 refine tkA 5 4 hS3 ?_
 refine tkA 6 5 hS3 ?_
 refine wpAnyH_done (by kernel_rfl) ?_ _
 refine NoPanic.normal ?_
 clear hS3
 go_wp2
 go_ret2
 exact ⟨rfl, l', HI3.out, HT3.out⟩
theorem tnew (w : World) (L : List Ty) (ao : Option Addr) (cap : Nat) (hS : Src w ao L.length cap 3 (tys L)) (hTy : ∀ t ∈ L, TyIn t) (hL : L.length ≤ 1000) (Qp : Ending → World → Prop)
  (HY : Hid ((∀ t ∈ L, t.may) ∧ L.length ≤ 64 → ∀ w' l, TabIs w.heap.size L l → Turn [] w l w' → Qp (.returned (.tuple #[.pointer (some ⟨w.heap.size, 0, none⟩), .int .i64 0])) w'))
  (HN : Hid (¬ ((∀ t ∈ L, t.may) ∧ L.length ≤ 64) → ∀ (er : Int) w', er ≠ 0 → Below w.heap.size w w' → Qp (.returned (.tuple #[.pointer none, .int .i64 er])) w')) :
  Calls Tryz.prog 47 #[.slice ao L.length cap] w Qp := by
 have hszT := sz_type
 have T0 := (Turn.refl (Has.nil w)).alloc (.cells #[.slice none 0 0] 228)
 have HT0 := uh T0
 have HS := uh (fun w' (hB : Below w.heap.size w w') => hS.below hB)
 have HL := uh hL
 clear T0 hS
 have HF := uh (fun (h : 0 < L.length) => ((HS.out w (Below.refl _ _)).form (by rw [tys_length]; omega)))
 go_enter Tryz.func47, Tryz.ntmps47
 go_wp2
 go_loopw [13] (fun v13 wr => ∃ (j : Nat) (l : List Blk), j ≤ L.length ∧ j ≤ 64 ∧ v13 = .int .i64 j ∧ TabIs w.heap.size (L.take j) l ∧ Turn [] w (l ++ []) wr ∧ ∀ t ∈ L.take j, t.may) (fun v13 _ => L.length - (intOf v13).toNat)
 case atStart => exact ⟨0, (w.heap.size, .cells #[.slice none 0 0] 228) :: [], Nat.zero_le _, by omega, by go_num, ⟨none, 0, [], Row.nil _ _, rfl⟩, HT0.out, by simp⟩
 case round =>
  clear HT0
  obtain ⟨j, l, hj, h64, rfl, hI, T, hmay⟩ := hrel
  by_cases hlt : j < L.length
  · have hlt' : (j : Int) < (L.length : Int) := by omega
    obtain ⟨t, ht⟩ : ∃ t, L[j]? = some t := ⟨L[j], List.getElem?_eq_getElem hlt⟩
    have htm : t ∈ L := List.mem_of_getElem? ht
    have hti := hTy t htm
    obtain ⟨b, off, rfl, -⟩ := HF.out (by omega)
    have hrg := (HS.out wr T.below).ty ht
    have htk : L.take (j + 1) = L.take j ++ [t] := by rw [List.take_add_one, ht]; rfl
    have hlj : (L.take j).length = j := by rw [List.length_take]; omega
    have T1 := T.alloc (.cells #[.int .u8 0, .int .i64 0, .int .u64 0] 49)
    have hth : (wr.alloc (.cells #[.int .u8 0, .int .i64 0, .int .u64 0] 49)).there wr.heap.size 0 3 := T1.there1
    have T2 := T1.laid (tyCells t) rfl
    have hr6 := T2.range1
    have T3 := T2.perm (l2 := l ++ [(wr.heap.size, .cells (tyCells t).toArray 49)]) po
    have hoT := ty_one t
    obtain ⟨k, m, mk⟩ := t
    by_cases hm : (Ty.mk k m mk).may ∧ j < 64
    · have HA := uh (tadd _ hI T3 _ hti hm.1 (by omega))
      rw [hlj, ← htk] at HA
      have hm' : ∀ t ∈ L.take (j + 1), t.may := by
       rw [htk]
       intro t ht
       rcases List.mem_append.1 ht with h | h
       · exact hmay t h
       · rw [List.mem_singleton.1 h]; exact hm.1
      have hj64 := hm.2
      have Hm' := uh hm'
      clear T T1 T2 T3 hI hm hm' htk hlj hti htm ht hmay hTy
      go_wp2_with (first
       | (show wpList _ _ _ (⟨_, Op.load 49 (.tmp 15), _, _, _, _⟩ :: _) _ _; refine wpList_load_mid rfl 49 _ rfl b (off + j * 3) rfl [.int .u8 k, .int .i64 m, .int .u64 mk] _ hrg Tryz.underlying49 rfl hszT ?_; clear hrg)
       | (show sW 49; refine wpList_store_mid rfl 49 _ _ rfl _ 0 #[.int .u8 k, .int .i64 m, .int .u64 mk] rfl rfl hth hszT hoT ?_; clear hth)
       | (show wpList _ _ _ (⟨_, Op.load 49 (.tmp 6), _, _, _, _⟩ :: _) _ _; refine wpList_load_mid rfl 49 _ rfl wr.heap.size 0 rfl [.int .u8 k, .int .i64 m, .int .u64 mk] _ hr6 Tryz.underlying49 rfl hszT ?_; clear hr6)
       | (go_at_call 124; refine HA.out.mono ?_; rintro e w2 ⟨rfl, l2, hI2, hT2⟩; have HT2 := uh hT2; have HI2 := uh hI2; clear hT2 hI2)
       | fail)
      go_roundw
      case rel => exact ⟨j + 1, l2, by omega, by omega, by go_num, HI2.out, HT2.out.sub (List.sublist_append_left l2 _) |>.perm (by simp), Hm'.out⟩
      case measure => simp [intOf]; omega
    · have HA := uh (tadd_no _ hI T3 (by omega) _ hti (by rw [hlj]; exact hm))
      have HN2 := uh (HN.out (fun h => hm ⟨h.1 _ htm, by omega⟩))
      clear T T1 T2 T3 hI hm htk hlj hti htm ht hmay hTy HY HN
      go_wp2_with (first
       | (show wpList _ _ _ (⟨_, Op.load 49 (.tmp 15), _, _, _, _⟩ :: _) _ _; refine wpList_load_mid rfl 49 _ rfl b (off + j * 3) rfl [.int .u8 k, .int .i64 m, .int .u64 mk] _ hrg Tryz.underlying49 rfl hszT ?_; clear hrg)
       | (show sW 49; refine wpList_store_mid rfl 49 _ _ rfl _ 0 #[.int .u8 k, .int .i64 m, .int .u64 mk] rfl rfl hth hszT hoT ?_; clear hth)
       | (show wpList _ _ _ (⟨_, Op.load 49 (.tmp 6), _, _, _, _⟩ :: _) _ _; refine wpList_load_mid rfl 49 _ rfl wr.heap.size 0 rfl [.int .u8 k, .int .i64 m, .int .u64 mk] _ hr6 Tryz.underlying49 rfl hszT ?_; clear hr6)
       | (go_at_call 124; refine HA.out.mono ?_; rintro e w2 ⟨er, rfl, her, hT2⟩; have HT2 := uh hT2; clear hT2; have her2 : (er != 0) = true := by rw [bne_iff_ne]; exact her)
       | fail)
      exact HN2.out er _ her (Turn.below HT2.out)
  · obtain rfl : j = L.length := by omega
    rw [List.take_length] at hI hmay
    have HY2 := uh (HY.out ⟨hmay, h64⟩ wr l hI (by rw [List.append_nil] at T; exact T))
    clear T hI hmay HY HN hTy
    go_wp2
    exact HY2.out
end
section
open Go Go.RowKit Go.Shelf Go.IntWalk
theorem snew_no (w : World) (tb : Nat) (n : Int) (h : ¬ mayWords n) :
  Calls Tryz.prog 48 #[.int .i64 n, .pointer (some ⟨tb, 0, none⟩)] w fun e w' => e = .returned (.tuple #[.pointer none, .int .i64 2]) ∧ w' = w := by
 have Ha := uh (anew_no w n h)
 clear h
 go_enter Tryz.func48, Tryz.ntmps48
 go_wp2_with fail
 refine Ha.out.mono ?_
 rintro e w1 ⟨rfl, hw⟩
 subst hw
 go_wp2_with fail
 refine bodyPost_ret (results_tmp2 rfl _ _ _) rfl ?_
 exact ⟨rfl, rfl⟩
theorem TabIs.tab {w : World} {tb : Nat} {L : List Ty} {l R : List Blk} (h : TabIs tb L l) (hH : Has w (l ++ R)) : ∃ ao cap, TabAt w tb ao cap L := by
 obtain ⟨ao, cap, lr, hr, rfl⟩ := h
 exact ⟨ao, cap, hH.cell (b := tb) (c := #[.slice ao L.length cap]) (e := 228) (f := (0, 0)) (by simp) 0, hr.src (R := (tb, .cells #[.slice ao L.length cap] 228) :: R) (hH.perm po)⟩
theorem results_tmp3 {fn : Func} {p q r : Tmp} (h : fn.results = #[.tmp p, .tmp q, .tmp r]) (P : Program) (tmps : Array Value) (w : World) : (results fn tmps).run P w = .ok (.tuple #[tmps.getD p undef, tmps.getD q undef, tmps.getD r undef]) w := by
 simp [results, h]
theorem made_types (w : World) (L : List Ty) (lao : Option Addr) (lcap : Nat) (hS : Src w lao L.length lcap 3 (tys L)) (hTy : ∀ t ∈ L, TyIn t) (hL : L.length ≤ 1000) (hno : ¬ ((∀ t ∈ L, t.may) ∧ L.length ≤ 64)) (n : Int) :
  Calls Tryz.prog 54 #[.int .i64 n, .slice lao L.length lcap] w fun e w' => e = .returned (.tuple #[.pointer none, .pointer none, .bool true]) ∧ Below w.heap.size w w' := by
 have HS := uh hS
 clear hS
 go_enter Tryz.func54, Tryz.ntmps54
 go_wp2_with fail
 refine tnew w L lao lcap HS.out hTy hL _ (uh (fun h => absurd h hno)) (uh (fun _ er w1 hne hB => ?_))
 have ke : (er != 0) = true := by rw [bne_iff_ne]; exact hne
 clear hne hno HS hTy
 go_wp2_with fail
 refine bodyPost_ret (results_tmp3 rfl _ _ _) rfl ?_
 exact ⟨rfl, hB⟩
theorem made_few (w : World) (L : List Ty) (lao : Option Addr) (lcap : Nat) (hS : Src w lao L.length lcap 3 (tys L)) (hTy : ∀ t ∈ L, TyIn t) (hL : L.length ≤ 1000) (hok : (∀ t ∈ L, t.may) ∧ L.length ≤ 64) (n : Int) (hn : ¬ mayWords n) :
  Calls Tryz.prog 54 #[.int .i64 n, .slice lao L.length lcap] w fun e w' => e = .returned (.tuple #[.pointer none, .pointer none, .bool true]) ∧ Below w.heap.size w w' := by
 have HS := uh hS
 have HN := uh hn
 have Hno := uh (fun w' tb => snew_no w' tb n hn)
 have hcase : n < 16 ∨ (¬ n < 16 ∧ 65536 < n) ∨ (¬ n < 16 ∧ ¬ 65536 < n ∧ n % 2 ≠ 0) := by
  unfold mayWords at hn
  omega
 clear hS hn
 go_enter Tryz.func54, Tryz.ntmps54
 go_wp2_with fail
 refine tnew w L lao lcap HS.out hTy hL _ (uh (fun _ w1 lt hti T1 => ?_)) (uh (fun h => absurd hok h))
 have HB := uh T1.below
 clear T1 hti HS hTy hok
 go_wp2_with fail
 refine (Hno.out _ _).mono ?_
 rintro e w2 ⟨rfl, hw⟩
 subst hw
 rcases hcase with h | ⟨h1, h2⟩ | ⟨h1, h2, h3⟩
 case' inl => (
  have k1 : decide (n < 16) = true := decide_eq_true h
  go_wp2_with fail)
 case' inr.inl => (
  have k1 : decide (n < 16) = false := decide_eq_false (by omega)
  have k2 : decide (65536 < n) = true := decide_eq_true h2
  go_wp2_with fail)
 case' inr.inr => (
  have k1 : decide (n < 16) = false := decide_eq_false (by omega)
  have k2 : decide (65536 < n) = false := decide_eq_false (by omega)
  have k5 : n.tmod 2 = n % 2 := Int.tmod_eq_emod_of_nonneg (by omega)
  have k4 : (n % 2 != 0) = true := by rw [bne_iff_ne]; exact h3
  have k6 : ¬ n % 2 = 0 := h3
  go_wp2_with fail)
 all_goals (
  refine bodyPost_ret (results_tmp3 rfl _ _ _) rfl ?_
  exact ⟨rfl, HB.out⟩)
theorem made_ok (w : World) (hF : Fields w) (L : List Ty) (lao : Option Addr) (lcap : Nat) (hS : Src w lao L.length lcap 3 (tys L)) (hTy : ∀ t ∈ L, TyIn t) (hL : L.length ≤ 1000) (hok : (∀ t ∈ L, t.may) ∧ L.length ≤ 64) (n : Nat) (hn : mayWords n) :
  Calls Tryz.prog 54 #[.int .i64 n, .slice lao L.length lcap] w fun e w' => ∃ (sb rb tb : Nat) (w1 : World) (tao : Option Addr) (tcap : Nat) (ls lr : List Blk), e = .returned (.tuple #[.pointer (some ⟨sb, 0, none⟩), .pointer (some ⟨rb, 0, none⟩), .bool true]) ∧
   Below w.heap.size w w1 ∧ TabAt w1 tb tao tcap L ∧ SpIs sb tb (lay (List.replicate n 0) 0 (n / 2)) (List.replicate ((n / 2 + 63) / 64) 0) ls ∧ RefIs rb lao L.length lcap (lay (List.replicate n 0) 0 (n / 2)) lr ∧ Turn [] w1 (lr ++ ls) w' := by
 have HS := uh hS
 have Hn := uh hn
 have HF := uh hF
 have ⟨h1, h2, h3⟩ := hn
 clear hS hn hF
 go_enter Tryz.func54, Tryz.ntmps54
 go_wp2_with fail
 refine tnew w L lao lcap HS.out hTy hL _ (uh (fun _ w1 lt hti T1 => ?_)) (uh (fun h => absurd hok h))
 obtain ⟨tao, tcap, hTab⟩ := hti.tab (R := []) (by rw [List.append_nil]; exact T1.has)
 have HTab := uh hTab
 have HB := uh T1.below
 have Hsn := uh (snew w1 (range_below HF.out T1.below) w.heap.size n Hn.out)
 clear T1 hti HS hTy hok hTab
 go_wp2_with fail
 refine Hsn.out.mono ?_
 rintro e w2 ⟨sb, ls, rfl, hsp, T2⟩
 have HT2 := uh T2
 have HSP := uh hsp
 have Hrn := uh (rnew w2 n Hn.out lao L.length lcap)
 have k1 : decide ((n : Int) < 16) = false := decide_eq_false (by omega)
 have k2 : decide (n < 16) = false := decide_eq_false (by omega)
 have k3 : decide ((65536 : Int) < (n : Int)) = false := decide_eq_false (by omega)
 have k4 : decide (65536 < n) = false := decide_eq_false (by omega)
 have k5 : ((n : Int)).tmod 2 = 0 := by rw [Int.tmod_eq_emod_of_nonneg (by omega)]; omega
 have k6 : (n : Int) % 2 = 0 := by omega
 clear T2 hsp Hsn
 go_wp2_with fail
 refine Hrn.out.mono ?_
 rintro e w3 ⟨rb, lr, rfl, hri, T3⟩
 have HT3 := uh (HT2.out.grow T3)
 have HRI := uh hri
 obtain ⟨a, aw, bb, c, lb, hbi, hls⟩ := HSP.out
 have q0 : w3.cell? ⟨sb, 0, none⟩ = some (.pointer (some ⟨a, 0, none⟩)) := HT3.out.has.cell (b := sb) (c := #[.pointer (some ⟨a, 0, none⟩), .pointer (some ⟨w.heap.size, 0, none⟩), .pointer (some ⟨bb, 0, none⟩)]) (e := 146) (f := (0, 0)) (by rw [hls]; simp [spBlk]) 0
 have Har := uh (sarena w3 (a := ⟨a, 0, none⟩) rfl q0)
 clear T3 hri Hrn HT2 hls hbi q0
 go_wp2_with fail
 refine Har.out.mono ?_
 rintro e w4 ⟨rfl, hw⟩
 subst hw
 go_wp2_with fail
 refine bodyPost_ret (results_tmp3 rfl _ _ _) rfl ?_
 exact ⟨sb, rb, w.heap.size, w1, tao, tcap, ls, lr, rfl, HB.out, HTab.out, HSP.out, HRI.out, HT3.out⟩
end
section
open Go Go.RowKit Go.IntWalk
structure Stp where
 dk : Int
 g : Int
 id : Int
 n : Int
 w : Nat
 ats : List Int
 ao : Option Addr
 cap : Nat
def stCells (s : Stp) : List Value := [.int .i64 s.dk, .int .i64 s.g, .int .i64 s.id, .int .i64 s.n, .int .u64 s.w, .slice s.ao s.ats.length s.cap]
def sts (ss : List Stp) : List Value := ss.flatMap stCells
theorem sts_get {ss : List Stp} {i : Nat} {s : Stp} (hi : ss[i]? = some s) {j : Nat} (hj : j < 6) : (sts ss)[i * 6 + j]? = (stCells s)[j]? := by
 induction ss generalizing i with
 | nil => cases hi
 | cons a l ih =>
  show (stCells a ++ sts l)[i * 6 + j]? = _
  cases i with
  | zero =>
   have : a = s := by simpa using hi
   subst this
   rw [Nat.zero_mul, Nat.zero_add, List.getElem?_append_left (by exact hj)]
  | succ i =>
   rw [show (i + 1) * 6 + j = 6 + (i * 6 + j) by omega, List.getElem?_append_right (by show 6 ≤ _; omega)]
   rw [show 6 + (i * 6 + j) - (stCells a).length = i * 6 + j from Nat.add_sub_cancel_left ..]
   exact ih (by simpa using hi)
theorem sts_length (ss : List Stp) : (sts ss).length = ss.length * 6 := by
 induction ss with
 | nil => rfl
 | cons a l ih =>
  show (stCells a ++ sts l).length = _
  rw [List.length_append, ih, List.length_cons]
  simp [stCells]
  omega
theorem Src.st {w : World} {b off n cap : Nat} {ss : List Stp} (h : Src w (some ⟨b, off, none⟩) n cap 6 (sts ss)) {i : Nat} {s : Stp} (hi : ss[i]? = some s) : w.rangeAt b (off + i * 6) (stCells s) := by
 intro j v hv
 have hj : j < 6 := (List.getElem?_eq_some_iff.1 hv).1
 have h1 := h.at_ _ rfl (i * 6 + j) v (by rw [sts_get hi hj]; exact hv)
 rw [add_lit] at h1
 rw [Nat.add_assoc]
 exact h1
def lens (ss : List Stp) : Nat := (ss.map fun s => s.ats.length).sum
theorem lens_next {ss : List Stp} {i : Nat} {s : Stp} (h : ss[i]? = some s) : lens (ss.take (i + 1)) = lens (ss.take i) + s.ats.length := by
 rw [List.take_add_one, h]
 simp [lens]
theorem lens_le {N : Nat} {ss : List Stp} (h : ∀ s ∈ ss, s.ats.length ≤ N) : ∀ i, lens (ss.take i) ≤ i * N
 | 0 => by simp [lens]
 | i + 1 => by
  have h2 := lens_le h i
  rw [Nat.succ_mul]
  cases hs : ss[i]? with
  | none =>
   have h1 : ss.take (i + 1) = ss.take i := by rw [List.take_add_one, hs, Option.toList_none, List.append_nil]
   rw [h1]
   omega
  | some s =>
   rw [lens_next hs]
   have := h s (List.mem_of_getElem? hs)
   omega
def heavy (words : Int) (nl : Nat) (ss : List Stp) : Bool := (decide (600 < words) && decide (words ≤ 65536)) || decide (70 < nl) || decide (60 < ss.length) || decide (300 < lens (ss.take 100))
theorem heavy9 (w : World) (words : Int) (lao : Option Addr) (nl lcap : Nat) (sao : Option Addr) (scap : Nat) (ss : List Stp) (hS : Src w sao ss.length scap 6 (sts ss)) (hnl : nl ≤ maxLen) (hsl : ss.length ≤ maxLen) (hat : ∀ s ∈ ss, s.ats.length ≤ 17592186044416) :
  Calls Tryz.prog 8 #[.int .i64 words, .slice lao nl lcap, .slice sao ss.length scap] w fun e w' => e = .returned (.bool (heavy words nl ss)) ∧ w' = w := by
 have HF := uh (fun (h : 0 < ss.length) => hS.form (by rw [sts_length]; omega))
 have HS := uh hS
 have Hle := uh (lens_le hat)
 unfold maxLen at hnl hsl
 clear hS
 go_enter Tryz.func8, Tryz.ntmps8
 go_wp2_with fail
 go_loopw [7, 8] (fun v7 v8 wr => ∃ i : Nat, i ≤ ss.length ∧ i ≤ 100 ∧ v8 = .int .i64 i ∧ v7 = .int .i64 (lens (ss.take i) : Nat) ∧ wr = w) (fun _ v8 _ => ss.length - (intOf v8).toNat)
 case atStart => exact ⟨0, Nat.zero_le _, Nat.zero_le _, by go_num, by simp [lens], rfl⟩
 case round =>
  obtain ⟨i, hi, hi2, rfl, rfl, rfl⟩ := hrel
  have hb := Hle.out i
  by_cases hlt : i < ss.length ∧ i < 100
  · have hlt' : (i : Int) < (ss.length : Int) := by omega
    have hlt2 : (i : Int) < 100 := by omega
    obtain ⟨s, hs⟩ : ∃ s, ss[i]? = some s := ⟨ss[i]'(by omega), List.getElem?_eq_getElem _⟩
    obtain ⟨b, off, rfl, -⟩ := HF.out (by omega)
    have q5 : wr.cell? ⟨b, off + i * 6 + 5, none⟩ = some (.slice s.ao s.ats.length s.cap) := (HS.out.st hs) 5 _ rfl
    have Hn := uh (lens_next hs)
    have hsa := hat s (List.mem_of_getElem? hs)
    generalize lens (ss.take i) = x at *
    clear hs
    go_wp2_with fail
    go_roundw
    case rel => exact ⟨i + 1, by omega, by omega, by go_num, by rw [Hn.out]; go_num, trivial⟩
    case measure => simp [intOf]; omega
  · have hx : ss.take i = ss.take 100 := by
      by_cases h : i < ss.length
      · rw [show i = 100 by omega]
      · rw [List.take_of_length_le (by omega), List.take_of_length_le (by omega)]
    have hres : heavy words nl ss = ((decide (600 < words) && decide (words ≤ 65536)) || decide (70 < nl) || decide (60 < ss.length) || decide (300 < lens (ss.take i))) := by rw [hx]; rfl
    have Hres := uh hres
    clear hres hx
    generalize lens (ss.take i) = x at *
    have hexit : ¬ ((i : Int) < (ss.length : Int)) ∨ ((i : Int) < (ss.length : Int) ∧ ¬ (i : Int) < 100) := by omega
    clear hlt HS HF hat Hle
    rcases hexit with x1 | ⟨x1, x2⟩
    all_goals (
     by_cases c1 : 600 < words
     · by_cases c2 : words ≤ 65536
       · skip
         have k1 : decide (600 < words) = true := decide_eq_true c1
         have k2 : decide (words ≤ 65536) = true := decide_eq_true c2
         go_wp2_with fail
         go_ret
         exact ⟨by rw [Hres.out]; simp [*], rfl⟩
       by_cases c3 : 70 < nl
       · skip
         have k1 : decide (600 < words) = true := decide_eq_true c1
         have k2 : decide (words ≤ 65536) = false := decide_eq_false c2
         have k3 : decide (70 < (nl : Int)) = true := decide_eq_true (by omega)
         have k3n : decide (70 < nl) = true := decide_eq_true c3
         go_wp2_with fail
         go_ret
         exact ⟨by rw [Hres.out]; simp [*], rfl⟩
       by_cases c4 : 60 < ss.length
       · skip
         have k1 : decide (600 < words) = true := decide_eq_true c1
         have k2 : decide (words ≤ 65536) = false := decide_eq_false c2
         have k3 : decide (70 < (nl : Int)) = false := decide_eq_false (by omega)
         have k3n : decide (70 < nl) = false := decide_eq_false c3
         have k4 : decide (60 < (ss.length : Int)) = true := decide_eq_true (by omega)
         have k4n : decide (60 < ss.length) = true := decide_eq_true c4
         go_wp2_with fail
         go_ret
         exact ⟨by rw [Hres.out]; simp [*], rfl⟩
       by_cases c5 : 300 < x
       · skip
         have k1 : decide (600 < words) = true := decide_eq_true c1
         have k2 : decide (words ≤ 65536) = false := decide_eq_false c2
         have k3 : decide (70 < (nl : Int)) = false := decide_eq_false (by omega)
         have k3n : decide (70 < nl) = false := decide_eq_false c3
         have k4 : decide (60 < (ss.length : Int)) = false := decide_eq_false (by omega)
         have k4n : decide (60 < ss.length) = false := decide_eq_false c4
         have k5 : decide (300 < (x : Int)) = true := decide_eq_true (by omega)
         have k5n : decide (300 < x) = true := decide_eq_true c5
         go_wp2_with fail
         go_ret
         exact ⟨by rw [Hres.out]; simp [*], rfl⟩
       have k1 : decide (600 < words) = true := decide_eq_true c1
       have k2 : decide (words ≤ 65536) = false := decide_eq_false c2
       have k3 : decide (70 < (nl : Int)) = false := decide_eq_false (by omega)
       have k3n : decide (70 < nl) = false := decide_eq_false c3
       have k4 : decide (60 < (ss.length : Int)) = false := decide_eq_false (by omega)
       have k4n : decide (60 < ss.length) = false := decide_eq_false c4
       have k5 : decide (300 < (x : Int)) = false := decide_eq_false (by omega)
       have k5n : decide (300 < x) = false := decide_eq_false c5
       go_wp2_with fail
       go_ret
       exact ⟨by rw [Hres.out]; simp [*], rfl⟩
     by_cases c3 : 70 < nl
     · skip
       have k1 : decide (600 < words) = false := decide_eq_false c1
       have k3 : decide (70 < (nl : Int)) = true := decide_eq_true (by omega)
       have k3n : decide (70 < nl) = true := decide_eq_true c3
       go_wp2_with fail
       go_ret
       exact ⟨by rw [Hres.out]; simp [*], rfl⟩
     by_cases c4 : 60 < ss.length
     · skip
       have k1 : decide (600 < words) = false := decide_eq_false c1
       have k3 : decide (70 < (nl : Int)) = false := decide_eq_false (by omega)
       have k3n : decide (70 < nl) = false := decide_eq_false c3
       have k4 : decide (60 < (ss.length : Int)) = true := decide_eq_true (by omega)
       have k4n : decide (60 < ss.length) = true := decide_eq_true c4
       go_wp2_with fail
       go_ret
       exact ⟨by rw [Hres.out]; simp [*], rfl⟩
     by_cases c5 : 300 < x
     · skip
       have k1 : decide (600 < words) = false := decide_eq_false c1
       have k3 : decide (70 < (nl : Int)) = false := decide_eq_false (by omega)
       have k3n : decide (70 < nl) = false := decide_eq_false c3
       have k4 : decide (60 < (ss.length : Int)) = false := decide_eq_false (by omega)
       have k4n : decide (60 < ss.length) = false := decide_eq_false c4
       have k5 : decide (300 < (x : Int)) = true := decide_eq_true (by omega)
       have k5n : decide (300 < x) = true := decide_eq_true c5
       go_wp2_with fail
       go_ret
       exact ⟨by rw [Hres.out]; simp [*], rfl⟩
     have k1 : decide (600 < words) = false := decide_eq_false c1
     have k3 : decide (70 < (nl : Int)) = false := decide_eq_false (by omega)
     have k3n : decide (70 < nl) = false := decide_eq_false c3
     have k4 : decide (60 < (ss.length : Int)) = false := decide_eq_false (by omega)
     have k4n : decide (60 < ss.length) = false := decide_eq_false c4
     have k5 : decide (300 < (x : Int)) = false := decide_eq_false (by omega)
     have k5n : decide (300 < x) = false := decide_eq_false c5
     go_wp2_with fail
     go_ret
     exact ⟨by rw [Hres.out]; simp [*], rfl⟩)
end
section
structure Pl (L : List Ty) (W B : List Nat) (cs : List Ce) : Prop where
 good : Good L W cs
 touch : noTouch cs
 bl : B.length = (W.length / 2 + 63) / 64
 bu : u64ok B
 bits : bitsOf B (W.length / 2) (objs cs)
theorem bitAt_zeros (n i : Nat) : bitAt (List.replicate n 0) i = false := by
 unfold bitAt
 rw [List.getD_eq_getElem?_getD]
 cases h : (List.replicate n 0)[i / 64]? with
 | none => simp
 | some v =>
  rw [List.eq_of_mem_replicate (List.mem_of_getElem? h)]
  simp
theorem objs_gap (g n : Nat) : objs [(g, gapHd n)] = [] := by
 unfold objs
 rw [List.filter_cons_of_neg (by rw [isObj_iff]; exact gapHd_tag n)]
 rfl
theorem Pl.new {L : List Ty} {n : Nat} (h1 : ∀ t ∈ L, t.may) (h2 : L.length ≤ 64) (h3 : n ≤ 600) (h4 : 16 ≤ n) (h5 : n % 2 = 0) : Pl L (lay (List.replicate n 0) 0 (n / 2)) (List.replicate ((n / 2 + 63) / 64) 0) [(0, gapHd (n / 2))] := by
 have hl : (lay (List.replicate n 0) 0 (n / 2)).length = n := by rw [lay_len, List.length_replicate]
 refine ⟨.new h1 h2 h3 h4 h5, trivial, by rw [hl, List.length_replicate], fun v hv => by rw [List.eq_of_mem_replicate hv]; omega, fun i _ => ?_⟩
 rw [bitAt_zeros, objs_gap]
 simp
theorem Pl.put {L : List Ty} {W B B' : List Nat} {a b : List Ce} {c : Ce} (h : Pl L W B (a ++ c :: b)) {g : Nat} {hd : Hd} (hf : fits L hd) (hh : hd.tag = 1) (ht : takes c g hd.size) (hs : SetIn B B' g 1) : Pl L (putW W c g hd) B' (a ++ putC c g hd ++ b) := by
 obtain ⟨h1, h2, -, h4⟩ := ht
 refine ⟨h.good.put hf h2 h4, h.touch.put h1 hh, by rw [hs.1, h.bl, putW_len], hs.2.1, fun i hi => ?_⟩
 rw [putW_len] at hi
 have ho : objs (a ++ c :: b) = objs a ++ objs b := by
  rw [objs_append]
  congr 1
  unfold objs
  rw [List.filter_cons_of_neg (by rw [isObj_iff]; exact h1)]
 have hb := h.bits i hi
 rw [ho] at hb
 rw [objs_put hh, hs.2.2 i, Bool.or_eq_true, hb, Bool.and_eq_true, decide_eq_true_eq, decide_eq_true_eq]
 constructor
 · rintro (⟨d, hd, he⟩ | h1)
   · refine ⟨d, ?_, he⟩
     simp only [List.mem_append, List.mem_cons] at hd ⊢
     rcases hd with hd | hd
     · exact .inl hd
     · exact .inr (.inr hd)
   · exact ⟨(g, hd), by simp, by show g = i; omega⟩
 · rintro ⟨d, hd, he⟩
   simp only [List.mem_append, List.mem_cons] at hd
   rcases hd with hd | rfl | hd
   · exact .inl ⟨d, by simp [hd], he⟩
   · exact .inr (by simp only at he; omega)
   · exact .inl ⟨d, by simp [hd], he⟩
theorem mem_objs {cs : List Ce} {d : Ce} (h : d ∈ cs) (ht : d.2.tag = 1) : d ∈ objs cs := by
 unfold objs
 rw [List.mem_filter, isObj_iff]
 exact ⟨h, ht⟩
theorem Pl.drop {L : List Ty} {W B B' : List Nat} {pre post : List Ce} {c : Ce} (h : Pl L W B (pre ++ c :: post)) (ht : c.2.tag = 1) (hs : ClrIn B B' c.1 1) : ∃ cs', Pl L (dropW W pre c post) B' cs' ∧ objs cs' = objs pre ++ objs post := by
 obtain ⟨cs', h1, h2, h3⟩ := h.good.drop_all h.touch
 have hl : (dropW W pre c post).length = W.length := by unfold dropW; rw [lay_len]
 refine ⟨cs', ⟨h1, h2, by rw [hs.1, h.bl, hl], hs.2.1, fun i hi => ?_⟩, h3⟩
 rw [hl] at hi
 obtain ⟨ch1, hst, ch2⟩ := h.good.chain.split
 have hpos := hst.pos
 have hno : ∀ d ∈ objs pre ++ objs post, d.1 ≠ c.1 := by
  intro d hd
  rcases List.mem_append.1 hd with hd | hd
  · have h5 := ch1.mem d (objs_mem hd).1
    have := h5.2.2.pos
    omega
  · have h5 := ch2.mem d (objs_mem hd).1
    omega
 have ho : objs (pre ++ c :: post) = objs pre ++ c :: objs post := by
  rw [objs_append]
  congr 1
  unfold objs
  rw [List.filter_cons_of_pos (by rw [isObj_iff]; exact ht)]
 have hb := h.bits i hi
 rw [ho] at hb
 rw [h3, hs.2.2 i, Bool.and_eq_true, hb, Bool.not_eq_true', Bool.and_eq_false_iff, decide_eq_false_iff_not, decide_eq_false_iff_not]
 constructor
 · rintro ⟨⟨d, hd, he⟩, hx⟩
   refine ⟨d, ?_, he⟩
   simp only [List.mem_append, List.mem_cons] at hd ⊢
   rcases hd with hd | rfl | hd
   · exact .inl hd
   · omega
   · exact .inr hd
 · rintro ⟨d, hd, he⟩
   have := hno d hd
   refine ⟨⟨d, ?_, he⟩, by omega⟩
   simp only [List.mem_append, List.mem_cons] at hd ⊢
   rcases hd with hd | hd
   · exact .inl hd
   · exact .inr (.inr hd)
theorem rises_tags {L : List Ty} {W : List Nat} : ∀ {os : List Ce} {e : Nat}, rises L W e os → ∀ c ∈ os, c.2.tag = 1
 | d :: os, e, h, c, hc => by
  rcases List.mem_cons.1 hc with rfl | hc
  · exact h.2.2.1
  · exact rises_tags h.2.2.2 c hc
theorem Pl.settle {L : List Ty} {W B B' : List Nat} {cs : List Ce} (h : Pl L W B cs) {os : List Ce} (hr : rises L W 0 os) (hl : B'.length = B.length) (hu : u64ok B') (hb : bitsOf B' (W.length / 2) os) : Pl L (settleW (W.length / 2) W os 0) B' (settleC (W.length / 2) os 0) := by
 have ht := rises_tags hr
 refine ⟨h.good.settle hr, noTouch_settleC _ _ _ ht, by rw [hl, h.bl, settleW_len], hu, ?_⟩
 rw [settleW_len, objs_settleC _ _ _ ht]
 exact hb
theorem Pl.slot {L : List Ty} {W B : List Nat} {cs : List Ce} (h : Pl L W B cs) {c : Ce} (hc : c ∈ cs) {j v : Nat} (h1 : 2 * c.1 < j) (h2 : j < 2 * (c.1 + c.2.size)) (hv : v < 18446744073709551616) : Pl L (W.set j v) B cs :=
 ⟨h.good.slot hc h1 h2 hv, h.touch, by rw [List.length_set]; exact h.bl, h.bu, by rw [List.length_set]; exact h.bits⟩
theorem Pl.bit {L : List Ty} {W B : List Nat} {cs : List Ce} (h : Pl L W B cs) {g : Nat} (hg : g < W.length / 2) (hb : bitAt B g = true) : ∃ c ∈ cs, c.1 = g ∧ c.2.tag = 1 := by
 obtain ⟨c, hc, he⟩ := (h.bits g hg).1 hb
 exact ⟨c, (objs_mem hc).1, he, (objs_mem hc).2⟩
theorem Pl.bit_of {L : List Ty} {W B : List Nat} {cs : List Ce} (h : Pl L W B cs) {c : Ce} (hc : c ∈ cs) (ht : c.2.tag = 1) : bitAt B c.1 = true := by
 have h1 := h.good.chain.mem c hc
 have := h1.2.2.pos
 exact (h.bits c.1 (by omega)).2 ⟨c, mem_objs hc ht, rfl⟩
theorem stands_slots {L : List Ty} {W : List Nat} {g : Nat} {h : Hd} (hs : stands L W g h) (ht : h.tag = 1) : (tyAt L h.typ).slots h.len + 1 ≤ 2 * h.size ∧ 2 * h.size ≤ (tyAt L h.typ).slots h.len + 2 := by
 have h1 := (fit_iff L h).2 hs.2.1
 unfold fitErr at h1
 rw [if_neg (by simpa using hs.2.1.1), if_neg (by simpa using ht)] at h1
 have h2 : tyErr L h.typ h.len = 0 ∧ tySize L h.typ h.len = h.size := by
  by_cases h9 : tyErr L h.typ h.len = 0 ∧ tySize L h.typ h.len = h.size
  · exact h9
  · rw [if_neg h9] at h1; exact absurd h1 (by decide)
 unfold tyErr tySize at h2
 unfold tyAt
 cases hg : getTy L h.typ with
 | none => rw [hg] at h2; exact absurd h2.1 (by simp)
 | some t =>
  rw [hg] at h2
  simp only at h2
  rw [if_pos h2.1, Int.toNat_natCast] at h2
  have := h2.2
  unfold Ty.size at this
  simp only [Option.getD_some]
  omega
end
section
open Go Go.RowKit Go.IntWalk
theorem settle9_err {w0 : World} (w : World) {rb lcap : Nat} {lao : Option Addr} {W : List Nat} {L : List Ty} {l R : List Blk} (hI : RefIs rb lao L.length lcap W l) (T : Turn [] w0 (l ++ R) w) (hS : Src w0 lao L.length lcap 3 (tys L)) (hTy : ∀ t ∈ L, TyIn t) (hL : L.length ≤ 1000) (hf : W.length ≤ 65536)
  (hu : ∀ v ∈ W, v < 18446744073709551616) (ats : List Int) (os : List Ce) (hr : rises L W 0 os) (x : Int) (hx : ats[os.length]? = some x) (hpre : ∀ (i : Nat) (c : Ce), os[i]? = some c → ats[i]? = some (c.1 : Int)) (hbad : ∀ h, objq L W x = some h → x < (endOf 0 os : Nat)) (hlen : ats.length ≤ 65536) (aa : Option Addr) (acap : Nat) (hA : Src w0 aa ats.length acap 1 (ints ats)) :
  Calls Tryz.prog 139 #[.pointer (some ⟨rb, 0, none⟩), .slice aa ats.length acap] w fun e w' => e = .returned (.int .i64 2) ∧ Turn [] w0 (l ++ R) w' := by
 have hol : os.length < ats.length := (List.getElem?_eq_some_iff.1 hx).1
 obtain ⟨ao, cap, lr, hrow, rfl⟩ := hI
 have hl0 := rises_len hr (Nat.zero_le _)
 have hzb : W.length / 2 ≤ 32768 := by omega
 have HS0 := uh (fun w' (lr5 Y : List Blk) (V : Turn [] w0 (Y ++ (lr5 ++ ((rb, .cells #[.slice ao W.length cap, .slice lao L.length lcap] 109) :: lr ++ R))) w') =>
         (⟨V.has.cell (b := rb) (c := #[.slice ao W.length cap, .slice lao L.length lcap]) (e := 109) (f := (0, 0)) (by simp) 0, V.has.cell (b := rb) (c := #[.slice ao W.length cap, .slice lao L.length lcap]) (e := 109) (f := (0, 0)) (by simp) 1⟩ : w'.cell? ⟨rb, 0, none⟩ = some (.slice ao W.length cap) ∧ w'.cell? ⟨rb, 1, none⟩ = some (.slice lao L.length lcap)))
 have Hof0 := uh (fun w' (lr5 Y : List Blk) (V : Turn [] w0 (Y ++ (lr5 ++ ((rb, .cells #[.slice ao W.length cap, .slice lao L.length lcap] 109) :: lr ++ R))) w') => of8 w' ao cap (hrow.src (R := (Y ++ lr5) ++ ((rb, .cells #[.slice ao W.length cap, .slice lao L.length lcap] 109) :: R)) (V.has.perm po)) hf hu L hTy hL lao lcap (hS.below V.below))
 have hszH := sz_head
 have hszT := sz_type
 have Hr := uh (fun i c => rises_at hr (i := i) (c := c))
 have Hle := uh (endOf_take_le hr)
 have HT := uh T
 have HA0 := uh (hA.form (by rw [ints_len]; omega))
 clear T hS hu hrow hA
 go_enter Tryz.func139, Tryz.ntmps139
 go_wp2_with fail
 go_loopw [5, 6, 7] (fun v5 v6 v7 wr => ∃ (i : Nat) (a5 : Option Addr) (p5 : Nat) (lr5 : List Blk), i ≤ os.length ∧ v7 = .int .i64 i ∧ v6 = .int .i64 (endOf 0 (os.take i) : Nat) ∧ v5 = .slice a5 i p5 ∧ Row 3 1 a5 i p5 (nats (sizesOf (os.take i))) lr5 ∧ Turn [] w0 (lr5 ++ ((rb, .cells #[.slice ao W.length cap, .slice lao L.length lcap] 109) :: lr ++ R)) wr) (fun _ _ v7 _ => ats.length - (intOf v7).toNat)
 case atStart => exact ⟨0, none, 0, [], Nat.zero_le _, rfl, rfl, rfl, Row.nil _ _, HT.out⟩
 case round =>
  clear HT
  obtain ⟨i, a5, p5, lr5, hi, rfl, rfl, rfl, hr5, T⟩ := hrel
  by_cases hlt : i < os.length
  · have hlt' : (i : Int) < (os.length : Int) := by omega
    obtain ⟨c, hc⟩ : ∃ c, os[i]? = some c := ⟨os[i], List.getElem?_eq_getElem hlt⟩
    obtain ⟨hce, hst, hct⟩ := Hr.out i c hc
    have hoq := objq_of hst hct
    have hte := stands_ty hst hct hTy
    have Hof := uh (fun w' Y V => Hof0.out w' lr5 Y V (c.1 : Int))
    rw [hoq] at Hof
    simp only at Hof
    have Hs1 := uh (sizesOf_next hc)
    have He1 := uh (endOf_next hc)
    have hroom := hst.2.2
    have Hat0 := uh (hpre i c hc)
    obtain ⟨ab, aoff, rfl, hat0⟩ := HA0.out
    have Hat := uh (fun w' (hB : Below w0.heap.size w0 w') => (hB.cell (p := ⟨ab, aoff + i, none⟩) (World.block_lt_of_cell? w0 _ (hat0 i _ (ints_get Hat0.out)))).trans (hat0 i _ (ints_get Hat0.out)))
    have HS := uh (fun w' Y (V : Turn [] w0 (Y ++ (lr5 ++ ((rb, .cells #[.slice ao W.length cap, .slice lao L.length lcap] 109) :: lr ++ R))) w') => (⟨(HS0.out w' lr5 Y V).1, (HS0.out w' lr5 Y V).2, Hat.out w' V.below⟩ : w'.cell? ⟨rb, 0, none⟩ = some (.slice ao W.length cap) ∧ w'.cell? ⟨rb, 1, none⟩ = some (.slice lao L.length lcap) ∧ w'.cell? ⟨ab, aoff + i, none⟩ = some (.int .i64 c.1)))
    generalize tyAt L c.2.typ = t at *
    obtain ⟨tk, tw, tm⟩ := t
    obtain ⟨cg, ⟨ca, cb, cc, cd⟩⟩ := c
    simp only at hct Hof HS Hat He1 Hs1 hce hroom
    subst hct
    have hoH := hd_one ⟨1, cb, cc, cd⟩
    have hoT := ty_one ⟨tk, tw, tm⟩
    simp only at hoH hoT
    generalize endOf 0 (os.take i) = en at *
    have k1 : decide ((cg : Int) < (en : Int)) = false := decide_eq_false (by omega)
    have k2 : decide (cg < en) = false := decide_eq_false (by omega)
    have HT2 := uh T.drew
    have Hr5 := uh hr5
    have h63 : i + 1 ≤ maxLen := by unfold maxLen; omega
    have hby : (i + 1) * 8 ≤ 140737488355328 := by omega
    clear T hr5 hst hoq hte hc hat0 HA0 Hat0 hpre hbad hx
    go_upto_region 6 with fail
    refine wp_abs (fun W' => Turn [] w0 (lr5 ++ ((rb, .cells #[.slice ao W.length cap, .slice lao L.length lcap] 109) :: lr ++ R)) W'.drew) HT2.out fun W1 T1 => ?_
    have HT1 : Hid (Turn [] w0 (lr5 ++ ((rb, .cells #[.slice ao W.length cap, .slice lao L.length lcap] 109) :: lr ++ R)) W1.drew) := uh T1
    clear T1 HT2
    apply wp_mid (I := fun bh bt w => Turn [] w0 ((bh, .cells #[.int .u8 1, .int .i64 cb, .int .i64 cc, .int .i64 cd] 79) :: (bt, .cells #[.int .u8 tk, .int .i64 tw, .int .u64 tm] 49) :: (lr5 ++ ((rb, .cells #[.slice ao W.length cap, .slice lao L.length lcap] 109) :: lr ++ R))) w)
    case h =>
     have hS1 := HS.out _ [] HT1.out
     refine wp_region_noPanic ?_
     refine wp_region_listed (S := fun W' => W'.cell? ⟨rb, 0, none⟩ = some (.slice ao W.length cap) ∧ W'.cell? ⟨rb, 1, none⟩ = some (.slice lao L.length lcap) ∧ W'.cell? ⟨ab, aoff + i, none⟩ = some (.int .i64 cg)) 22 [false, false, false, false, false, false, false, false, false, false, false, false, false, false, false, false, false, false, false, false, false, false] rfl rfl (by kernel_rfl) ?_
     refine tkA 0 19 hS1 ?_
     refine tkA 1 20 hS1 ?_
     refine tkA 2 21 hS1 ?_
     refine tkB 3 22 hS1 (fun w hSw => hSw.1) ?_
     refine tkA 4 23 hS1 ?_
     refine tkA 5 24 hS1 ?_
     refine tkA 6 25 hS1 ?_
     refine tkB 7 26 hS1 (fun w hSw => hSw.2.1) ?_
     refine tkA 8 27 hS1 ?_
     refine tkA 9 28 hS1 ?_
     refine tkA 10 29 hS1 ?_
     refine tkB 11 30 hS1 (fun w hSw => hSw.2.2) ?_
     have T0 : Turn [] w0 ([] ++ (lr5 ++ ((rb, .cells #[.slice ao W.length cap, .slice lao L.length lcap] 109) :: lr ++ R))) W1.drew := HT1.out
     clear hS1
     generalize W1.drew = V0 at T0 ⊢
     have HT0h := uh T0
     clear T0
     apply any_mid (I := fun bh bt V => Turn [] w0 ((bh, .cells #[.int .u8 0, .int .i64 0, .int .i64 0, .int .i64 0] 79) :: (bt, .cells #[.int .u8 0, .int .i64 0, .int .u64 0] 49) :: (lr5 ++ ((rb, .cells #[.slice ao W.length cap, .slice lao L.length lcap] 109) :: lr ++ R))) V)
     case h1 =>
      intro hG
      have T0 := HT0h.out
      refine wpAnyH_ready (rs := [12, 17, 18]) (by kernel_rfl) (by simp) (AllReadyH.cons rfl (fun K hK => ?_) (AllReadyH.cons rfl (fun K hK => ?_) (AllReadyH.cons rfl (fun K hK => ?_) AllReadyH.nil)))
      · go_simp
        refine (Hof.out _ _ T0).mono ?_
        rintro e V1 ⟨rfl, hB⟩
        have T1 := T0.call hB
        refine hK.out _ _ (HS.out _ _ T1) fun _ => ?_
        clear hK K hB T0
        simp only [st0, st1, st2]
        have hS1 := HS.out _ _ T1
        refine tkA 13 18 hS1 ?_
        refine tkA 14 32 hS1 ?_
        refine tkA 15 33 hS1 ?_
        refine tkA 16 34 hS1 ?_
        clear hS1
        refine wpAnyH_ready (rs := [17, 18]) (by kernel_rfl) (by simp) (AllReadyH.cons rfl (fun K hK => ?_) (AllReadyH.cons rfl (fun K hK => ?_) AllReadyH.nil))
        · go_simp
          have T2 : Turn [] w0 ([(V1.heap.size, .cells #[.int .u8 0, .int .i64 0, .int .i64 0, .int .i64 0] 79)] ++ (lr5 ++ ((rb, .cells #[.slice ao W.length cap, .slice lao L.length lcap] 109) :: lr ++ R))) (V1.alloc (.cells #[.int .u8 0, .int .i64 0, .int .i64 0, .int .i64 0] 79)) := T1.alloc (.cells #[.int .u8 0, .int .i64 0, .int .i64 0, .int .i64 0] 79)
          refine hK.out _ _ (HS.out _ _ T2) fun _ => ?_
          clear hK K T1
          simp only [st0, st1, st2]
          generalize V1.alloc (.cells #[.int .u8 0, .int .i64 0, .int .i64 0, .int .i64 0] 79) = V2 at *
          generalize V1.heap.size = bh at *
          refine rdyA 18 (fun K hK => ?_)
          · go_simp
            have T3 : Turn [] w0 ([(V2.heap.size, .cells #[.int .u8 0, .int .i64 0, .int .u64 0] 49), (bh, .cells #[.int .u8 0, .int .i64 0, .int .i64 0, .int .i64 0] 79)] ++ (lr5 ++ ((rb, .cells #[.slice ao W.length cap, .slice lao L.length lcap] 109) :: lr ++ R))) (V2.alloc (.cells #[.int .u8 0, .int .i64 0, .int .u64 0] 49)) := T2.alloc (.cells #[.int .u8 0, .int .i64 0, .int .u64 0] 49)
            refine hK.out _ _ (HS.out _ _ T3) fun _ => ?_
            clear hK K T2
            simp only [st0, st1, st2]
            generalize V2.alloc (.cells #[.int .u8 0, .int .i64 0, .int .u64 0] 49) = V3 at *
            generalize V2.heap.size = bt at *
            exact hG.out bh bt V3 (T3.perm po)
        · go_simp
          have T2 : Turn [] w0 ([(V1.heap.size, .cells #[.int .u8 0, .int .i64 0, .int .u64 0] 49)] ++ (lr5 ++ ((rb, .cells #[.slice ao W.length cap, .slice lao L.length lcap] 109) :: lr ++ R))) (V1.alloc (.cells #[.int .u8 0, .int .i64 0, .int .u64 0] 49)) := T1.alloc (.cells #[.int .u8 0, .int .i64 0, .int .u64 0] 49)
          refine hK.out _ _ (HS.out _ _ T2) fun _ => ?_
          clear hK K T1
          simp only [st0, st1, st2]
          generalize V1.alloc (.cells #[.int .u8 0, .int .i64 0, .int .u64 0] 49) = V2 at *
          generalize V1.heap.size = bt at *
          refine rdyA 17 (fun K hK => ?_)
          · go_simp
            have T3 : Turn [] w0 ([(V2.heap.size, .cells #[.int .u8 0, .int .i64 0, .int .i64 0, .int .i64 0] 79), (bt, .cells #[.int .u8 0, .int .i64 0, .int .u64 0] 49)] ++ (lr5 ++ ((rb, .cells #[.slice ao W.length cap, .slice lao L.length lcap] 109) :: lr ++ R))) (V2.alloc (.cells #[.int .u8 0, .int .i64 0, .int .i64 0, .int .i64 0] 79)) := T2.alloc (.cells #[.int .u8 0, .int .i64 0, .int .i64 0, .int .i64 0] 79)
            refine hK.out _ _ (HS.out _ _ T3) fun _ => ?_
            clear hK K T2
            simp only [st0, st1, st2]
            generalize V2.alloc (.cells #[.int .u8 0, .int .i64 0, .int .i64 0, .int .i64 0] 79) = V3 at *
            generalize V2.heap.size = bh at *
            exact hG.out bh bt V3 (T3.perm po)
      · go_simp
        have T1 : Turn [] w0 ([(V0.heap.size, .cells #[.int .u8 0, .int .i64 0, .int .i64 0, .int .i64 0] 79)] ++ (lr5 ++ ((rb, .cells #[.slice ao W.length cap, .slice lao L.length lcap] 109) :: lr ++ R))) (V0.alloc (.cells #[.int .u8 0, .int .i64 0, .int .i64 0, .int .i64 0] 79)) := T0.alloc (.cells #[.int .u8 0, .int .i64 0, .int .i64 0, .int .i64 0] 79)
        refine hK.out _ _ (HS.out _ _ T1) fun _ => ?_
        clear hK K T0
        simp only [st0, st1, st2]
        generalize V0.alloc (.cells #[.int .u8 0, .int .i64 0, .int .i64 0, .int .i64 0] 79) = V1 at *
        generalize V0.heap.size = bh at *
        refine wpAnyH_ready (rs := [12, 18]) (by kernel_rfl) (by simp) (AllReadyH.cons rfl (fun K hK => ?_) (AllReadyH.cons rfl (fun K hK => ?_) AllReadyH.nil))
        · go_simp
          refine (Hof.out _ _ T1).mono ?_
          rintro e V2 ⟨rfl, hB⟩
          have T2 := T1.call hB
          refine hK.out _ _ (HS.out _ _ T2) fun _ => ?_
          clear hK K hB T1
          simp only [st0, st1, st2]
          have hS2 := HS.out _ _ T2
          refine tkA 13 18 hS2 ?_
          refine tkA 14 32 hS2 ?_
          refine tkA 15 33 hS2 ?_
          refine tkA 16 34 hS2 ?_
          clear hS2
          refine rdyA 18 (fun K hK => ?_)
          · go_simp
            have T3 : Turn [] w0 ([(V2.heap.size, .cells #[.int .u8 0, .int .i64 0, .int .u64 0] 49), (bh, .cells #[.int .u8 0, .int .i64 0, .int .i64 0, .int .i64 0] 79)] ++ (lr5 ++ ((rb, .cells #[.slice ao W.length cap, .slice lao L.length lcap] 109) :: lr ++ R))) (V2.alloc (.cells #[.int .u8 0, .int .i64 0, .int .u64 0] 49)) := T2.alloc (.cells #[.int .u8 0, .int .i64 0, .int .u64 0] 49)
            refine hK.out _ _ (HS.out _ _ T3) fun _ => ?_
            clear hK K T2
            simp only [st0, st1, st2]
            generalize V2.alloc (.cells #[.int .u8 0, .int .i64 0, .int .u64 0] 49) = V3 at *
            generalize V2.heap.size = bt at *
            exact hG.out bh bt V3 (T3.perm po)
        · go_simp
          have T2 : Turn [] w0 ([(V1.heap.size, .cells #[.int .u8 0, .int .i64 0, .int .u64 0] 49), (bh, .cells #[.int .u8 0, .int .i64 0, .int .i64 0, .int .i64 0] 79)] ++ (lr5 ++ ((rb, .cells #[.slice ao W.length cap, .slice lao L.length lcap] 109) :: lr ++ R))) (V1.alloc (.cells #[.int .u8 0, .int .i64 0, .int .u64 0] 49)) := T1.alloc (.cells #[.int .u8 0, .int .i64 0, .int .u64 0] 49)
          refine hK.out _ _ (HS.out _ _ T2) fun _ => ?_
          clear hK K T1
          simp only [st0, st1, st2]
          generalize V1.alloc (.cells #[.int .u8 0, .int .i64 0, .int .u64 0] 49) = V2 at *
          generalize V1.heap.size = bt at *
          refine rdyA 12 (fun K hK => ?_)
          · go_simp
            refine (Hof.out _ _ T2).mono ?_
            rintro e V3 ⟨rfl, hB⟩
            have T3 := T2.call hB
            refine hK.out _ _ (HS.out _ _ T3) fun _ => ?_
            clear hK K hB T2
            simp only [st0, st1, st2]
            have hS3 := HS.out _ _ T3
            refine tkA 13 18 hS3 ?_
            refine tkA 14 32 hS3 ?_
            refine tkA 15 33 hS3 ?_
            refine tkA 16 34 hS3 ?_
            clear hS3
            exact hG.out bh bt V3 (T3.perm po)
      · go_simp
        have T1 : Turn [] w0 ([(V0.heap.size, .cells #[.int .u8 0, .int .i64 0, .int .u64 0] 49)] ++ (lr5 ++ ((rb, .cells #[.slice ao W.length cap, .slice lao L.length lcap] 109) :: lr ++ R))) (V0.alloc (.cells #[.int .u8 0, .int .i64 0, .int .u64 0] 49)) := T0.alloc (.cells #[.int .u8 0, .int .i64 0, .int .u64 0] 49)
        refine hK.out _ _ (HS.out _ _ T1) fun _ => ?_
        clear hK K T0
        simp only [st0, st1, st2]
        generalize V0.alloc (.cells #[.int .u8 0, .int .i64 0, .int .u64 0] 49) = V1 at *
        generalize V0.heap.size = bt at *
        refine wpAnyH_ready (rs := [12, 17]) (by kernel_rfl) (by simp) (AllReadyH.cons rfl (fun K hK => ?_) (AllReadyH.cons rfl (fun K hK => ?_) AllReadyH.nil))
        · go_simp
          refine (Hof.out _ _ T1).mono ?_
          rintro e V2 ⟨rfl, hB⟩
          have T2 := T1.call hB
          refine hK.out _ _ (HS.out _ _ T2) fun _ => ?_
          clear hK K hB T1
          simp only [st0, st1, st2]
          have hS2 := HS.out _ _ T2
          refine tkA 13 18 hS2 ?_
          refine tkA 14 32 hS2 ?_
          refine tkA 15 33 hS2 ?_
          refine tkA 16 34 hS2 ?_
          clear hS2
          refine rdyA 17 (fun K hK => ?_)
          · go_simp
            have T3 : Turn [] w0 ([(V2.heap.size, .cells #[.int .u8 0, .int .i64 0, .int .i64 0, .int .i64 0] 79), (bt, .cells #[.int .u8 0, .int .i64 0, .int .u64 0] 49)] ++ (lr5 ++ ((rb, .cells #[.slice ao W.length cap, .slice lao L.length lcap] 109) :: lr ++ R))) (V2.alloc (.cells #[.int .u8 0, .int .i64 0, .int .i64 0, .int .i64 0] 79)) := T2.alloc (.cells #[.int .u8 0, .int .i64 0, .int .i64 0, .int .i64 0] 79)
            refine hK.out _ _ (HS.out _ _ T3) fun _ => ?_
            clear hK K T2
            simp only [st0, st1, st2]
            generalize V2.alloc (.cells #[.int .u8 0, .int .i64 0, .int .i64 0, .int .i64 0] 79) = V3 at *
            generalize V2.heap.size = bh at *
            exact hG.out bh bt V3 (T3.perm po)
        · go_simp
          have T2 : Turn [] w0 ([(V1.heap.size, .cells #[.int .u8 0, .int .i64 0, .int .i64 0, .int .i64 0] 79), (bt, .cells #[.int .u8 0, .int .i64 0, .int .u64 0] 49)] ++ (lr5 ++ ((rb, .cells #[.slice ao W.length cap, .slice lao L.length lcap] 109) :: lr ++ R))) (V1.alloc (.cells #[.int .u8 0, .int .i64 0, .int .i64 0, .int .i64 0] 79)) := T1.alloc (.cells #[.int .u8 0, .int .i64 0, .int .i64 0, .int .i64 0] 79)
          refine hK.out _ _ (HS.out _ _ T2) fun _ => ?_
          clear hK K T1
          simp only [st0, st1, st2]
          generalize V1.alloc (.cells #[.int .u8 0, .int .i64 0, .int .i64 0, .int .i64 0] 79) = V2 at *
          generalize V1.heap.size = bh at *
          refine rdyA 12 (fun K hK => ?_)
          · go_simp
            refine (Hof.out _ _ T2).mono ?_
            rintro e V3 ⟨rfl, hB⟩
            have T3 := T2.call hB
            refine hK.out _ _ (HS.out _ _ T3) fun _ => ?_
            clear hK K hB T2
            simp only [st0, st1, st2]
            have hS3 := HS.out _ _ T3
            refine tkA 13 18 hS3 ?_
            refine tkA 14 32 hS3 ?_
            refine tkA 15 33 hS3 ?_
            refine tkA 16 34 hS3 ?_
            clear hS3
            exact hG.out bh bt V3 (T3.perm po)
     case h2 =>
      intro bh bt V0 U0
      refine rdyA 19 (fun K hK => ?_)
      have hth0 := U0.there1
      have U1 := U0.laid [.int .u8 1, .int .i64 cb, .int .i64 cc, .int .i64 cd] rfl
      refine step_store rfl rfl 79 _ _ rfl _ 0 #[.int .u8 1, .int .i64 cb, .int .i64 cc, .int .i64 cd] rfl rfl hth0 hszH hoH ?_
      refine hK.out _ _ (HS.out _ [_, _] U1) fun _ => ?_
      clear hK K hth0
      simp only [st0, st1, st2]
      generalize V0.setCells bh 0 _ = V9 at *
      refine rdyA 20 (fun K hK => ?_)
      have hth1 := U1.there2
      have U2 := U1.laid2 [.int .u8 tk, .int .i64 tw, .int .u64 tm] rfl
      refine step_store rfl rfl 49 _ _ rfl _ 0 #[.int .u8 tk, .int .i64 tw, .int .u64 tm] rfl rfl hth1 hszT hoT ?_
      refine hK.out _ _ (HS.out _ [_, _] U2) fun _ => ?_
      clear hK K hth1
      simp only [st0, st1, st2]
      have hSz := HS.out _ [_, _] U2
      refine tkA 21 10 hSz ?_
      clear hSz
      refine wpAnyH_done (by kernel_rfl) ?_ _
      refine NoPanic.normal ?_
      exact ⟨rfl, bh, bt, rfl, U2⟩
    case hq =>
     intro bh bt w5 T5
     have c3 := T5.cell1 3
     have hat := Hat.out w5 T5.below
     have HT5 := uh T5
     clear T5 HS Hof
     go_wp2_with (first
      | (at_builtin; refine wpList_append_row rfl _ _ rfl el_int rfl Hr5.out (R := (w5.heap.size, .cells #[.int .i64 cd] 3) :: (bh, .cells #[.int .u8 1, .int .i64 cb, .int .i64 cc, .int .i64 cd] 79) :: (bt, .cells #[.int .u8 tk, .int .i64 tw, .int .u64 tm] 49) :: ((rb, .cells #[.slice ao W.length cap, .slice lao L.length lcap] 109) :: lr ++ R)) ((HT5.out.alloc (.cells #[.int .i64 cd] 3)).perm po).has rfl (news := [.int .i64 cd]) rfl (news_of (heap_alloc_new _ _)) (by simp [Value.oneCell']) h63 hby ?_; intro a9 p9 l9 w9 hr9 V9 hno; have HT9 := uh (((HT5.out.alloc (.cells #[.int .i64 cd] 3)).perm (l2 := lr5 ++ ((w5.heap.size, .cells #[.int .i64 cd] 3) :: (bh, .cells #[.int .u8 1, .int .i64 cb, .int .i64 cc, .int .i64 cd] 79) :: (bt, .cells #[.int .u8 tk, .int .i64 tw, .int .u64 tm] 49) :: ((rb, .cells #[.slice ao W.length cap, .slice lao L.length lcap] 109) :: lr ++ R))) po).trans V9); have Hr9 := uh hr9; clear hr9 V9 hno)
      | fail)
     have hat9 := Hat.out _ HT9.out.below
     have c39 : w9.cell? ⟨bh, 3, none⟩ = some (.int .i64 cd) := HT9.out.has.cell (b := bh) (c := #[.int .u8 1, .int .i64 cb, .int .i64 cc, .int .i64 cd]) (e := 79) (f := (0, 0)) (by simp) 3
     have HT8 := uh ((HT9.out.perm (l2 := [(w5.heap.size, .cells #[.int .i64 cd] 3), (bh, .cells #[.int .u8 1, .int .i64 cb, .int .i64 cc, .int .i64 cd] 79), (bt, .cells #[.int .u8 tk, .int .i64 tw, .int .u64 tm] 49)] ++ (l9 ++ ((rb, .cells #[.slice ao W.length cap, .slice lao L.length lcap] 109) :: lr ++ R))) po).drop)
     clear HT9 HT5 c3 hat
     go_quiet (fail)
     go_wp2_with fail
     go_roundw
     case rel => exact ⟨i + 1, a9, p9, l9, by omega, by go_num, by rw [He1.out]; go_num, rfl, by rw [Hs1.out, nats_append]; exact Hr9.out, HT8.out.drewN _⟩
     case measure => simp [intOf]; omega
  · obtain rfl : i = os.length := by omega
    have hlt' : ((os.length : Nat) : Int) < (ats.length : Int) := by omega
    rw [List.take_length]
    obtain ⟨h, t, er, hofx, hdec⟩ : ∃ (h : Hd) (t : Ty) (er : Int), (∀ w' Y, Turn [] w0 (Y ++ (lr5 ++ ((rb, .cells #[.slice ao W.length cap, .slice lao L.length lcap] 109) :: lr ++ R))) w' → Calls Tryz.prog 194 #[.slice ao W.length cap, .slice lao L.length lcap, .int .i64 x] w' fun e w'' => e = .returned (.tuple #[hdVal h, tyVal t, .int .i64 er]) ∧ Below w'.heap.size w' w'') ∧ (er ≠ 0 ∨ (er = 0 ∧ x < (endOf 0 os : Nat))) := by
     cases hq : objq L W x with
     | none =>
      refine ⟨hd0, ⟨0, 0, 0⟩, ofErr W x, fun w' Y V => ?_, .inl ofErr_ne⟩
      have h := Hof0.out w' lr5 Y V x
      rw [hq] at h
      exact h
     | some h =>
      refine ⟨h, tyAt L h.typ, 0, fun w' Y V => ?_, .inr ⟨rfl, hbad h hq⟩⟩
      have h := Hof0.out w' lr5 Y V x
      rw [hq] at h
      exact h
    have Hof := uh hofx
    obtain ⟨ab, aoff, rfl, hat0⟩ := HA0.out
    have Hat := uh (fun w' (hB : Below w0.heap.size w0 w') => (hB.cell (p := ⟨ab, aoff + os.length, none⟩) (World.block_lt_of_cell? w0 _ (hat0 os.length _ (ints_get hx)))).trans (hat0 os.length _ (ints_get hx)))
    have HS := uh (fun w' Y (V : Turn [] w0 (Y ++ (lr5 ++ ((rb, .cells #[.slice ao W.length cap, .slice lao L.length lcap] 109) :: lr ++ R))) w') => (⟨(HS0.out w' lr5 Y V).1, (HS0.out w' lr5 Y V).2, Hat.out w' V.below⟩ : w'.cell? ⟨rb, 0, none⟩ = some (.slice ao W.length cap) ∧ w'.cell? ⟨rb, 1, none⟩ = some (.slice lao L.length lcap) ∧ w'.cell? ⟨ab, aoff + os.length, none⟩ = some (.int .i64 x)))
    obtain ⟨ha, hb, hc, hd⟩ := h
    obtain ⟨tk, tw, tm⟩ := t
    have hoH := hd_one ⟨ha, hb, hc, hd⟩
    have hoT := ty_one ⟨tk, tw, tm⟩
    simp only at hoH hoT Hof
    generalize endOf 0 os = en at *
    have HT2 := uh T.drew
    clear T hr5 hat0 HA0 hpre hbad hx hofx
    go_upto_region 6 with fail
    refine wp_abs (fun W' => Turn [] w0 (lr5 ++ ((rb, .cells #[.slice ao W.length cap, .slice lao L.length lcap] 109) :: lr ++ R)) W'.drew) HT2.out fun W1 T1 => ?_
    have HT1 : Hid (Turn [] w0 (lr5 ++ ((rb, .cells #[.slice ao W.length cap, .slice lao L.length lcap] 109) :: lr ++ R)) W1.drew) := uh T1
    clear T1 HT2
    apply wp_mid (I := fun bh bt w => Turn [] w0 ((bh, .cells #[.int .u8 ha, .int .i64 hb, .int .i64 hc, .int .i64 hd] 79) :: (bt, .cells #[.int .u8 tk, .int .i64 tw, .int .u64 tm] 49) :: (lr5 ++ ((rb, .cells #[.slice ao W.length cap, .slice lao L.length lcap] 109) :: lr ++ R))) w)
    case h =>
     have hS1 := HS.out _ [] HT1.out
     refine wp_region_noPanic ?_
     refine wp_region_listed (S := fun W' => W'.cell? ⟨rb, 0, none⟩ = some (.slice ao W.length cap) ∧ W'.cell? ⟨rb, 1, none⟩ = some (.slice lao L.length lcap) ∧ W'.cell? ⟨ab, aoff + os.length, none⟩ = some (.int .i64 x)) 22 [false, false, false, false, false, false, false, false, false, false, false, false, false, false, false, false, false, false, false, false, false, false] rfl rfl (by kernel_rfl) ?_
     refine tkA 0 19 hS1 ?_
     refine tkA 1 20 hS1 ?_
     refine tkA 2 21 hS1 ?_
     refine tkB 3 22 hS1 (fun w hSw => hSw.1) ?_
     refine tkA 4 23 hS1 ?_
     refine tkA 5 24 hS1 ?_
     refine tkA 6 25 hS1 ?_
     refine tkB 7 26 hS1 (fun w hSw => hSw.2.1) ?_
     refine tkA 8 27 hS1 ?_
     refine tkA 9 28 hS1 ?_
     refine tkA 10 29 hS1 ?_
     refine tkB 11 30 hS1 (fun w hSw => hSw.2.2) ?_
     have T0 : Turn [] w0 ([] ++ (lr5 ++ ((rb, .cells #[.slice ao W.length cap, .slice lao L.length lcap] 109) :: lr ++ R))) W1.drew := HT1.out
     clear hS1
     generalize W1.drew = V0 at T0 ⊢
     have HT0h := uh T0
     clear T0
     apply any_mid (I := fun bh bt V => Turn [] w0 ((bh, .cells #[.int .u8 0, .int .i64 0, .int .i64 0, .int .i64 0] 79) :: (bt, .cells #[.int .u8 0, .int .i64 0, .int .u64 0] 49) :: (lr5 ++ ((rb, .cells #[.slice ao W.length cap, .slice lao L.length lcap] 109) :: lr ++ R))) V)
     case h1 =>
      intro hG
      have T0 := HT0h.out
      refine wpAnyH_ready (rs := [12, 17, 18]) (by kernel_rfl) (by simp) (AllReadyH.cons rfl (fun K hK => ?_) (AllReadyH.cons rfl (fun K hK => ?_) (AllReadyH.cons rfl (fun K hK => ?_) AllReadyH.nil)))
      · go_simp
        refine (Hof.out _ _ T0).mono ?_
        rintro e V1 ⟨rfl, hB⟩
        have T1 := T0.call hB
        refine hK.out _ _ (HS.out _ _ T1) fun _ => ?_
        clear hK K hB T0
        simp only [st0, st1, st2]
        have hS1 := HS.out _ _ T1
        refine tkA 13 18 hS1 ?_
        refine tkA 14 32 hS1 ?_
        refine tkA 15 33 hS1 ?_
        refine tkA 16 34 hS1 ?_
        clear hS1
        refine wpAnyH_ready (rs := [17, 18]) (by kernel_rfl) (by simp) (AllReadyH.cons rfl (fun K hK => ?_) (AllReadyH.cons rfl (fun K hK => ?_) AllReadyH.nil))
        · go_simp
          have T2 : Turn [] w0 ([(V1.heap.size, .cells #[.int .u8 0, .int .i64 0, .int .i64 0, .int .i64 0] 79)] ++ (lr5 ++ ((rb, .cells #[.slice ao W.length cap, .slice lao L.length lcap] 109) :: lr ++ R))) (V1.alloc (.cells #[.int .u8 0, .int .i64 0, .int .i64 0, .int .i64 0] 79)) := T1.alloc (.cells #[.int .u8 0, .int .i64 0, .int .i64 0, .int .i64 0] 79)
          refine hK.out _ _ (HS.out _ _ T2) fun _ => ?_
          clear hK K T1
          simp only [st0, st1, st2]
          generalize V1.alloc (.cells #[.int .u8 0, .int .i64 0, .int .i64 0, .int .i64 0] 79) = V2 at *
          generalize V1.heap.size = bh at *
          refine rdyA 18 (fun K hK => ?_)
          · go_simp
            have T3 : Turn [] w0 ([(V2.heap.size, .cells #[.int .u8 0, .int .i64 0, .int .u64 0] 49), (bh, .cells #[.int .u8 0, .int .i64 0, .int .i64 0, .int .i64 0] 79)] ++ (lr5 ++ ((rb, .cells #[.slice ao W.length cap, .slice lao L.length lcap] 109) :: lr ++ R))) (V2.alloc (.cells #[.int .u8 0, .int .i64 0, .int .u64 0] 49)) := T2.alloc (.cells #[.int .u8 0, .int .i64 0, .int .u64 0] 49)
            refine hK.out _ _ (HS.out _ _ T3) fun _ => ?_
            clear hK K T2
            simp only [st0, st1, st2]
            generalize V2.alloc (.cells #[.int .u8 0, .int .i64 0, .int .u64 0] 49) = V3 at *
            generalize V2.heap.size = bt at *
            exact hG.out bh bt V3 (T3.perm po)
        · go_simp
          have T2 : Turn [] w0 ([(V1.heap.size, .cells #[.int .u8 0, .int .i64 0, .int .u64 0] 49)] ++ (lr5 ++ ((rb, .cells #[.slice ao W.length cap, .slice lao L.length lcap] 109) :: lr ++ R))) (V1.alloc (.cells #[.int .u8 0, .int .i64 0, .int .u64 0] 49)) := T1.alloc (.cells #[.int .u8 0, .int .i64 0, .int .u64 0] 49)
          refine hK.out _ _ (HS.out _ _ T2) fun _ => ?_
          clear hK K T1
          simp only [st0, st1, st2]
          generalize V1.alloc (.cells #[.int .u8 0, .int .i64 0, .int .u64 0] 49) = V2 at *
          generalize V1.heap.size = bt at *
          refine rdyA 17 (fun K hK => ?_)
          · go_simp
            have T3 : Turn [] w0 ([(V2.heap.size, .cells #[.int .u8 0, .int .i64 0, .int .i64 0, .int .i64 0] 79), (bt, .cells #[.int .u8 0, .int .i64 0, .int .u64 0] 49)] ++ (lr5 ++ ((rb, .cells #[.slice ao W.length cap, .slice lao L.length lcap] 109) :: lr ++ R))) (V2.alloc (.cells #[.int .u8 0, .int .i64 0, .int .i64 0, .int .i64 0] 79)) := T2.alloc (.cells #[.int .u8 0, .int .i64 0, .int .i64 0, .int .i64 0] 79)
            refine hK.out _ _ (HS.out _ _ T3) fun _ => ?_
            clear hK K T2
            simp only [st0, st1, st2]
            generalize V2.alloc (.cells #[.int .u8 0, .int .i64 0, .int .i64 0, .int .i64 0] 79) = V3 at *
            generalize V2.heap.size = bh at *
            exact hG.out bh bt V3 (T3.perm po)
      · go_simp
        have T1 : Turn [] w0 ([(V0.heap.size, .cells #[.int .u8 0, .int .i64 0, .int .i64 0, .int .i64 0] 79)] ++ (lr5 ++ ((rb, .cells #[.slice ao W.length cap, .slice lao L.length lcap] 109) :: lr ++ R))) (V0.alloc (.cells #[.int .u8 0, .int .i64 0, .int .i64 0, .int .i64 0] 79)) := T0.alloc (.cells #[.int .u8 0, .int .i64 0, .int .i64 0, .int .i64 0] 79)
        refine hK.out _ _ (HS.out _ _ T1) fun _ => ?_
        clear hK K T0
        simp only [st0, st1, st2]
        generalize V0.alloc (.cells #[.int .u8 0, .int .i64 0, .int .i64 0, .int .i64 0] 79) = V1 at *
        generalize V0.heap.size = bh at *
        refine wpAnyH_ready (rs := [12, 18]) (by kernel_rfl) (by simp) (AllReadyH.cons rfl (fun K hK => ?_) (AllReadyH.cons rfl (fun K hK => ?_) AllReadyH.nil))
        · go_simp
          refine (Hof.out _ _ T1).mono ?_
          rintro e V2 ⟨rfl, hB⟩
          have T2 := T1.call hB
          refine hK.out _ _ (HS.out _ _ T2) fun _ => ?_
          clear hK K hB T1
          simp only [st0, st1, st2]
          have hS2 := HS.out _ _ T2
          refine tkA 13 18 hS2 ?_
          refine tkA 14 32 hS2 ?_
          refine tkA 15 33 hS2 ?_
          refine tkA 16 34 hS2 ?_
          clear hS2
          refine rdyA 18 (fun K hK => ?_)
          · go_simp
            have T3 : Turn [] w0 ([(V2.heap.size, .cells #[.int .u8 0, .int .i64 0, .int .u64 0] 49), (bh, .cells #[.int .u8 0, .int .i64 0, .int .i64 0, .int .i64 0] 79)] ++ (lr5 ++ ((rb, .cells #[.slice ao W.length cap, .slice lao L.length lcap] 109) :: lr ++ R))) (V2.alloc (.cells #[.int .u8 0, .int .i64 0, .int .u64 0] 49)) := T2.alloc (.cells #[.int .u8 0, .int .i64 0, .int .u64 0] 49)
            refine hK.out _ _ (HS.out _ _ T3) fun _ => ?_
            clear hK K T2
            simp only [st0, st1, st2]
            generalize V2.alloc (.cells #[.int .u8 0, .int .i64 0, .int .u64 0] 49) = V3 at *
            generalize V2.heap.size = bt at *
            exact hG.out bh bt V3 (T3.perm po)
        · go_simp
          have T2 : Turn [] w0 ([(V1.heap.size, .cells #[.int .u8 0, .int .i64 0, .int .u64 0] 49), (bh, .cells #[.int .u8 0, .int .i64 0, .int .i64 0, .int .i64 0] 79)] ++ (lr5 ++ ((rb, .cells #[.slice ao W.length cap, .slice lao L.length lcap] 109) :: lr ++ R))) (V1.alloc (.cells #[.int .u8 0, .int .i64 0, .int .u64 0] 49)) := T1.alloc (.cells #[.int .u8 0, .int .i64 0, .int .u64 0] 49)
          refine hK.out _ _ (HS.out _ _ T2) fun _ => ?_
          clear hK K T1
          simp only [st0, st1, st2]
          generalize V1.alloc (.cells #[.int .u8 0, .int .i64 0, .int .u64 0] 49) = V2 at *
          generalize V1.heap.size = bt at *
          refine rdyA 12 (fun K hK => ?_)
          · go_simp
            refine (Hof.out _ _ T2).mono ?_
            rintro e V3 ⟨rfl, hB⟩
            have T3 := T2.call hB
            refine hK.out _ _ (HS.out _ _ T3) fun _ => ?_
            clear hK K hB T2
            simp only [st0, st1, st2]
            have hS3 := HS.out _ _ T3
            refine tkA 13 18 hS3 ?_
            refine tkA 14 32 hS3 ?_
            refine tkA 15 33 hS3 ?_
            refine tkA 16 34 hS3 ?_
            clear hS3
            exact hG.out bh bt V3 (T3.perm po)
      · go_simp
        have T1 : Turn [] w0 ([(V0.heap.size, .cells #[.int .u8 0, .int .i64 0, .int .u64 0] 49)] ++ (lr5 ++ ((rb, .cells #[.slice ao W.length cap, .slice lao L.length lcap] 109) :: lr ++ R))) (V0.alloc (.cells #[.int .u8 0, .int .i64 0, .int .u64 0] 49)) := T0.alloc (.cells #[.int .u8 0, .int .i64 0, .int .u64 0] 49)
        refine hK.out _ _ (HS.out _ _ T1) fun _ => ?_
        clear hK K T0
        simp only [st0, st1, st2]
        generalize V0.alloc (.cells #[.int .u8 0, .int .i64 0, .int .u64 0] 49) = V1 at *
        generalize V0.heap.size = bt at *
        refine wpAnyH_ready (rs := [12, 17]) (by kernel_rfl) (by simp) (AllReadyH.cons rfl (fun K hK => ?_) (AllReadyH.cons rfl (fun K hK => ?_) AllReadyH.nil))
        · go_simp
          refine (Hof.out _ _ T1).mono ?_
          rintro e V2 ⟨rfl, hB⟩
          have T2 := T1.call hB
          refine hK.out _ _ (HS.out _ _ T2) fun _ => ?_
          clear hK K hB T1
          simp only [st0, st1, st2]
          have hS2 := HS.out _ _ T2
          refine tkA 13 18 hS2 ?_
          refine tkA 14 32 hS2 ?_
          refine tkA 15 33 hS2 ?_
          refine tkA 16 34 hS2 ?_
          clear hS2
          refine rdyA 17 (fun K hK => ?_)
          · go_simp
            have T3 : Turn [] w0 ([(V2.heap.size, .cells #[.int .u8 0, .int .i64 0, .int .i64 0, .int .i64 0] 79), (bt, .cells #[.int .u8 0, .int .i64 0, .int .u64 0] 49)] ++ (lr5 ++ ((rb, .cells #[.slice ao W.length cap, .slice lao L.length lcap] 109) :: lr ++ R))) (V2.alloc (.cells #[.int .u8 0, .int .i64 0, .int .i64 0, .int .i64 0] 79)) := T2.alloc (.cells #[.int .u8 0, .int .i64 0, .int .i64 0, .int .i64 0] 79)
            refine hK.out _ _ (HS.out _ _ T3) fun _ => ?_
            clear hK K T2
            simp only [st0, st1, st2]
            generalize V2.alloc (.cells #[.int .u8 0, .int .i64 0, .int .i64 0, .int .i64 0] 79) = V3 at *
            generalize V2.heap.size = bh at *
            exact hG.out bh bt V3 (T3.perm po)
        · go_simp
          have T2 : Turn [] w0 ([(V1.heap.size, .cells #[.int .u8 0, .int .i64 0, .int .i64 0, .int .i64 0] 79), (bt, .cells #[.int .u8 0, .int .i64 0, .int .u64 0] 49)] ++ (lr5 ++ ((rb, .cells #[.slice ao W.length cap, .slice lao L.length lcap] 109) :: lr ++ R))) (V1.alloc (.cells #[.int .u8 0, .int .i64 0, .int .i64 0, .int .i64 0] 79)) := T1.alloc (.cells #[.int .u8 0, .int .i64 0, .int .i64 0, .int .i64 0] 79)
          refine hK.out _ _ (HS.out _ _ T2) fun _ => ?_
          clear hK K T1
          simp only [st0, st1, st2]
          generalize V1.alloc (.cells #[.int .u8 0, .int .i64 0, .int .i64 0, .int .i64 0] 79) = V2 at *
          generalize V1.heap.size = bh at *
          refine rdyA 12 (fun K hK => ?_)
          · go_simp
            refine (Hof.out _ _ T2).mono ?_
            rintro e V3 ⟨rfl, hB⟩
            have T3 := T2.call hB
            refine hK.out _ _ (HS.out _ _ T3) fun _ => ?_
            clear hK K hB T2
            simp only [st0, st1, st2]
            have hS3 := HS.out _ _ T3
            refine tkA 13 18 hS3 ?_
            refine tkA 14 32 hS3 ?_
            refine tkA 15 33 hS3 ?_
            refine tkA 16 34 hS3 ?_
            clear hS3
            exact hG.out bh bt V3 (T3.perm po)
     case h2 =>
      intro bh bt V0 U0
      refine rdyA 19 (fun K hK => ?_)
      have hth0 := U0.there1
      have U1 := U0.laid [.int .u8 ha, .int .i64 hb, .int .i64 hc, .int .i64 hd] rfl
      refine step_store rfl rfl 79 _ _ rfl _ 0 #[.int .u8 ha, .int .i64 hb, .int .i64 hc, .int .i64 hd] rfl rfl hth0 hszH hoH ?_
      refine hK.out _ _ (HS.out _ [_, _] U1) fun _ => ?_
      clear hK K hth0
      simp only [st0, st1, st2]
      generalize V0.setCells bh 0 _ = V9 at *
      refine rdyA 20 (fun K hK => ?_)
      have hth1 := U1.there2
      have U2 := U1.laid2 [.int .u8 tk, .int .i64 tw, .int .u64 tm] rfl
      refine step_store rfl rfl 49 _ _ rfl _ 0 #[.int .u8 tk, .int .i64 tw, .int .u64 tm] rfl rfl hth1 hszT hoT ?_
      refine hK.out _ _ (HS.out _ [_, _] U2) fun _ => ?_
      clear hK K hth1
      simp only [st0, st1, st2]
      have hSz := HS.out _ [_, _] U2
      refine tkA 21 10 hSz ?_
      clear hSz
      refine wpAnyH_done (by kernel_rfl) ?_ _
      refine NoPanic.normal ?_
      exact ⟨rfl, bh, bt, rfl, U2⟩
    case hq =>
     intro bh bt w5 T5
     have hat := Hat.out w5 T5.below
     have HT5 := uh ((T5.perm (l2 := ((bh, .cells #[.int .u8 ha, .int .i64 hb, .int .i64 hc, .int .i64 hd] 79) :: (bt, .cells #[.int .u8 tk, .int .i64 tw, .int .u64 tm] 49) :: lr5) ++ (((rb, .cells #[.slice ao W.length cap, .slice lao L.length lcap] 109) :: lr) ++ R)) po).drop)
     clear T5 HS Hof
     rcases hdec with hne | ⟨rfl, hlt9⟩
     · have ke : (er != 0) = true := by rw [bne_iff_ne]; exact hne
       go_wp2_with fail
       go_ret
       exact ⟨rfl, HT5.out⟩
     · have k1 : decide (x < (en : Int)) = true := decide_eq_true hlt9
       go_wp2_with fail
       go_ret
       exact ⟨rfl, HT5.out⟩
structure PlBase (w1 : World) (tb : Nat) (L : List Ty) (lao : Option Addr) (lcap : Nat) : Prop where
 tab : ∃ tao tcap, TabAt w1 tb tao tcap L
 fields : Fields w1
 src : Src w1 lao L.length lcap 3 (tys L)
 ty : ∀ t ∈ L, TyIn t
def PlAt (w1 w : World) (sb tb rb : Nat) (lao : Option Addr) (lcap : Nat) (L : List Ty) (W B Wr : List Nat) (X : List Blk) : Prop :=
 ∃ ls lr, SpIs sb tb W B ls ∧ RefIs rb lao L.length lcap Wr lr ∧ (∀ x ∈ X, x.2.isCells = true) ∧ Turn [] w1 (ls ++ (lr ++ X)) w
theorem PlAt.call {w1 w w' : World} {sb tb rb lcap : Nat} {lao : Option Addr} {L : List Ty} {W B Wr : List Nat} {X : List Blk} (h : PlAt w1 w sb tb rb lao lcap L W B Wr X) (hB : Below w.heap.size w w') : PlAt w1 w' sb tb rb lao lcap L W B Wr X := by
 obtain ⟨ls, lr, h1, h2, h3, T⟩ := h
 exact ⟨ls, lr, h1, h2, h3, T.call hB⟩
theorem PlAt.drew {w1 w : World} {sb tb rb lcap : Nat} {lao : Option Addr} {L : List Ty} {W B Wr : List Nat} {X : List Blk} (h : PlAt w1 w sb tb rb lao lcap L W B Wr X) : PlAt w1 w.drew sb tb rb lao lcap L W B Wr X := by
 obtain ⟨ls, lr, h1, h2, h3, T⟩ := h
 exact ⟨ls, lr, h1, h2, h3, T.drew⟩
theorem PlAt.below {w1 w : World} {sb tb rb lcap : Nat} {lao : Option Addr} {L : List Ty} {W B Wr : List Nat} {X : List Blk} (h : PlAt w1 w sb tb rb lao lcap L W B Wr X) : Below w1.heap.size w1 w := by
 obtain ⟨ls, lr, -, -, -, T⟩ := h
 exact T.below
theorem PlAt.has {w1 w : World} {sb tb rb lcap : Nat} {lao : Option Addr} {L : List Ty} {W B Wr : List Nat} {X : List Blk} (h : PlAt w1 w sb tb rb lao lcap L W B Wr X) : Has w X := by
 obtain ⟨ls, lr, -, -, -, T⟩ := h
 exact (T.drop.drop).has
theorem PlAt.alloc {w1 w : World} {sb tb rb lcap : Nat} {lao : Option Addr} {L : List Ty} {W B Wr : List Nat} {X : List Blk} (h : PlAt w1 w sb tb rb lao lcap L W B Wr X) (o : Obj) (ho : o.isCells = true) : PlAt w1 (w.alloc o) sb tb rb lao lcap L W B Wr ((w.heap.size, o) :: X) := by
 obtain ⟨ls, lr, h1, h2, h3, T⟩ := h
 refine ⟨ls, lr, h1, h2, ?_, (T.alloc o).perm po⟩
 intro x hx
 rcases List.mem_cons.1 hx with rfl | hx
 · exact ho
 · exact h3 x hx
theorem PlAt.sub {w1 w : World} {sb tb rb lcap : Nat} {lao : Option Addr} {L : List Ty} {W B Wr : List Nat} {X Y : List Blk} (h : PlAt w1 w sb tb rb lao lcap L W B Wr X) (s : Y.Sublist X) : PlAt w1 w sb tb rb lao lcap L W B Wr Y := by
 obtain ⟨ls, lr, h1, h2, h3, T⟩ := h
 exact ⟨ls, lr, h1, h2, fun x hx => h3 x (s.subset hx), T.sub ((List.Sublist.refl ls).append ((List.Sublist.refl lr).append s))⟩
theorem PlAt.grow {w1 w w' : World} {sb tb rb lcap : Nat} {lao : Option Addr} {L : List Ty} {W B Wr : List Nat} {X Y : List Blk} (h : PlAt w1 w sb tb rb lao lcap L W B Wr X) (T' : Turn [] w Y w') (hY : ∀ x ∈ Y, x.2.isCells = true) : PlAt w1 w' sb tb rb lao lcap L W B Wr (Y ++ X) := by
 obtain ⟨ls, lr, h1, h2, h3, T⟩ := h
 refine ⟨ls, lr, h1, h2, ?_, (T.grow T').perm po⟩
 intro x hx
 rcases List.mem_append.1 hx with hx | hx
 · exact hY x hx
 · exact h3 x hx
theorem RefIs.cells {rb ln lcap : Nat} {lao : Option Addr} {W : List Nat} {l : List Blk} (h : RefIs rb lao ln lcap W l) : ∀ x ∈ l, x.2.isCells = true := by
 obtain ⟨ao, cap, lr, hr, rfl⟩ := h
 intro x hx
 rcases List.mem_cons.1 hx with rfl | hx
 · rfl
 · exact hr.cells x hx
theorem spAt_of {w1 w : World} {sb a aw tb bb : Nat} {W : List Nat} {lb R : List Blk} {cw : Int} {tao : Option Addr} {tcap : Nat} {L : List Ty} (T : Turn [] w1 (arBlks a aw W cw ++ (spBlk sb a tb bb :: lb) ++ R) w) (hTab : TabAt w1 tb tao tcap L) (hF : Fields w1) (hf : W.length ≤ 65536) : SpAt w sb a aw tb W tao tcap L := by
 have T' : Turn [] w1 (arBlks a aw W cw ++ (spBlk sb a tb bb :: (lb ++ R))) w := by
  have e : arBlks a aw W cw ++ (spBlk sb a tb bb :: lb) ++ R = arBlks a aw W cw ++ (spBlk sb a tb bb :: (lb ++ R)) := by simp
  rw [← e]; exact T
 exact ⟨T'.has.cell (b := sb) (c := #[.pointer (some ⟨a, 0, none⟩), .pointer (some ⟨tb, 0, none⟩), .pointer (some ⟨bb, 0, none⟩)]) (e := 146) (f := (0, 0)) (by simp [spBlk]) 0,
  T'.has.cell (b := sb) (c := #[.pointer (some ⟨a, 0, none⟩), .pointer (some ⟨tb, 0, none⟩), .pointer (some ⟨bb, 0, none⟩)]) (e := 146) (f := (0, 0)) (by simp [spBlk]) 1, arBlks_at T'.has hf, hTab.below T.below, range_below hF T.below⟩
theorem new_may {L : List Ty} {id n : Int} (he : tyErr L id n = 0) (hl : L.length ≤ 64) : 1 ≤ id ∧ id ≤ L.length ∧ 0 ≤ n ∧ (Hd.mk 1 id.toNat n.toNat (tySize L id n)).may := by
 unfold tyErr at he
 unfold tySize
 cases hg : getTy L id with
 | none => rw [hg] at he; exact absurd he (by simp)
 | some t =>
  rw [hg] at he
  simp only at he ⊢
  obtain ⟨k, h1, h2, h3⟩ := getTy_some hg
  obtain ⟨hm, h4, h5, -⟩ := err_ok.1 he
  rw [if_pos he]
  have h6 := slots_most hm (n := n.toNat) (by omega)
  unfold Ty.size
  refine ⟨by omega, by omega, h4, ?_⟩
  unfold Hd.may
  exact ⟨by show 1 ≤ _; simp only; omega, by simp only; omega, by simp only; omega, .inl ⟨rfl, by simp only; omega, by simp only; omega⟩⟩
theorem new_fits {L : List Ty} {id n : Int} (he : tyErr L id n = 0) (hl : L.length ≤ 64) : fits L ⟨1, id.toNat, n.toNat, tySize L id n⟩ := by
 obtain ⟨h1, -, h2, h3⟩ := new_may he hl
 refine (fit_iff L _).1 ?_
 unfold fitErr
 rw [if_neg (by simpa using h3), if_neg (by simp)]
 have e1 : ((id.toNat : Nat) : Int) = id := by omega
 have e2 : ((n.toNat : Nat) : Int) = n := by omega
 simp only [e1, e2]
 rw [if_pos ⟨he, trivial⟩]
theorem one_cell {L : List Ty} {W : List Nat} {cs : List Ce} {e : Nat} (hC : Chain L W 0 cs e) {c d : Ce} (hc : c ∈ cs) (hd : d ∈ cs) {g : Nat} (h1 : c.1 ≤ g) (h2 : g < c.1 + c.2.size) (h3 : d.1 ≤ g) (h4 : g < d.1 + d.2.size) : c = d := by
 obtain ⟨a, b, rfl⟩ := List.append_of_mem hc
 obtain ⟨k1, k2, k3⟩ := hC.split
 rcases List.mem_append.1 hd with hd | hd
 · have := k1.mem d hd
   omega
 · rcases List.mem_cons.1 hd with rfl | hd
   · rfl
   · have := k3.mem d hd
     omega
def PutRes (L : List Ty) (W B : List Nat) (cs : List Ce) (g id n er : Int) (W' B' : List Nat) (cs' : List Ce) : Prop :=
 (er ≠ 0 ∧ W' = W ∧ B' = B ∧ cs' = cs ∧ ((tyErr L id n ≠ 0 ∨ g < 0 ∨ ((W.length / 2 : Nat) : Int) ≤ g) ∧ er = (if tyErr L id n ≠ 0 then tyErr L id n else 2) ∨
   tyErr L id n = 0 ∧ 0 ≤ g ∧ g < (W.length / 2 : Nat) ∧ er = 3 ∧ ∀ c ∈ cs, ¬ takes c g.toNat (tySize L id n))) ∨
 (er = 0 ∧ tyErr L id n = 0 ∧ 0 ≤ g ∧ g < (W.length / 2 : Nat) ∧ ∃ a c b, cs = a ++ c :: b ∧ takes c g.toNat (tySize L id n) ∧ W' = putW W c g.toNat ⟨1, id.toNat, n.toNat, tySize L id n⟩ ∧ cs' = a ++ putC c g.toNat ⟨1, id.toNat, n.toNat, tySize L id n⟩ ++ b)
theorem sput_all {w1 : World} (w : World) {sb tb rb lcap : Nat} {lao : Option Addr} {L : List Ty} {W B Wr : List Nat} {X : List Blk} {cs : List Ce} (hb : PlBase w1 tb L lao lcap) (hP : PlAt w1 w sb tb rb lao lcap L W B Wr X) (h : Pl L W B cs) (g id n : Int) :
  Calls Tryz.prog 16 #[.pointer (some ⟨sb, 0, none⟩), .int .i64 g, .int .i64 id, .int .i64 n] w fun e w' => ∃ (er : Int) (W' B' : List Nat) (cs' : List Ce), e = .returned (.int .i64 er) ∧ PutRes L W B cs g id n er W' B' cs' ∧ Pl L W' B' cs' ∧ PlAt w1 w' sb tb rb lao lcap L W' B' Wr X := by
 obtain ⟨tao, tcap, hTab⟩ := hb.tab
 have hsm := h.good.small
 have hfew := h.good.few
 have hP' := hP
 obtain ⟨ls, lr, ⟨a, aw, bb, cw, lb, hbit, rfl⟩, hR, hX, T⟩ := hP'
 have hA := spAt_of T hTab hb.fields (by omega)
 by_cases hno : tyErr L id n ≠ 0 ∨ g < 0 ∨ ((W.length / 2 : Nat) : Int) ≤ g
 · refine (callsIn_wide.1 (sput_err_in 3 w sb a aw tb tao tcap L hA (by omega) hb.ty (by omega) g id n hno (by omega))).mono ?_
   rintro e w' ⟨rfl, hB⟩
   refine ⟨_, W, B, cs, rfl, .inl ⟨?_, rfl, rfl, rfl, .inl ⟨hno, rfl⟩⟩, h, hP.call hB⟩
   split
   · assumption
   · decide
 · have he : tyErr L id n = 0 := by
     by_cases h0 : tyErr L id n = 0
     · exact h0
     · exact absurd (.inl h0) hno
   have hg0 : 0 ≤ g := by omega
   have hg1 : g < (W.length / 2 : Nat) := by omega
   obtain ⟨h1, h2, h3, hmay⟩ := new_may he hfew
   have hfit := new_fits he hfew
   obtain ⟨gn, rfl⟩ : ∃ k : Nat, g = k := ⟨g.toNat, by omega⟩
   obtain ⟨idn, rfl⟩ : ∃ k : Nat, id = k := ⟨id.toNat, by omega⟩
   obtain ⟨nn, rfl⟩ : ∃ k : Nat, n = k := ⟨n.toNat, by omega⟩
   rw [Int.toNat_natCast, Int.toNat_natCast] at hmay hfit
   refine (callsIn_wide.1 (sput_in 5 (by omega) w sb a aw tb bb tao tcap L hA hbit h.bu (Nat.le_of_eq h.bl.symm) (fun x hx => ?_) T hTab hb.fields (by omega) h.good.u64 hb.ty (by omega) cs h.good.chain gn idn nn _ he rfl hmay (by omega))).mono ?_
   · rcases List.mem_append.1 hx with hx | hx
     · exact hR.cells x hx
     · exact hX x hx
   · rintro e w' ⟨er, l', rfl, T', hE⟩
     rcases hE with ⟨rfl, rfl, hno2⟩ | ⟨rfl, c, hc, ht, B', lb', cw', hset, hbit', rfl⟩
     · exact ⟨3, W, B, cs, rfl, .inl ⟨by decide, rfl, rfl, rfl, .inr ⟨he, hg0, hg1, rfl, hno2⟩⟩, h, _, lr, ⟨a, aw, bb, cw, lb, hbit, rfl⟩, hR, hX, T'⟩
     · obtain ⟨p, q, rfl⟩ := List.append_of_mem hc
       refine ⟨0, _, B', _, rfl, .inr ⟨rfl, he, hg0, hg1, p, c, q, rfl, ht, rfl, rfl⟩, h.put hfit rfl ht hset, _, lr, ⟨a, aw, bb, cw', lb', ?_, rfl⟩, hR, hX, T'⟩
       rw [putW_len]
       exact hbit'
theorem rput_all {w1 : World} (w : World) {sb tb rb lcap : Nat} {lao : Option Addr} {L : List Ty} {W B Ws Bs W' B' : List Nat} {X : List Blk} {cs cs' : List Ce} (hb : PlBase w1 tb L lao lcap) (h : Pl L W B cs) (hP : PlAt w1 w sb tb rb lao lcap L Ws Bs W X) (g id n er : Int) (hr : PutRes L W B cs g id n er W' B' cs') :
  Calls Tryz.prog 135 #[.pointer (some ⟨rb, 0, none⟩), .int .i64 g, .int .i64 id, .int .i64 n] w fun e w' => e = .returned (.int .i64 er) ∧ PlAt w1 w' sb tb rb lao lcap L Ws Bs W' X := by
 have hsm := h.good.small
 have hfew := h.good.few
 obtain ⟨ls, lr, hS, hR, hX, T⟩ := hP
 have T' : Turn [] w1 (lr ++ (ls ++ X)) w := T.perm po
 have hback : ∀ (w' : World) (lr' : List Blk), Turn [] w1 (lr' ++ (ls ++ X)) w' → Turn [] w1 (ls ++ (lr' ++ X)) w' := fun w' lr' V => V.perm po
 rcases hr with ⟨-, rfl, -, -, ⟨hno, rfl⟩ | ⟨he, hg0, hg1, rfl, hno⟩⟩ | ⟨rfl, he, hg0, hg1, p, c, q, rfl, ht, rfl, -⟩
 · refine (put9_err w hR T' hb.src hb.ty (by omega) (by omega) g id n hno).mono ?_
   rintro e w' ⟨rfl, V⟩
   exact ⟨rfl, ls, lr, hS, hR, hX, hback _ _ V⟩
 · obtain ⟨h1, h2, h3, hmay⟩ := new_may he hfew
   obtain ⟨gn, rfl⟩ : ∃ k : Nat, g = k := ⟨g.toNat, by omega⟩
   obtain ⟨idn, rfl⟩ : ∃ k : Nat, id = k := ⟨id.toNat, by omega⟩
   obtain ⟨nn, rfl⟩ : ∃ k : Nat, n = k := ⟨n.toNat, by omega⟩
   rw [Int.toNat_natCast, Int.toNat_natCast] at hmay
   rw [Int.toNat_natCast] at hno
   refine put9 w hR T' hb.src hb.ty (by omega) (by omega) h.good.u64 cs h.good.chain gn idn nn _ he rfl hmay (by omega) _ (uh fun c hc ht => absurd ht (hno c hc)) (uh fun _ w' V => ?_)
   exact ⟨rfl, ls, lr, hS, hR, hX, hback _ _ V⟩
 · obtain ⟨h1, h2, h3, hmay⟩ := new_may he hfew
   obtain ⟨gn, rfl⟩ : ∃ k : Nat, g = k := ⟨g.toNat, by omega⟩
   obtain ⟨idn, rfl⟩ : ∃ k : Nat, id = k := ⟨id.toNat, by omega⟩
   obtain ⟨nn, rfl⟩ : ∃ k : Nat, n = k := ⟨n.toNat, by omega⟩
   rw [Int.toNat_natCast, Int.toNat_natCast] at hmay
   rw [Int.toNat_natCast] at ht
   simp only [Int.toNat_natCast]
   refine put9 w hR T' hb.src hb.ty (by omega) (by omega) h.good.u64 (p ++ c :: q) h.good.chain gn idn nn _ he rfl hmay (by omega) _ (uh fun d hd ht' w' l' hR' V => ?_) (uh fun hno => absurd ht (hno c (by simp)))
   have hdc : d = c := one_cell h.good.chain hd (by simp) ht'.2.1 ht'.2.2.1 ht.2.1 ht.2.2.1
   subst hdc
   exact ⟨rfl, ls, l', hS, hR', hX, hback _ _ V⟩
def DropRes (W B : List Nat) (cs : List Ce) (g er : Int) (W' B' : List Nat) (cs' : List Ce) : Prop :=
 (er = 3 ∧ W' = W ∧ B' = B ∧ cs' = cs ∧ ∀ c ∈ cs, ¬ ((c.1 : Int) = g ∧ c.2.tag = 1)) ∨
 (er = 0 ∧ ∃ pre c post, cs = pre ++ c :: post ∧ (c.1 : Int) = g ∧ c.2.tag = 1 ∧ W' = dropW W pre c post ∧ objs cs' = objs pre ++ objs post)
theorem sdrop_all {w1 : World} (w : World) {sb tb rb lcap : Nat} {lao : Option Addr} {L : List Ty} {W B Wr : List Nat} {X : List Blk} {cs : List Ce} (hb : PlBase w1 tb L lao lcap) (hP : PlAt w1 w sb tb rb lao lcap L W B Wr X) (h : Pl L W B cs) (g : Int) :
  Calls Tryz.prog 22 #[.pointer (some ⟨sb, 0, none⟩), .int .i64 g] w fun e w' => ∃ (er : Int) (W' B' : List Nat) (cs' : List Ce), e = .returned (.int .i64 er) ∧ DropRes W B cs g er W' B' cs' ∧ Pl L W' B' cs' ∧ PlAt w1 w' sb tb rb lao lcap L W' B' Wr X := by
 obtain ⟨tao, tcap, hTab⟩ := hb.tab
 have hsm := h.good.small
 have hfew := h.good.few
 obtain ⟨ls, lr, ⟨a, aw, bb, cw, lb, hbit, rfl⟩, hR, hX, T⟩ := hP
 by_cases hno : ∀ c ∈ cs, ¬ ((c.1 : Int) = g ∧ c.2.tag = 1)
 · refine (sdrop_none w sb a aw tb bb hbit h.bu (Nat.le_of_eq h.bl.symm) T (by omega) g ?_).mono ?_
   · by_cases h1 : g < 0
     · exact .inl h1
     · by_cases h2 : ((W.length / 2 : Nat) : Int) ≤ g
       · exact .inr (.inl h2)
       · refine .inr (.inr ?_)
         cases hbt : bitAt B g.toNat with
         | false => rfl
         | true =>
          obtain ⟨c, hc, h3, h4⟩ := h.bit (by omega) hbt
          exact absurd ⟨by omega, h4⟩ (hno c hc)
   · rintro e w' ⟨rfl, V⟩
     exact ⟨3, W, B, cs, rfl, .inl ⟨rfl, rfl, rfl, rfl, hno⟩, h, _, lr, ⟨a, aw, bb, cw, lb, hbit, rfl⟩, hR, hX, V⟩
 · simp only [Classical.not_forall, Classical.not_not] at hno
   obtain ⟨c, hc, rfl, ht⟩ := hno
   have hbt := h.bit_of hc ht
   obtain ⟨p, q, rfl⟩ := List.append_of_mem hc
   refine (callsIn_wide.1 (sdrop_in 5 (by omega) w sb a aw tb bb tao tcap L hbit h.bu (Nat.le_of_eq h.bl.symm) (fun x hx => ?_) T hTab hb.fields (by omega) h.good.u64 hb.ty (by omega) p q c h.good.chain hbt)).mono ?_
   · rcases List.mem_append.1 hx with hx | hx
     · exact hR.cells x hx
     · exact hX x hx
   · rintro e w' ⟨B', lb', cw', rfl, hclr, hbit', V⟩
     obtain ⟨cs', h1, h2⟩ := h.drop ht hclr
     refine ⟨0, _, B', cs', rfl, .inr ⟨rfl, p, c, q, rfl, rfl, ht, rfl, h2⟩, h1, _, lr, ⟨a, aw, bb, cw', lb', ?_, rfl⟩, hR, hX, V⟩
     unfold dropW
     rw [lay_len]
     exact hbit'
theorem rdrop_all {w1 : World} (w : World) {sb tb rb lcap : Nat} {lao : Option Addr} {L : List Ty} {W B Ws Bs W' B' : List Nat} {X : List Blk} {cs cs' : List Ce} (hb : PlBase w1 tb L lao lcap) (h : Pl L W B cs) (hP : PlAt w1 w sb tb rb lao lcap L Ws Bs W X) (g er : Int) (hr : DropRes W B cs g er W' B' cs') :
  Calls Tryz.prog 136 #[.pointer (some ⟨rb, 0, none⟩), .int .i64 g] w fun e w' => e = .returned (.int .i64 er) ∧ PlAt w1 w' sb tb rb lao lcap L Ws Bs W' X := by
 have hsm := h.good.small
 have hfew := h.good.few
 obtain ⟨ls, lr, hS, hR, hX, T⟩ := hP
 have T' : Turn [] w1 (lr ++ (ls ++ X)) w := T.perm po
 have hback : ∀ (w' : World) (lr' : List Blk), Turn [] w1 (lr' ++ (ls ++ X)) w' → Turn [] w1 (ls ++ (lr' ++ X)) w' := fun w' lr' V => V.perm po
 rcases hr with ⟨rfl, rfl, -, -, hno⟩ | ⟨rfl, p, c, q, rfl, rfl, ht, rfl, -⟩
 · refine (drop9_none w hR T' hb.src hb.ty (by omega) (by omega) h.good.u64 cs h.good.chain g hno).mono ?_
   rintro e w' ⟨rfl, V⟩
   exact ⟨rfl, ls, lr, hS, hR, hX, hback _ _ V⟩
 · refine (drop9 w hR T' hb.src hb.ty (by omega) (by omega) h.good.u64 p q c h.good.chain ht).mono ?_
   rintro e w' ⟨rfl, l', hR', V⟩
   exact ⟨rfl, ls, l', hS, hR', hX, hback _ _ V⟩
theorem settle_cases (L : List Ty) (W : List Nat) (ats : List Int) : (∃ os, rises L W 0 os ∧ ats = cesAt os) ∨
  (∃ os x, rises L W 0 os ∧ ats[os.length]? = some x ∧ (∀ (i : Nat) (c : Ce), os[i]? = some c → ats[i]? = some (c.1 : Int)) ∧ ∀ h, objq L W x = some h → x < (endOf 0 os : Nat)) := by
 have key : ∀ k, k ≤ ats.length → (∃ os : List Ce, os.length = k ∧ rises L W 0 os ∧ ∀ (i : Nat) (c : Ce), os[i]? = some c → ats[i]? = some (c.1 : Int)) ∨
   (∃ os x, rises L W 0 os ∧ ats[os.length]? = some x ∧ (∀ (i : Nat) (c : Ce), os[i]? = some c → ats[i]? = some (c.1 : Int)) ∧ ∀ h, objq L W x = some h → x < (endOf 0 os : Nat)) := by
  intro k
  induction k with
  | zero => exact fun _ => .inl ⟨[], rfl, trivial, fun i c h => by simp at h⟩
  | succ k ih =>
   intro hk
   rcases ih (by omega) with ⟨os, hl, hr, hat⟩ | h
   · obtain ⟨x, hx⟩ : ∃ x, ats[k]? = some x := ⟨ats[k]'(by omega), List.getElem?_eq_getElem _⟩
     by_cases hbad : ∀ h, objq L W x = some h → x < (endOf 0 os : Nat)
     · exact .inr ⟨os, x, hr, by rw [hl]; exact hx, hat, hbad⟩
     · simp only [Classical.not_forall, Int.not_lt] at hbad
       obtain ⟨h, ho, hle⟩ := hbad
       obtain ⟨h0, hst, ht⟩ := objq_some ho
       refine .inl ⟨os ++ [(x.toNat, h)], by simp [hl], rises_snoc.2 ⟨hr, by show endOf 0 os ≤ x.toNat; omega, hst, ht⟩, fun i c hc => ?_⟩
       by_cases hi : i < os.length
       · rw [List.getElem?_append_left hi] at hc
         exact hat i c hc
       · have : i = os.length := by
           have := (List.getElem?_eq_some_iff.1 hc).1
           rw [List.length_append, List.length_singleton] at this
           omega
         subst this
         rw [List.getElem?_append_right (Nat.le_refl _), Nat.sub_self] at hc
         obtain rfl : (x.toNat, h) = c := by simpa using hc
         rw [hl, hx]
         congr 1
         show x = ((x.toNat : Nat) : Int)
         omega
   · exact .inr h
 rcases key ats.length (Nat.le_refl _) with ⟨os, hl, hr, hat⟩ | h
 · refine .inl ⟨os, hr, List.ext_getElem? fun i => ?_⟩
   cases hc : os[i]? with
   | none =>
    rw [List.getElem?_eq_none_iff] at hc
    rw [List.getElem?_eq_none (by omega), List.getElem?_eq_none (by rw [cesAt_len]; exact hc)]
   | some c => rw [hat i c hc, cesAt_get hc]
 · exact .inr h
def SetRes (L : List Ty) (W B : List Nat) (cs : List Ce) (ats : List Int) (er : Int) (W' B' : List Nat) (cs' : List Ce) : Prop :=
 (er = 2 ∧ W' = W ∧ B' = B ∧ cs' = cs ∧ ∃ os x, rises L W 0 os ∧ ats[os.length]? = some x ∧ (∀ (i : Nat) (c : Ce), os[i]? = some c → ats[i]? = some (c.1 : Int)) ∧ ∀ h, objq L W x = some h → x < (endOf 0 os : Nat)) ∨
 (er = 0 ∧ ∃ os, rises L W 0 os ∧ ats = cesAt os ∧ W' = settleW (W.length / 2) W os 0 ∧ cs' = settleC (W.length / 2) os 0)
theorem ssettle_all {w1 : World} (w : World) {sb tb rb lcap : Nat} {lao : Option Addr} {L : List Ty} {W B Wr : List Nat} {X la : List Blk} {cs : List Ce} (hb : PlBase w1 tb L lao lcap) (hP : PlAt w1 w sb tb rb lao lcap L W B Wr (la ++ X)) (h : Pl L W B cs) (ats : List Int) (hlen : ats.length ≤ 65536) (aa : Option Addr) (acap : Nat) (hrow : Row 3 1 aa ats.length acap (ints ats) la) :
  Calls Tryz.prog 138 #[.pointer (some ⟨sb, 0, none⟩), .slice aa ats.length acap] w fun e w' => ∃ (er : Int) (W' B' : List Nat) (cs' : List Ce), e = .returned (.int .i64 er) ∧ SetRes L W B cs ats er W' B' cs' ∧ Pl L W' B' cs' ∧ PlAt w1 w' sb tb rb lao lcap L W' B' Wr (la ++ X) := by
 obtain ⟨tao, tcap, hTab⟩ := hb.tab
 have hsm := h.good.small
 have hfew := h.good.few
 obtain ⟨ls, lr, ⟨a, aw, bb, cw, lb, hbit, rfl⟩, hR, hX, T⟩ := hP
 have hat : ∀ (w' : World) (Y : List Blk), Turn [] w1 (Y ++ (lr ++ (la ++ X))) w' → Src w' aa ats.length acap 1 (ints ats) := fun w' Y V => hrow.src (R := Y ++ (lr ++ X)) (V.has.perm po)
 rcases settle_cases L W ats with ⟨os, hr, rfl⟩ | ⟨os, x, hr, hx, hpre, hbad⟩
 · rw [cesAt_len] at hat ⊢
   refine (ssettle w sb a aw tb bb tao tcap L hbit h.bu (Nat.le_of_eq h.bl.symm) T hTab hb.fields (by omega) h.good.u64 hb.ty (by omega) os hr aa acap hat).mono ?_
   rintro e w' ⟨rfl, B', lb', cw', h1, h2, h3, h4, V⟩
   refine ⟨0, _, B', _, rfl, .inr ⟨rfl, os, hr, rfl, rfl, rfl⟩, h.settle hr h1 h2 h3, _, lr, ⟨a, aw, bb, cw', lb', ?_, rfl⟩, hR, hX, V⟩
   rw [settleW_len]
   exact h4
 · refine (ssettle_err w sb a aw tb bb tao tcap L hbit h.bu (Nat.le_of_eq h.bl.symm) T hTab hb.fields (by omega) h.good.u64 hb.ty (by omega) ats os hr x hx hpre hbad hlen aa acap hat).mono ?_
   rintro e w' ⟨rfl, V⟩
   exact ⟨2, W, B, cs, rfl, .inl ⟨rfl, rfl, rfl, rfl, os, x, hr, hx, hpre, hbad⟩, h, _, lr, ⟨a, aw, bb, cw, lb, hbit, rfl⟩, hR, hX, V⟩
theorem rsettle_all {w1 : World} (w : World) {sb tb rb lcap : Nat} {lao : Option Addr} {L : List Ty} {W B Ws Bs W' B' : List Nat} {X : List Blk} {cs cs' : List Ce} (hb : PlBase w1 tb L lao lcap) (h : Pl L W B cs) (hP : PlAt w1 w sb tb rb lao lcap L Ws Bs W X) (ats : List Int) (hlen : ats.length ≤ 65536) (aa : Option Addr) (acap : Nat) (hA : Src w1 aa ats.length acap 1 (ints ats)) (er : Int) (hr : SetRes L W B cs ats er W' B' cs') :
  Calls Tryz.prog 139 #[.pointer (some ⟨rb, 0, none⟩), .slice aa ats.length acap] w fun e w' => e = .returned (.int .i64 er) ∧ PlAt w1 w' sb tb rb lao lcap L Ws Bs W' X := by
 have hsm := h.good.small
 have hfew := h.good.few
 obtain ⟨ls, lr, hS, hR, hX, T⟩ := hP
 have T' : Turn [] w1 (lr ++ (ls ++ X)) w := T.perm po
 have hback : ∀ (w' : World) (lr' : List Blk), Turn [] w1 (lr' ++ (ls ++ X)) w' → Turn [] w1 (ls ++ (lr' ++ X)) w' := fun w' lr' V => V.perm po
 rcases hr with ⟨rfl, rfl, -, -, os, x, hr, hx, hpre, hbad⟩ | ⟨rfl, os, hr, rfl, rfl, -⟩
 · refine (settle9_err w hR T' hb.src hb.ty (by omega) (by omega) h.good.u64 ats os hr x hx hpre hbad hlen aa acap hA).mono ?_
   rintro e w' ⟨rfl, V⟩
   exact ⟨rfl, ls, lr, hS, hR, hX, hback _ _ V⟩
 · rw [cesAt_len] at hA ⊢
   refine (settle9 w hR T' hb.src hb.ty (by omega) (by omega) h.good.u64 os hr aa acap hA).mono ?_
   rintro e w' ⟨rfl, l', hR', V⟩
   exact ⟨rfl, ls, l', hS, hR', hX, hback _ _ V⟩
section
variable {P : Program} {w : World} {o : Oper} {a : Act} {K : Act → World → Prop} {Q : Exit → Act → World → Prop} {t e : TypeId} {size bytes : Nat} {z : Value}
 {ao ar : Option Addr} {n cap m c : Nat} {xs news : List Value} {l R : List Blk}
theorem step_append_src {ops : Array Oper} {E : Prop} (hgd : o.guard = none) (s x : Operand) (ho : o.op = .call { callee := .builtin .append, args := #[s, x], argTypes := #[t, t] }) (he : Elem P t e size bytes z)
  (hs : a.eval s = .slice ao n cap) (hx : a.eval x = .slice ar m c) (hrow : Row e size ao n cap xs l) (hH : Has w (l ++ R)) (hsrc : Src w ar m c size news) (h1 : ∀ u ∈ news, u.oneCell' = true)
  (h63 : n + m ≤ maxLen) (hbytes : (n + m) * bytes ≤ 140737488355328)
  (h : ∀ ao' cap' l' w', Row e size ao' (n + m) cap' (xs ++ news) l' → Turn (l ++ R) w (l' ++ R) w' → K (a.put o.dst (.slice ao' (n + m) cap')) w') :
  if Region.wanted o (yielded ops a.tmps) = true then Oper.wp P o a w K Q else E := by
 have hw : Region.wanted o (yielded ops a.tmps) = true := by simp [Region.wanted, hgd]
 rw [if_pos hw]
 exact wp_append_src s x ho he hs hx hrow hH hsrc h1 h63 hbytes h
end
theorem ints_one (l : List Int) : ∀ u ∈ ints l, u.oneCell' = true := by
 intro u hu
 unfold ints at hu
 rw [List.mem_map] at hu
 obtain ⟨x, -, rfl⟩ := hu
 rfl
theorem PlAt.x {w1 w : World} {sb tb rb lcap : Nat} {lao : Option Addr} {L : List Ty} {W B Wr : List Nat} {X : List Blk} {b : Nat} {c : Array Value} {e : TypeId} {f : Nat × Nat} (h : PlAt w1 w sb tb rb lao lcap L W B Wr ((b, .cells c e f) :: X)) : w.rangeAt b 0 c.toList := h.has.range (List.mem_cons_self ..)
theorem does_put {w1 : World} (w : World) {sb tb rb lcap : Nat} {lao : Option Addr} {L : List Ty} {W B : List Nat} {X : List Blk} {cs : List Ce} (hb : PlBase w1 tb L lao lcap) (hP : PlAt w1 w sb tb rb lao lcap L W B W X) (h : Pl L W B cs) (g id n : Int) (wv : Nat) (sl : Value) (_hsl : sl.oneCell' = true) :
  Calls Tryz.prog 55 #[.pointer (some ⟨sb, 0, none⟩), .pointer (some ⟨rb, 0, none⟩), .agg #[.int .i64 0, .int .i64 g, .int .i64 id, .int .i64 n, .int .u64 wv, sl]] w fun e w' => e = .returned (.bool true) ∧ ∃ W' B' cs', Pl L W' B' cs' ∧ PlAt w1 w' sb tb rb lao lcap L W' B' W' X := by
 have HP := uh (hP.alloc (.cells #[.int .i64 0, .int .i64 g, .int .i64 id, .int .i64 n, .int .u64 wv, sl] 118) rfl)
 have Hs := uh (fun w' (V : PlAt w1 w' sb tb rb lao lcap L W B W ((w.heap.size, .cells #[.int .i64 0, .int .i64 g, .int .i64 id, .int .i64 n, .int .u64 wv, sl] 118) :: X)) => sput_all w' hb V h g id n)
 have Hr := uh (fun w' Ws Bs (V : PlAt w1 w' sb tb rb lao lcap L Ws Bs W ((w.heap.size, .cells #[.int .i64 0, .int .i64 g, .int .i64 id, .int .i64 n, .int .u64 wv, sl] 118) :: X)) W' B' cs' er hr => rput_all (W' := W') (B' := B') (cs' := cs') w' hb h V g id n er hr)
 clear hb hP h
 go_enter Tryz.func55, Tryz.ntmps55
 have hz := HP.out.x
 have q0 := hz 0 _ rfl
 go_upto_region 3 with fail
 refine wp_abs (fun W' => PlAt w1 W'.drew sb tb rb lao lcap L W B W ((w.heap.size, .cells #[.int .i64 0, .int .i64 g, .int .i64 id, .int .i64 n, .int .u64 wv, sl] 118) :: X)) HP.out.drew fun W1 T1 => ?_
 have HT1 := uh T1
 have hS1 := T1.x
 clear T1 HP hz q0
 generalize w.heap.size = xb at *
 refine wp_region_noPanic ?_
 refine wp_region_listed (S := fun W' => W'.rangeAt xb 0 [.int .i64 0, .int .i64 g, .int .i64 id, .int .i64 n, .int .u64 wv, sl]) 18 [false, false, false, false, false, false, false, false, false, false, false, false, false, false, false, false, false, false] rfl rfl (by kernel_rfl) ?_
 refine tkA 0 15 hS1 ?_
 refine tkA 1 16 hS1 ?_
 refine tkB 2 17 hS1 (fun w hSw => hSw 1 _ rfl) ?_
 refine tkA 3 18 hS1 ?_
 refine tkB 4 19 hS1 (fun w hSw => hSw 2 _ rfl) ?_
 refine tkA 5 20 hS1 ?_
 refine tkB 6 21 hS1 (fun w hSw => hSw 3 _ rfl) ?_
 refine tkA 8 23 hS1 ?_
 refine tkA 9 24 hS1 ?_
 refine tkB 10 25 hS1 (fun w hSw => hSw 1 _ rfl) ?_
 refine tkA 11 26 hS1 ?_
 refine tkB 12 27 hS1 (fun w hSw => hSw 2 _ rfl) ?_
 refine tkA 13 28 hS1 ?_
 refine tkB 14 29 hS1 (fun w hSw => hSw 3 _ rfl) ?_
 refine rdyA 7 (fun K hK => ?_)
 go_simp
 refine (Hs.out _ HT1.out).mono ?_
 rintro e w2 ⟨er, W', B', cs', rfl, hres, hpl, hP2⟩
 have hS2 := hP2.x
 refine hK.out _ _ hS2 fun _ => ?_
 clear hK K
 simp only [st0, st1, st2]
 refine rdyA 15 (fun K hK => ?_)
 go_simp
 refine (Hr.out _ _ _ hP2 W' B' cs' er hres).mono ?_
 rintro e w3 ⟨rfl, hP3⟩
 have hS3 := hP3.x
 refine hK.out _ _ hS3 fun _ => ?_
 clear hK K
 simp only [st0, st1, st2]
 refine tkA 16 31 hS3 ?_
 refine tkA 17 6 hS3 ?_
 refine wpAnyH_done (by kernel_rfl) ?_ _
 refine NoPanic.normal ?_
 have HR := uh (⟨hpl, hP3.sub (List.sublist_cons_self ..)⟩ : Pl L W' B' cs' ∧ PlAt w1 w3 sb tb rb lao lcap L W' B' W' X)
 clear hS1 hS2 hS3 hP2 hP3 hres hpl HT1 Hs Hr
 go_wp2_with fail
 go_ret
 exact ⟨rfl, W', B', cs', HR.out.1, HR.out.2⟩
theorem does_drop {w1 : World} (w : World) {sb tb rb lcap : Nat} {lao : Option Addr} {L : List Ty} {W B : List Nat} {X : List Blk} {cs : List Ce} (hb : PlBase w1 tb L lao lcap) (hP : PlAt w1 w sb tb rb lao lcap L W B W X) (h : Pl L W B cs) (g id n : Int) (wv : Nat) (sl : Value) (_hsl : sl.oneCell' = true) :
  Calls Tryz.prog 55 #[.pointer (some ⟨sb, 0, none⟩), .pointer (some ⟨rb, 0, none⟩), .agg #[.int .i64 1, .int .i64 g, .int .i64 id, .int .i64 n, .int .u64 wv, sl]] w fun e w' => e = .returned (.bool true) ∧ ∃ W' B' cs', Pl L W' B' cs' ∧ PlAt w1 w' sb tb rb lao lcap L W' B' W' X := by
 have HP := uh (hP.alloc (.cells #[.int .i64 1, .int .i64 g, .int .i64 id, .int .i64 n, .int .u64 wv, sl] 118) rfl)
 have Hs := uh (fun w' (V : PlAt w1 w' sb tb rb lao lcap L W B W ((w.heap.size, .cells #[.int .i64 1, .int .i64 g, .int .i64 id, .int .i64 n, .int .u64 wv, sl] 118) :: X)) => sdrop_all w' hb V h g)
 have Hr := uh (fun w' Ws Bs (V : PlAt w1 w' sb tb rb lao lcap L Ws Bs W ((w.heap.size, .cells #[.int .i64 1, .int .i64 g, .int .i64 id, .int .i64 n, .int .u64 wv, sl] 118) :: X)) W' B' cs' er hr => rdrop_all (W' := W') (B' := B') (cs' := cs') w' hb h V g er hr)
 clear hb hP h
 go_enter Tryz.func55, Tryz.ntmps55
 have hz := HP.out.x
 have q0 := hz 0 _ rfl
 go_upto_region 5 with fail
 refine wp_abs (fun W' => PlAt w1 W'.drew sb tb rb lao lcap L W B W ((w.heap.size, .cells #[.int .i64 1, .int .i64 g, .int .i64 id, .int .i64 n, .int .u64 wv, sl] 118) :: X)) HP.out.drew fun W1 T1 => ?_
 have HT1 := uh T1
 have hS1 := T1.x
 clear T1 HP hz q0
 generalize w.heap.size = xb at *
 refine wp_region_noPanic ?_
 refine wp_region_listed (S := fun W' => W'.rangeAt xb 0 [.int .i64 1, .int .i64 g, .int .i64 id, .int .i64 n, .int .u64 wv, sl]) 10 [false, false, false, false, false, false, false, false, false, false] rfl rfl (by kernel_rfl) ?_
 refine tkA 0 34 hS1 ?_
 refine tkA 1 35 hS1 ?_
 refine tkB 2 36 hS1 (fun w hSw => hSw 1 _ rfl) ?_
 refine tkA 4 38 hS1 ?_
 refine tkA 5 39 hS1 ?_
 refine tkB 6 40 hS1 (fun w hSw => hSw 1 _ rfl) ?_
 refine rdyA 3 (fun K hK => ?_)
 go_simp
 refine (Hs.out _ HT1.out).mono ?_
 rintro e w2 ⟨er, W', B', cs', rfl, hres, hpl, hP2⟩
 have hS2 := hP2.x
 refine hK.out _ _ hS2 fun _ => ?_
 clear hK K
 simp only [st0, st1, st2]
 refine rdyA 7 (fun K hK => ?_)
 go_simp
 refine (Hr.out _ _ _ hP2 W' B' cs' er hres).mono ?_
 rintro e w3 ⟨rfl, hP3⟩
 have hS3 := hP3.x
 refine hK.out _ _ hS3 fun _ => ?_
 clear hK K
 simp only [st0, st1, st2]
 refine tkA 8 42 hS3 ?_
 refine tkA 9 6 hS3 ?_
 refine wpAnyH_done (by kernel_rfl) ?_ _
 refine NoPanic.normal ?_
 have HR := uh (⟨hpl, hP3.sub (List.sublist_cons_self ..)⟩ : Pl L W' B' cs' ∧ PlAt w1 w3 sb tb rb lao lcap L W' B' W' X)
 clear hS1 hS2 hS3 hP2 hP3 hres hpl HT1 Hs Hr
 go_wp2_with fail
 go_ret
 exact ⟨rfl, W', B', cs', HR.out.1, HR.out.2⟩
theorem does_settle {w1 : World} (w : World) {sb tb rb lcap : Nat} {lao : Option Addr} {L : List Ty} {W B : List Nat} {X : List Blk} {cs : List Ce} (hb : PlBase w1 tb L lao lcap) (hP : PlAt w1 w sb tb rb lao lcap L W B W X) (h : Pl L W B cs) (g id n : Int) (wv : Nat) (ats : List Int) (hlen : ats.length ≤ 65536) (aa : Option Addr) (acap : Nat) (hA : Src w1 aa ats.length acap 1 (ints ats)) :
  Calls Tryz.prog 55 #[.pointer (some ⟨sb, 0, none⟩), .pointer (some ⟨rb, 0, none⟩), .agg #[.int .i64 3, .int .i64 g, .int .i64 id, .int .i64 n, .int .u64 wv, .slice aa ats.length acap]] w fun e w' => e = .returned (.bool true) ∧ ∃ W' B' cs', Pl L W' B' cs' ∧ PlAt w1 w' sb tb rb lao lcap L W' B' W' X := by
 have HP := uh (hP.alloc (.cells #[.int .i64 3, .int .i64 g, .int .i64 id, .int .i64 n, .int .u64 wv, .slice aa ats.length acap] 118) rfl)
 have Hs := uh (fun w' la (V : PlAt w1 w' sb tb rb lao lcap L W B W (la ++ ((w.heap.size, .cells #[.int .i64 3, .int .i64 g, .int .i64 id, .int .i64 n, .int .u64 wv, .slice aa ats.length acap] 118) :: X))) a2 c2 hr => ssettle_all w' hb V h ats hlen a2 c2 hr)
 have Hr := uh (fun w' Ws Bs (V : PlAt w1 w' sb tb rb lao lcap L Ws Bs W ((w.heap.size, .cells #[.int .i64 3, .int .i64 g, .int .i64 id, .int .i64 n, .int .u64 wv, .slice aa ats.length acap] 118) :: X)) W' B' cs' er hr => rsettle_all (W' := W') (B' := B') (cs' := cs') w' hb h V ats hlen aa acap hA er hr)
 have HA := uh (fun w' (hB : Below w1.heap.size w1 w') => hA.below hB)
 have H1 := uh (ints_one ats)
 have h63 : 0 + ats.length ≤ maxLen := by unfold maxLen; omega
 have hby : (0 + ats.length) * 8 ≤ 140737488355328 := by omega
 clear hb hP h hA
 go_enter Tryz.func55, Tryz.ntmps55
 have hz := HP.out.x
 have q0 := hz 0 _ rfl
 go_upto_region 17 with fail
 refine wp_abs (fun W' => PlAt w1 W'.drew sb tb rb lao lcap L W B W ((w.heap.size, .cells #[.int .i64 3, .int .i64 g, .int .i64 id, .int .i64 n, .int .u64 wv, .slice aa ats.length acap] 118) :: X)) HP.out.drew fun W1 T1 => ?_
 have HT1 := uh T1
 have hS1 := T1.x
 clear T1 HP hz q0
 generalize w.heap.size = xb at *
 refine wp_region_noPanic ?_
 refine wp_region_listed (S := fun W' => W'.rangeAt xb 0 [.int .i64 3, .int .i64 g, .int .i64 id, .int .i64 n, .int .u64 wv, .slice aa ats.length acap]) 11 [false, false, false, false, false, false, false, false, false, false, false] rfl rfl (by kernel_rfl) ?_
 refine tkA 0 105 hS1 ?_
 refine tkA 1 106 hS1 ?_
 refine tkB 2 107 hS1 (fun w hSw => hSw 5 _ rfl) ?_
 refine tkA 5 110 hS1 ?_
 refine tkA 6 111 hS1 ?_
 refine tkB 7 112 hS1 (fun w hSw => hSw 5 _ rfl) ?_
 refine rdyA 3 (fun K hK => ?_)
 obtain ⟨ls, lr, hs1, hr1, hx1, T1⟩ := HT1.out
 refine step_append_src rfl _ _ rfl el_int rfl rfl (Row.nil _ _) (R := ls ++ (lr ++ ((xb, .cells #[.int .i64 3, .int .i64 g, .int .i64 id, .int .i64 n, .int .u64 wv, .slice aa ats.length acap] 118) :: X))) T1.has (HA.out _ HT1.out.below) H1.out h63 hby ?_
 intro a2 c2 la w2 hrow T2
 rw [List.nil_append] at hrow T2
 rw [Nat.zero_add] at hrow ⊢
 have hP2 : PlAt w1 w2 sb tb rb lao lcap L W B W (la ++ ((xb, .cells #[.int .i64 3, .int .i64 g, .int .i64 id, .int .i64 n, .int .u64 wv, .slice aa ats.length acap] 118) :: X)) := by
  refine ⟨ls, lr, hs1, hr1, fun x hx => ?_, (T1.trans T2).perm po⟩
  rcases List.mem_append.1 hx with hx | hx
  · exact hrow.cells x hx
  · exact hx1 x hx
 have hS2 := (hP2.sub (List.sublist_append_right ..)).x
 refine hK.out _ _ hS2 fun _ => ?_
 clear hK K T1 T2 hs1 hr1 hx1
 simp only [st0, st1, st2]
 refine rdyA 4 (fun K hK => ?_)
 go_simp
 refine (Hs.out _ _ hP2 a2 c2 hrow).mono ?_
 rintro e w3 ⟨er, W', B', cs', rfl, hres, hpl, hP3⟩
 have hP4 := hP3.sub (List.sublist_append_right ..)
 have hS3 := hP4.x
 refine hK.out _ _ hS3 fun _ => ?_
 clear hK K
 simp only [st0, st1, st2]
 refine rdyA 8 (fun K hK => ?_)
 go_simp
 refine (Hr.out _ _ _ hP4 W' B' cs' er hres).mono ?_
 rintro e w4 ⟨rfl, hP5⟩
 have hS4 := hP5.x
 refine hK.out _ _ hS4 fun _ => ?_
 clear hK K
 simp only [st0, st1, st2]
 refine tkA 9 114 hS4 ?_
 refine tkA 10 6 hS4 ?_
 refine wpAnyH_done (by kernel_rfl) ?_ _
 refine NoPanic.normal ?_
 have HR := uh (⟨hpl, hP5.sub (List.sublist_cons_self ..)⟩ : Pl L W' B' cs' ∧ PlAt w1 w4 sb tb rb lao lcap L W' B' W' X)
 clear hS1 hS2 hS3 hS4 hP2 hP3 hP4 hP5 hres hpl HT1 Hs Hr HA H1 hrow
 go_wp2_with fail
 go_ret
 exact ⟨rfl, W', B', cs', HR.out.1, HR.out.2⟩
theorem slots9_none {w0 : World} (w : World) {rb lcap : Nat} {lao : Option Addr} {W : List Nat} {L : List Ty} {l R : List Blk} (hI : RefIs rb lao L.length lcap W l) (T : Turn [] w0 (l ++ R) w) (hS : Src w0 lao L.length lcap 3 (tys L)) (hTy : ∀ t ∈ L, TyIn t) (hL : L.length ≤ 1000) (hf : W.length ≤ 65536)
  (hu : ∀ v ∈ W, v < 18446744073709551616) (cs : List Ce) (hC : Chain L W 0 cs (W.length / 2)) (g : Int) (hno : ∀ c ∈ cs, ¬ ((c.1 : Int) = g ∧ c.2.tag = 1)) :
  Calls Tryz.prog 137 #[.pointer (some ⟨rb, 0, none⟩), .int .i64 g] w fun e w' => e = .returned (.int .i64 0) ∧ Turn [] w0 (l ++ R) w' := by
 obtain ⟨ao0, cap0, hR⟩ := hI.at_ T.has (hS.below T.below)
 have Hall := uh (all9 w hR hf hu hTy hL cs hC)
 have hlen := hC.len
 obtain ⟨z, hz⟩ : ∃ z : Nat, W.length / 2 = z := ⟨_, rfl⟩
 have hzb : z ≤ 32768 := by omega
 rw [hz] at hlen
 have HT := uh T
 have hCm := uh (fun c (h : c ∈ cs) => hC.mem c h)
 clear T hS hTy hu hC hR hI
 go_enter Tryz.func137, Tryz.ntmps137
 go_wp2_with fail
 refine Hall.out.mono ?_
 rintro e w2 ⟨a11, p11, l11, rfl, hrow11, T4⟩
 have HT4 := uh (HT.out.grow T4)
 have Hr11 := uh hrow11
 clear T4 HT hrow11
 go_wp2_with fail
 have HF := uh (fun (h : 0 < cs.length) => ((Hr11.out.src HT4.out.has).form (by rw [ces_length]; omega)))
 go_loopw [6] (fun v6 wr => ∃ i : Nat, i ≤ cs.length ∧ v6 = .int .i64 i ∧ Turn [] w0 (l11 ++ (l ++ R)) wr) (fun v6 _ => cs.length - (intOf v6).toNat)
 case atStart => exact ⟨0, Nat.zero_le _, by go_num, HT4.out⟩
 case round =>
  clear HT4
  obtain ⟨i, hi, rfl, T⟩ := hrel
  by_cases hlt : i < cs.length
  · have hlt' : (i : Int) < (cs.length : Int) := by omega
    obtain ⟨c, hc⟩ : ∃ c, cs[i]? = some c := ⟨cs[i], List.getElem?_eq_getElem hlt⟩
    have hn := hno c (List.mem_of_getElem? hc)
    obtain ⟨b, off, rfl, -⟩ := HF.out (by omega)
    obtain ⟨d0, d1, -⟩ := (Hr11.out.src T.has).ce1 hc
    obtain ⟨cg, ⟨xa, xb, xc, xd⟩⟩ := c
    simp only at hn d0 d1
    have HT2 := uh T
    clear T hc
    by_cases hg : (cg : Int) = g
    · have k1 : ((cg : Int) == g) = true := by rw [beq_iff_eq]; exact hg
      have k2 : ((xa : Int) == 1) = false := by rw [beq_eq_false_iff_ne]; intro h; exact hn ⟨hg, by omega⟩
      have k3 : (xa == 1) = false := by rw [beq_eq_false_iff_ne]; intro h; exact hn ⟨hg, by omega⟩
      clear hg hn hno
      go_wp2_with fail
      go_roundw
      case rel => exact ⟨i + 1, by omega, by go_num, HT2.out⟩
      case measure => simp [intOf]; omega
    · have k1 : ((cg : Int) == g) = false := by rw [beq_eq_false_iff_ne]; exact hg
      clear hg hn hno
      go_wp2_with fail
      go_roundw
      case rel => exact ⟨i + 1, by omega, by go_num, HT2.out⟩
      case measure => simp [intOf]; omega
  · have hnl : ¬ (i : Int) < (cs.length : Int) := by omega
    have HT2 := uh T.drop
    clear T hno
    go_wp2_with fail
    go_ret
    exact ⟨rfl, HT2.out⟩
theorem slots_no {w1 : World} (w : World) {sb tb rb lcap : Nat} {lao : Option Addr} {L : List Ty} {W B Ws Bs : List Nat} {X : List Blk} {cs : List Ce} (hb : PlBase w1 tb L lao lcap) (h : Pl L W B cs) (hP : PlAt w1 w sb tb rb lao lcap L Ws Bs W X) (g : Int) (hno : ∀ c ∈ cs, ¬ ((c.1 : Int) = g ∧ c.2.tag = 1)) :
  Calls Tryz.prog 137 #[.pointer (some ⟨rb, 0, none⟩), .int .i64 g] w fun e w' => e = .returned (.int .i64 (0 : Nat)) ∧ PlAt w1 w' sb tb rb lao lcap L Ws Bs W X := by
 have hsm := h.good.small
 have hfew := h.good.few
 obtain ⟨ls, lr, hS, hR, hX, T⟩ := hP
 have T' : Turn [] w1 (lr ++ (ls ++ X)) w := T.perm po
 refine (slots9_none w hR T' hb.src hb.ty (by omega) (by omega) h.good.u64 cs h.good.chain g hno).mono ?_
 rintro e w' ⟨rfl, V⟩
 exact ⟨rfl, ls, lr, hS, hR, hX, V.perm po⟩
theorem slots_at {w1 : World} (w : World) {sb tb rb lcap : Nat} {lao : Option Addr} {L : List Ty} {W B Ws Bs : List Nat} {X : List Blk} {cs : List Ce} (hb : PlBase w1 tb L lao lcap) (h : Pl L W B cs) (hP : PlAt w1 w sb tb rb lao lcap L Ws Bs W X) (c : Ce) (hc : c ∈ cs) (ht : c.2.tag = 1) :
  Calls Tryz.prog 137 #[.pointer (some ⟨rb, 0, none⟩), .int .i64 c.1] w fun e w' => e = .returned (.int .i64 ((tyAt L c.2.typ).slots c.2.len : Nat)) ∧ PlAt w1 w' sb tb rb lao lcap L Ws Bs W X := by
 have hsm := h.good.small
 have hfew := h.good.few
 obtain ⟨ls, lr, hS, hR, hX, T⟩ := hP
 have T' : Turn [] w1 (lr ++ (ls ++ X)) w := T.perm po
 obtain ⟨p, q, rfl⟩ := List.append_of_mem hc
 refine (slots9 w hR T' hb.src hb.ty (by omega) (by omega) h.good.u64 p q c h.good.chain ht).mono ?_
 rintro e w' ⟨rfl, V⟩
 exact ⟨rfl, ls, lr, hS, hR, hX, V.perm po⟩
theorem does_out {w1 : World} (w : World) {sb tb rb lcap : Nat} {lao : Option Addr} {L : List Ty} {W B : List Nat} {X : List Blk} (hP : PlAt w1 w sb tb rb lao lcap L W B W X) (g id n : Int) (wv : Nat) (sl : Value) (_hsl : sl.oneCell' = true) (sv : Nat) (hno : n < 0 ∨ (sv : Int) ≤ n)
  (Hs : Hid (∀ w', PlAt w1 w' sb tb rb lao lcap L W B W ((w.heap.size, .cells #[.int .i64 2, .int .i64 g, .int .i64 id, .int .i64 n, .int .u64 wv, sl] 118) :: X) → Calls Tryz.prog 137 #[.pointer (some ⟨rb, 0, none⟩), .int .i64 g] w' fun e w2 => e = .returned (.int .i64 sv) ∧
    PlAt w1 w2 sb tb rb lao lcap L W B W ((w.heap.size, .cells #[.int .i64 2, .int .i64 g, .int .i64 id, .int .i64 n, .int .u64 wv, sl] 118) :: X))) :
  Calls Tryz.prog 55 #[.pointer (some ⟨sb, 0, none⟩), .pointer (some ⟨rb, 0, none⟩), .agg #[.int .i64 2, .int .i64 g, .int .i64 id, .int .i64 n, .int .u64 wv, sl]] w fun e w' => e = .returned (.bool true) ∧ PlAt w1 w' sb tb rb lao lcap L W B W X := by
 have HP := uh (hP.alloc (.cells #[.int .i64 2, .int .i64 g, .int .i64 id, .int .i64 n, .int .u64 wv, sl] 118) rfl)
 clear hP
 go_enter Tryz.func55, Tryz.ntmps55
 have hz := HP.out.x
 have q0 := hz 0 _ rfl
 have q1 := hz 1 _ rfl
 go_wp2_with fail
 refine (Hs.out _ HP.out).mono ?_
 rintro e w2 ⟨rfl, hP2⟩
 have HP2 := uh (hP2.sub (List.sublist_cons_self ..))
 have q3 := hP2.x 3 _ rfl
 clear hz q0 q1 HP Hs hP2
 by_cases hn : n < 0
 · go_wp2_with fail
   go_ret
   exact ⟨rfl, HP2.out⟩
 · have hn2 : (sv : Int) ≤ n := by omega
   go_wp2_with fail
   go_ret
   exact ⟨rfl, HP2.out⟩
theorem does_lay {w1 : World} (w : World) {sb tb rb lcap : Nat} {lao : Option Addr} {L : List Ty} {W B : List Nat} {X : List Blk} {cs : List Ce} (hb : PlBase w1 tb L lao lcap) (hP : PlAt w1 w sb tb rb lao lcap L W B W X) (h : Pl L W B cs) (c : Ce) (hc : c ∈ cs) (ht : c.2.tag = 1) (id : Int) (s : Nat) (hs : s < (tyAt L c.2.typ).slots c.2.len) (wv : Nat) (sl : Value) (_hsl : sl.oneCell' = true) :
  Calls Tryz.prog 55 #[.pointer (some ⟨sb, 0, none⟩), .pointer (some ⟨rb, 0, none⟩), .agg #[.int .i64 2, .int .i64 c.1, .int .i64 id, .int .i64 s, .int .u64 wv, sl]] w fun e w' => e = .returned (.bool true) ∧ PlAt w1 w' sb tb rb lao lcap L (W.set (2 * c.1 + 1 + s) wv) B (W.set (2 * c.1 + 1 + s) wv) X := by
 have hsm := h.good.small
 have hfew := h.good.few
 obtain ⟨tao, tcap, hTab⟩ := hb.tab
 have hst := (h.good.chain.mem c hc).2.2
 have hroom := (h.good.chain.mem c hc).2.1
 have hoq := objq_of hst ht
 have hte := stands_ty hst ht hb.ty
 have hss := (stands_slots hst ht).1
 have hql : 2 * c.1 + 1 + s < W.length := by omega
 have HP := uh (hP.alloc (.cells #[.int .i64 2, .int .i64 c.1, .int .i64 id, .int .i64 s, .int .u64 wv, sl] 118) rfl)
 have Hs := uh (fun w' (V : PlAt w1 w' sb tb rb lao lcap L W B W ((w.heap.size, .cells #[.int .i64 2, .int .i64 c.1, .int .i64 id, .int .i64 s, .int .u64 wv, sl] 118) :: X)) => slots_at w' hb h V c hc ht)
 have HO := uh (fun w' (hB : Below w1.heap.size w1 w') aa aaw (hA : ArAt w' aa aaw W) => sof w' (range_below hb.fields hB) hA h.good.u64 L hb.ty (by omega) tb tao tcap (hTab.below hB) (c.1 : Int))
 rw [hoq] at HO
 simp only at HO
 have HV := uh (fun w' aa aaw (n : Int) (Y : List Blk) (V : Turn [] w1 (arBlks aa aaw W n ++ Y) w') vb (hv : VwAt w' vb aa c.1 c.2 (tyAt L c.2.typ)) => vstore w' V (by omega) hv hte.2 hte.1 (by omega) s wv hs hql)
 have Hsl := uh hs
 have k1 : ¬ (s : Int) < 0 := by omega
 have k2 : ¬ (((tyAt L c.2.typ).slots c.2.len : Nat) : Int) ≤ (s : Int) := by omega
 have k3 : decide ((((tyAt L c.2.typ).slots c.2.len : Nat) : Int) ≤ (s : Int)) = false := decide_eq_false k2
 have hgb : c.1 ≤ 65536 := by omega
 have hsb : s ≤ 65536 := by omega
 have hgi : 2 * (c.1 : Int) + 1 + (s : Int) < (W.length : Int) := by omega
 have hgn : (2 * (c.1 : Int) + 1 + (s : Int)).toNat = 2 * c.1 + 1 + s := by omega
 have h63 : 0 + W.length ≤ maxLen := by unfold maxLen; omega
 have hby : (0 + W.length) * 8 ≤ 140737488355328 := by omega
 have hone := u64s_one W
 have hf : W.length ≤ 65536 := by omega
 clear hTab hst hroom hoq hte hss hb hP h hc
 go_enter Tryz.func55, Tryz.ntmps55
 have hz := HP.out.x
 have q0 := hz 0 _ rfl
 have q1 := hz 1 _ rfl
 go_wp2_with fail
 refine (Hs.out _ HP.out).mono ?_
 rintro e w2 ⟨rfl, hP2⟩
 have HP2 := uh hP2.drew
 have q3 := hP2.x 3 _ rfl
 generalize w.heap.size = xb at *
 clear hz q0 q1 HP Hs hP2
 go_upto_region 10 with fail
 refine wp_abs (fun W' => PlAt w1 W'.drew sb tb rb lao lcap L W B W ((xb, .cells #[.int .i64 2, .int .i64 c.1, .int .i64 id, .int .i64 s, .int .u64 wv, sl] 118) :: X)) HP2.out fun W1 T1 => ?_
 obtain ⟨ls, lr, ⟨a, aw, bb, cw, lb, hbit, rfl⟩, hR, hX, T⟩ := T1
 have HT := uh T
 have HBit := uh hbit
 have HX := uh hX
 have HR := uh hR
 clear T hbit hX hR HP2 q3
 have HS := uh (fun w' Y (V : Turn [] w1 ((arBlks a aw W cw ++ (spBlk sb a tb bb :: lb)) ++ (Y ++ ((xb, .cells #[.int .i64 2, .int .i64 c.1, .int .i64 id, .int .i64 s, .int .u64 wv, sl] 118) :: X))) w') =>
  (⟨V.has.cell (b := sb) (c := #[.pointer (some ⟨a, 0, none⟩), .pointer (some ⟨tb, 0, none⟩), .pointer (some ⟨bb, 0, none⟩)]) (e := 146) (f := (0, 0)) (by simp [spBlk]) 0,
    V.has.cell (b := sb) (c := #[.pointer (some ⟨a, 0, none⟩), .pointer (some ⟨tb, 0, none⟩), .pointer (some ⟨bb, 0, none⟩)]) (e := 146) (f := (0, 0)) (by simp [spBlk]) 1,
    V.has.range (b := xb) (c := #[.int .i64 2, .int .i64 c.1, .int .i64 id, .int .i64 s, .int .u64 wv, sl]) (e := 118) (f := (0, 0)) (by simp)⟩ : (fun W' => W'.cell? ⟨sb, 0, none⟩ = some (.pointer (some ⟨a, 0, none⟩)) ∧ W'.cell? ⟨sb, 1, none⟩ = some (.pointer (some ⟨tb, 0, none⟩)) ∧ W'.rangeAt xb 0 [.int .i64 2, .int .i64 c.1, .int .i64 id, .int .i64 s, .int .u64 wv, sl]) w'))
 have hS1 := HS.out _ _ HT.out
 have hA1 : ArAt W1.drew a aw W := by
  have h := HT.out.has
  rw [List.append_assoc] at h
  exact arBlks_at h hf
 have HO1 := uh (HO.out _ HT.out.below a aw hA1)
 clear hA1 HO
 refine wp_region_noPanic ?_
 refine wp_region_listed (S := fun W' => W'.cell? ⟨sb, 0, none⟩ = some (.pointer (some ⟨a, 0, none⟩)) ∧ W'.cell? ⟨sb, 1, none⟩ = some (.pointer (some ⟨tb, 0, none⟩)) ∧ W'.rangeAt xb 0 [.int .i64 2, .int .i64 c.1, .int .i64 id, .int .i64 s, .int .u64 wv, sl]) 12 [false, false, false, false, false, false, false, false, false, false, false, false] rfl rfl (by kernel_rfl) ?_
 refine tkA 0 59 hS1 ?_
 refine tkA 2 61 hS1 ?_
 refine tkA 4 63 hS1 ?_
 refine tkB 5 64 hS1 (fun w hSw => hSw.2.2 1 _ rfl) ?_
 refine rdyA 1 (fun K hK => ?_)
 go_simp
 refine (sarena _ (a := ⟨a, 0, none⟩) rfl hS1.1).mono ?_
 rintro e w3 ⟨rfl, hw⟩
 subst hw
 refine hK.out _ _ hS1 fun _ => ?_
 clear hK K
 simp only [st0, st1, st2]
 refine rdyA 3 (fun K hK => ?_)
 go_simp
 refine (stable _ (a := ⟨tb, 0, none⟩) rfl hS1.2.1).mono ?_
 rintro e w3 ⟨rfl, hw⟩
 subst hw
 refine hK.out _ _ hS1 fun _ => ?_
 clear hK K
 simp only [st0, st1, st2]
 refine rdyA 6 (fun K hK => ?_)
 go_simp
 refine HO1.out.mono ?_
 rintro e w4 ⟨vb, rfl, T2⟩
 have T4 := (HT.out.grow T2).perm (l2 := (arBlks a aw W cw ++ (spBlk sb a tb bb :: lb)) ++ (((vb, .cells (viewCells a c.1 c.2 (tyAt L c.2.typ)).toArray 238) :: lr) ++ ((xb, .cells #[.int .i64 2, .int .i64 c.1, .int .i64 id, .int .i64 s, .int .u64 wv, sl] 118) :: X))) po
 have hS2 := HS.out _ _ T4
 have HT4 := uh T4
 clear T2 T4 hS1 HO1 HT
 refine hK.out _ _ hS2 fun _ => ?_
 clear hK K
 simp only [st0, st1, st2]
 refine tkA 7 58 hS2 ?_
 refine tkA 8 66 hS2 ?_
 refine tkA 9 67 hS2 ?_
 refine tkA 10 8 hS2 ?_
 refine tkA 11 9 hS2 ?_
 refine wpAnyH_done (by kernel_rfl) ?_ _
 refine NoPanic.normal ?_
 have hv : VwAt w4 vb a c.1 c.2 (tyAt L c.2.typ) := HT4.out.has.range (b := vb) (c := (viewCells a c.1 c.2 (tyAt L c.2.typ)).toArray) (e := 238) (f := (0, 0)) (by simp)
 have q3 := hS2.2.2 3 _ rfl
 have q4 := hS2.2.2 4 _ rfl
 have HV1 := uh (HV.out w4 a aw cw ((spBlk sb a tb bb :: lb) ++ (((vb, .cells (viewCells a c.1 c.2 (tyAt L c.2.typ)).toArray 238) :: lr) ++ ((xb, .cells #[.int .i64 2, .int .i64 c.1, .int .i64 id, .int .i64 s, .int .u64 wv, sl] 118) :: X))) (by have h := HT4.out; rw [List.append_assoc] at h; exact h) vb hv)
 clear hv hS2 HV HS
 obtain ⟨ao, cap, lr, hrow, rfl⟩ := HR.out
 have Hrow := uh hrow
 clear hrow HR
 go_wp2_with (first
  | (go_at_call 50; refine HV1.out.mono ?_; rintro e w5 ⟨rfl, cw', T5⟩; have T6 := T5.perm (l2 := (rb, .cells #[.slice ao W.length cap, .slice lao L.length lcap] 109) :: lr ++ (arBlks a aw (W.set (2 * c.1 + 1 + s) wv) cw' ++ ((spBlk sb a tb bb :: lb) ++ ((xb, .cells #[.int .i64 2, .int .i64 c.1, .int .i64 id, .int .i64 s, .int .u64 wv, sl] 118) :: (vb, .cells (viewCells a c.1 c.2 (tyAt L c.2.typ)).toArray 238) :: X)))) po; have c0 := T6.cell1 0; have T7 := T6.perm (l2 := lr ++ ((rb, .cells #[.slice ao W.length cap, .slice lao L.length lcap] 109) :: (arBlks a aw (W.set (2 * c.1 + 1 + s) wv) cw' ++ ((spBlk sb a tb bb :: lb) ++ ((xb, .cells #[.int .i64 2, .int .i64 c.1, .int .i64 id, .int .i64 s, .int .u64 wv, sl] 118) :: (vb, .cells (viewCells a c.1 c.2 (tyAt L c.2.typ)).toArray 238) :: X))))) po; have hsrc := Hrow.out.src T7.has; have HT7 := uh T7; clear T5 T6 T7 HV1 HT4 q3 q4)
  | (at_builtin; refine wpList_append_src rfl _ _ rfl el_u64 rfl rfl (Row.nil _ _) (R := (rb, .cells #[.slice ao W.length cap, .slice lao L.length lcap] 109) :: (lr ++ (arBlks a aw (W.set (2 * c.1 + 1 + s) wv) cw' ++ ((spBlk sb a tb bb :: lb) ++ ((xb, .cells #[.int .i64 2, .int .i64 c.1, .int .i64 id, .int .i64 s, .int .u64 wv, sl] 118) :: (vb, .cells (viewCells a c.1 c.2 (tyAt L c.2.typ)).toArray 238) :: X))))) (HT7.out.has.perm po) hsrc hone h63 hby ?_; intro ao' cap' lr' w6 hr6 hT6; rw [Nat.zero_add, List.nil_append] at hr6; obtain ⟨gb, cur, rfl, rfl, -, -⟩ := hr6.some_of (by omega); have V1 := ((HT7.out.perm po).trans hT6).perm (l2 := (gb, .cells cur 47) :: (rb, .cells #[.slice ao W.length cap, .slice lao L.length lcap] 109) :: (lr ++ (arBlks a aw (W.set (2 * c.1 + 1 + s) wv) cw' ++ ((spBlk sb a tb bb :: lb) ++ ((xb, .cells #[.int .i64 2, .int .i64 c.1, .int .i64 id, .int .i64 s, .int .u64 wv, sl] 118) :: (vb, .cells (viewCells a c.1 c.2 (tyAt L c.2.typ)).toArray 238) :: X))))) po; have c1 : w6.cell? ⟨gb, 2 * c.1 + 1 + s, none⟩ = some (.int .u64 (W[2 * c.1 + 1 + s])) := (hr6.cell (R := (rb, .cells #[.slice ao W.length cap, .slice lao L.length lcap] 109) :: (lr ++ (arBlks a aw (W.set (2 * c.1 + 1 + s) wv) cw' ++ ((spBlk sb a tb bb :: lb) ++ ((xb, .cells #[.int .i64 2, .int .i64 c.1, .int .i64 id, .int .i64 s, .int .u64 wv, sl] 118) :: (vb, .cells (viewCells a c.1 c.2 (tyAt L c.2.typ)).toArray 238) :: X))))) V1.has (2 * c.1 + 1 + s) (by rw [Nat.mul_one]; exact hql)).trans (u64s_get (List.getElem?_eq_getElem hql)); have f1 := V1.free1 (2 * c.1 + 1 + s); have e9 := V1.has.range (b := xb) (c := #[.int .i64 2, .int .i64 c.1, .int .i64 id, .int .i64 s, .int .u64 wv, sl]) (e := 118) (f := (0, 0)) (by simp); have e1 := e9 1 _ rfl; have e3 := e9 3 _ rfl; have e4 := e9 4 _ rfl; have V3 := V1.setCell (2 * c.1 + 1 + s) (.int .u64 wv); have c3 : (w6.setCell ⟨gb, 2 * c.1 + 1 + s, none⟩ (.int .u64 wv)).cell? ⟨rb, 0, none⟩ = some (.slice ao W.length cap) := V3.cell2 0; have f3 := V3.free2 0; have V4 := V3.swap.setCell 0 (.slice (some ⟨gb, 0, none⟩) W.length cap'); have HT8 := uh V4; have hr8 := hr6.set (2 * c.1 + 1 + s) (.int .u64 wv); rw [u64s_setl] at hr8; have Hr8 := uh hr8; clear V1 V3 V4 hT6 hr6 hr8 hsrc e9 HT7 Hrow c0)
  | fail)
 go_ret
 refine ⟨rfl, arBlks a aw (W.set (2 * c.1 + 1 + s) wv) cw' ++ (spBlk sb a tb bb :: lb), (rb, .cells #[.slice (some ⟨gb, 0, none⟩) (W.set (2 * c.1 + 1 + s) wv).length cap', .slice lao L.length lcap] 109) :: [(gb, .cells (cur.setIfInBounds (2 * c.1 + 1 + s) (.int .u64 wv)) 47)], ⟨a, aw, bb, cw', lb, ?_, rfl⟩, ⟨some ⟨gb, 0, none⟩, cap', _, ?_, rfl⟩, fun x hx => HX.out x (List.mem_cons_of_mem _ hx), ?_⟩
 · rw [List.length_set]; exact HBit.out
 · have h := Hr8.out
   rw [List.length_set]
   exact h
 · rw [List.length_set]
   exact ((HT8.out.perm (l2 := lr ++ ((xb, .cells #[.int .i64 2, .int .i64 c.1, .int .i64 id, .int .i64 s, .int .u64 wv, sl] 118) :: (vb, .cells (viewCells a c.1 c.2 (tyAt L c.2.typ)).toArray 238) :: ((arBlks a aw (W.set (2 * c.1 + 1 + s) wv) cw' ++ (spBlk sb a tb bb :: lb)) ++ ((rb, .cells #[.slice (some ⟨gb, 0, none⟩) W.length cap', .slice lao L.length lcap] 109) :: [(gb, .cells (cur.setIfInBounds (2 * c.1 + 1 + s) (.int .u64 wv)) 47)] ++ X)))) po).drop).tail.tail
end
end Go.Proofs.YtbecgkejdacidaaGreatDoor
