/-
  The table of hands: List.
  Conditions: a table; or none.
-/
import Derived.Test.YtinpkimflcmkgaaHd9
namespace Go.Proofs.Ytinpkimflcmkgaa
open Go Go.RowKit Go.Shelf

attribute [local go_sem] Oper.semAt_some

theorem info_handle : (Try.prog.info? 32).map (fun i => (i.zero, i.size, i.bytes)) = some (some (.int .u64 0), 1, 8) := by kernel_rfl

theorem HCells.drew {w : World} {b g : Nat} {S : List HSlot} (h : HCells w b g S) : HCells w.drew b g S := ⟨h.c0, h.at_, h.free, h.ne⟩

set_option maxRecDepth 100000 in
theorem handle_cells (w : World) {b g : Nat} {S : List HSlot} (W : HCells w b g S) (hl : S.length ≤ 4096) (i : Nat) (s : HSlot) (hi : S[i]? = some s) (hsm : s.given < 4294967295) :
    Calls Try.prog 55 #[.pointer (some ⟨b, 0, none⟩), .int .i64 i] w fun e w' => e = .returned (.int .u64 (wh i s.given)) ∧ w = w' := by
  have hlt : i < S.length := (List.getElem?_eq_some_iff.1 hi).1
  have hlt' : (i : Int) < (S.length : Int) := by omega
  obtain ⟨c0, at_, -, -⟩ := W
  obtain ⟨a0, a1⟩ := at_ i s hi
  have hor := or_wh s.given i hsm (by omega)
  clear at_ hi
  go_enter Try.func55, Try.ntmps55
  go_wp2
  go_ret
  exact ⟨rfl, rfl⟩

def handsOf (S : List HSlot) (is : List Nat) : List Int := is.map fun i => wh i ((S[i]?.map HSlot.given).getD 0)

set_option maxRecDepth 100000 in
set_option maxHeartbeats 2000000 in
theorem hList_in (F : Fence) (n : Nat) (hF : F = Fence.wide) (hro : F.round = none) (hn : 3 ≤ n) (p : Option Addr) (S : List HSlot) (hlen : S.length ≤ 4096) (hsm : ∀ s ∈ S, s.given < 4294967295) (w : World) (hP : Pointed w.heap.size w p S) :
    CallsIn F n Try.prog 19 #[.pointer p] w fun e W' => ∃ v, e = .returned v ∧ W'.ownsRow w.heap.size 32 1 v (livingOf S S.length).length ((handsOf S (livingOf S S.length)).map (Value.int .u64)) ∧ (v = .slice none 0 0 ↔ livingOf S S.length = []) ∧ Below w.heap.size w W' := by
  have h1 : 1 ≤ n := by omega
  have hfn : ∀ k, F.fn k := by subst hF; exact fun _ => trivial
  have HF := Lib.hid hF
  clear hF
  have h5 := hfn 57
  have h7 := hfn 85
  obtain ⟨i0, hi, hz0, hz1, hz2⟩ := info_parts info_handle
  refine callsIn_of_wp_marks Try.func19 rfl (hfn _) ?_ hro
  simp only [Try.ntmps19, List.size_toArray, List.length_cons, List.length_nil, Nat.reduceAdd, Nat.reduceSub, Array.replicate_succ, Array.replicate_zero, List.push_toArray, List.append_toArray, List.nil_append, List.cons_append]
  gi_wp2_with (gi_at_call 57; refine (living_in F (n - 1) h5 hro _ _).mono ?_; rintro e w' ⟨rfl, rfl⟩)
  have bH := ((Boxed.new w 25 (.pointer p)).alloc (.cells #[.slice none 0 0] 29)).alloc (.cells #[.pointer p] 25)
  have bO := (Boxed.new (w.alloc (.cells #[.pointer p] 25)) 29 (.slice none 0 0)).alloc (.cells #[.pointer p] 25)
  have bN := Boxed.new ((w.alloc (.cells #[.pointer p] 25)).alloc (.cells #[.slice none 0 0] 29)) 25 (.pointer p)
  simp only [World.size_alloc] at bO bN
  have hB0 : Below w.heap.size w (((w.alloc (.cells #[.pointer p] 25)).alloc (.cells #[.slice none 0 0] 29)).alloc (.cells #[.pointer p] 25)) := (((Below.refl _ w).alloc (Nat.le_refl _) _).alloc (by simp) _).alloc (by simp; omega) _
  have hsz : (((w.alloc (.cells #[.pointer p] 25)).alloc (.cells #[.slice none 0 0] 29)).alloc (.cells #[.pointer p] 25)).heap.size = w.heap.size + 3 := by simp
  obtain ⟨W0, hW0⟩ : ∃ W0, ((w.alloc (.cells #[.pointer p] 25)).alloc (.cells #[.slice none 0 0] 29)).alloc (.cells #[.pointer p] 25) = W0 := ⟨_, rfl⟩
  rw [hW0] at bH bO bN hB0 hsz ⊢
  clear hW0
  refine wpIn_rangeFunc_ownG hro h1 (gf := 85) (lb := #[.pointer (some ⟨w.heap.size + 1 + 1, 0, none⟩)]) rfl h7 (enters_of Try.func85 (by kernel_rfl) rfl)
    (living_stops F (n - 1) h7 hro (by omega) (w.heap.size + 1 + 1) w.heap.size p S hlen W0 (by omega) (by omega) bN.cell (hP.below hB0)) belowK_t (belowK_b (by omega)) (Below.refl _ _) (fun _ => rfl)
    (fun pre W => (Boxed W w.heap.size 25 (.pointer p) ∧ ∃ v, Boxed W (w.heap.size + 1) 29 v ∧ W.ownsRow w.heap.size 32 1 v pre.length ((handsOf S (pre.map Fin.val)).map (Value.int .u64)) ∧ (v = .slice none 0 0 ↔ pre = [])) ∧ Below w.heap.size w W)
    (fun _ _ _ => False)
    (OwnFrom.and (OwnFrom.and (Own.from (boxed_own _ _ _) _) (Own.from (holdsRow_own w.heap.size (w.heap.size + 1) 29 32 1 (fun pre => pre.length) (fun pre => (handsOf S (pre.map Fin.val)).map (Value.int .u64)) (fun pre v => v = .slice none 0 0 ↔ pre = [])) _)) (ownFrom_below (Nat.le_refl _) (by omega)))
    (fun _ _ _ _ _ hs _ _ => hs)
    ⟨⟨bH, _, bO, World.ownsRow_nil _ _ _ _, by simp⟩, hB0⟩
    (fun x => { tmps := #[.pointer p, .pointer (some ⟨w.heap.size, 0, none⟩), .pointer (some ⟨w.heap.size + 1, 0, none⟩), .int .i64 (x.val : Int), .pointer p, .func (.func 85) #[] #[.pointer (some ⟨w.heap.size + 1 + 1, 0, none⟩)], .int .i64 (x.val : Int), undef, undef, undef, undef, undef, undef, undef], defers := [] }) ?assign ?body ?done ?stop
  case assign =>
    intro l x W K hK
    gi_wp2
    simpa using hK
  case body =>
    rintro l pre x W ⟨⟨bx, v, hv, hrow, hnil⟩, hB⟩ hlt
    rcases hP.below hB with ⟨rfl, rfl⟩ | ⟨b, g, rfl, hb, hg, hcs⟩
    · exact x.elim0
    have hc := hv.cell
    have hx := bx.cell
    have c0 := hcs.c0
    obtain ⟨x, hxl⟩ := x
    obtain ⟨s, hs⟩ : ∃ s, S[x]? = some s := ⟨S[x]'hxl, List.getElem?_eq_getElem _⟩
    have Hs := Lib.hid hs
    clear hs
    gi_wp2_with fail
    have hF := HF.out
    subst hF
    refine wpIn_region_round (S := fun w' => w'.cell? ⟨w.heap.size, 0, none⟩ = some (.pointer (some ⟨b, 0, none⟩))) 7 [false, false, false, false, false, false, false] rfl rfl (by kernel_rfl) (by rfl) (by rintro ⟨a, w, h⟩; exact h) ?_
    have hS0 : W.drew.cell? ⟨w.heap.size, 0, none⟩ = some (.pointer (some ⟨b, 0, none⟩)) := hx
    refine takeH 1 8 rfl rfl rfl (by kernel_rfl) (by kernel_rfl) (by kernel_rfl) (fun _ _ _ _ h => h) hS0 (by (intro w hSw; go_simp; try rfl)) ?_
    simp only [List.set_cons_zero, List.set_cons_succ]
    refine takeH 2 9 rfl rfl rfl (by kernel_rfl) (by kernel_rfl) (by kernel_rfl) (fun _ _ _ _ h => h) hS0 (by (intro w hSw; go_simp; try rfl)) ?_
    simp only [List.set_cons_zero, List.set_cons_succ]
    have hl1 : pre.length + 1 ≤ maxLen := by unfold maxLen; omega
    have hrowd : (W.drew.alloc (.cells #[.int .u64 (wh x s.given)] 32)).ownsRow w.heap.size 32 1 v pre.length ((handsOf S (pre.map Fin.val)).map (Value.int .u64)) := World.ownsRow.alloc (w := W.drew) hrow _
    have hS1 : (W.drew.alloc (.cells #[.int .u64 (wh x s.given)] 32)).cell? ⟨w.heap.size, 0, none⟩ = some (.pointer (some ⟨b, 0, none⟩)) := cell_alloc hS0
    have hcd : (W.alloc (.cells #[.int .u64 (wh x s.given)] 32)).drew.cell? ⟨w.heap.size + 1, 0, none⟩ = some v := cell_alloc (w := W.drew) hc
    have hcall := handle_cells W.drew hcs.drew hlen x s Hs.out (hsm s (List.mem_of_getElem? Hs.out))
    have Hcall := Lib.hid hcall
    clear hcall
    have hlast : ∀ v' w1, w1.ownsRow w.heap.size 32 1 v' (pre.length + 1) ((handsOf S (pre.map Fin.val)).map (Value.int .u64) ++ [.int .u64 (wh x s.given)]) → (W.drew.alloc (.cells #[.int .u64 (wh x s.given)] 32)).grownBy w1 v.ownBlock →
        ∃ g' cap', v' = .slice (some ⟨g', 0, none⟩) (pre.length + 1) cap' ∧ w1.cell? ⟨w.heap.size + 1, 0, none⟩ = some v ∧ w1.frozen? ⟨w.heap.size + 1, 0, none⟩ = false ∧
          (w1.cell? ⟨w.heap.size, 0, none⟩ = some (.pointer (some ⟨b, 0, none⟩))) ∧
          ((w1.setCell ⟨w.heap.size + 1, 0, none⟩ v').cell? ⟨w.heap.size, 0, none⟩ = some (.pointer (some ⟨b, 0, none⟩))) ∧
          KeepsFrom W0.heap.size W (w1.setCell ⟨w.heap.size + 1, 0, none⟩ v') ∧ Below w.heap.size W (w1.setCell ⟨w.heap.size + 1, 0, none⟩ v') ∧
          ((Boxed (w1.setCell ⟨w.heap.size + 1, 0, none⟩ v') w.heap.size 25 (.pointer (some ⟨b, 0, none⟩)) ∧ ∃ u, Boxed (w1.setCell ⟨w.heap.size + 1, 0, none⟩ v') (w.heap.size + 1) 29 u ∧ (w1.setCell ⟨w.heap.size + 1, 0, none⟩ v').ownsRow w.heap.size 32 1 u (pre ++ [(⟨x, hxl⟩ : Fin S.length)]).length ((handsOf S ((pre ++ [(⟨x, hxl⟩ : Fin S.length)]).map Fin.val)).map (Value.int .u64)) ∧ (u = .slice none 0 0 ↔ pre ++ [(⟨x, hxl⟩ : Fin S.length)] = [])) ∧ Below w.heap.size w (w1.setCell ⟨w.heap.size + 1, 0, none⟩ v')) := by
      intro v' w1 hown' hgrow
      obtain ⟨g', cap', rfl⟩ := ownsRow_succ hown'
      have hvd : Boxed W.drew (w.heap.size + 1) 29 v := hv
      have hbd : Boxed W.drew w.heap.size 25 (.pointer (some ⟨b, 0, none⟩)) := bx
      have hrd : W.drew.ownsRow w.heap.size 32 1 v pre.length ((handsOf S (pre.map Fin.val)).map (Value.int .u64)) := hrow
      have hBd : Below w.heap.size W W.drew := (Below.refl _ W).drew
      obtain ⟨hv1, hv2, hr2, hk2, hb2⟩ := hvd.appended (by decide) hrd hB.size (Nat.le_succ _) hown' hgrow
      have hb1 : Boxed w1 w.heap.size 25 (.pointer (some ⟨b, 0, none⟩)) := (hbd.alloc _).kept hgrow (hbd.not_row (by decide) hrd)
      have hB1 : Below w.heap.size W.drew w1 := by
        refine ((Below.refl _ W.drew).alloc hB.size _).grown hgrow (by simp; have := hB.size; omega) fun j ej => ?_
        rcases hrd.2 with ⟨rfl, _⟩ | ⟨q, cap, cur, rfl, hb, _, _⟩
        · simp [Value.ownBlock] at ej
        · obtain rfl : q = j := by simpa [Value.ownBlock] using ej
          exact hb
      have hb3 := hb1.other (B' := w.heap.size + 1) (by omega) (.slice (some ⟨g', 0, none⟩) (pre.length + 1) cap')
      have hx1 : handsOf S ((pre ++ [(⟨x, hxl⟩ : Fin S.length)]).map Fin.val) = handsOf S (pre.map Fin.val) ++ [wh x s.given] := by simp [handsOf, Hs.out]
      refine ⟨g', cap', rfl, hv1.cell, hv1.frozen, hb1.cell, hb3.cell, ((KeepsOthers.drew W).trans hk2).from _, hBd.trans hb2, ⟨hb3, _, hv2, ?_, ?_⟩, hB.trans (hBd.trans hb2)⟩
      · rw [hx1, List.length_append, List.map_append]
        exact hr2
      · simp
    refine wpAnyH_ready (rs := [0, 3]) (by kernel_rfl) (by simp) (AllReadyH.cons rfl (fun K hK => ?_) (AllReadyH.cons rfl (fun K hK => ?_) AllReadyH.nil))
    · go_simp
      refine hK.out _ _ hS0 fun _ => ?_
      simp only [List.setIfInBounds_toArray, List.set_cons_zero, List.set_cons_succ]
      refine wpAnyH_ready (rs := [3]) (by kernel_rfl) (by simp) (AllReadyH.cons rfl (fun K hK => ?_) AllReadyH.nil)
      go_simp
      refine (Hcall.out).mono ?_
      rintro e w' ⟨rfl, rfl⟩
      refine hK.out _ _ hS0 fun _ => ?_
      simp only [List.setIfInBounds_toArray, List.set_cons_zero, List.set_cons_succ]
      refine wpAnyH_ready (rs := [4]) (by kernel_rfl) (by simp) (AllReadyH.cons rfl (fun K hK => ?_) AllReadyH.nil)
      go_simp
      refine hK.out _ _ hS1 fun _ => ?_
      simp only [List.setIfInBounds_toArray, List.set_cons_zero, List.set_cons_succ]
      refine wpAnyH_ready (rs := [5]) (by kernel_rfl) (by simp) (AllReadyH.cons rfl (fun K hK => ?_) AllReadyH.nil)
      refine step_append_own _ 12 rfl rfl _ _ 29 rfl w.heap.size 32 i0 (.int .u64 0) 1 8 Try.underlying29 hi hz0 hz1 hz2 rfl (by decide) _ _ _ rfl hrowd ⟨W.heap.size, 0, none⟩ 1 1 [.int .u64 (wh x s.given)] rfl rfl (cell_one_new _ _ _) (by simp [Value.oneCell']) hl1 (by omega) (by have := hB.size; simp; omega) ?_
      intro v' w1 hown' hgrow _
      obtain ⟨g', cap', rfl, hc1, hf1, hS2, hS3, hend⟩ := hlast v' w1 hown' hgrow
      refine hK.out _ _ hS2 fun _ => ?_
      simp only [List.setIfInBounds_toArray, List.set_cons_zero, List.set_cons_succ]
      refine wpAnyH_ready (rs := [6]) (by kernel_rfl) (by simp) (AllReadyH.cons rfl (fun K hK => ?_) AllReadyH.nil)
      go_simp
      refine hK.out _ _ hS3 fun _ => ?_
      exact wpAnyH_done (by kernel_rfl) hend _
    · go_simp
      refine (Hcall.out).mono ?_
      rintro e w' ⟨rfl, rfl⟩
      refine hK.out _ _ hS0 fun _ => ?_
      simp only [List.setIfInBounds_toArray, List.set_cons_zero, List.set_cons_succ]
      refine wpAnyH_ready (rs := [0, 4]) (by kernel_rfl) (by simp) (AllReadyH.cons rfl (fun K hK => ?_) (AllReadyH.cons rfl (fun K hK => ?_) AllReadyH.nil))
      · go_simp
        refine hK.out _ _ hS0 fun _ => ?_
        simp only [List.setIfInBounds_toArray, List.set_cons_zero, List.set_cons_succ]
        refine wpAnyH_ready (rs := [4]) (by kernel_rfl) (by simp) (AllReadyH.cons rfl (fun K hK => ?_) AllReadyH.nil)
        go_simp
        refine hK.out _ _ hS1 fun _ => ?_
        simp only [List.setIfInBounds_toArray, List.set_cons_zero, List.set_cons_succ]
        refine wpAnyH_ready (rs := [5]) (by kernel_rfl) (by simp) (AllReadyH.cons rfl (fun K hK => ?_) AllReadyH.nil)
        refine step_append_own _ 12 rfl rfl _ _ 29 rfl w.heap.size 32 i0 (.int .u64 0) 1 8 Try.underlying29 hi hz0 hz1 hz2 rfl (by decide) _ _ _ rfl hrowd ⟨W.heap.size, 0, none⟩ 1 1 [.int .u64 (wh x s.given)] rfl rfl (cell_one_new _ _ _) (by simp [Value.oneCell']) hl1 (by omega) (by have := hB.size; simp; omega) ?_
        intro v' w1 hown' hgrow _
        obtain ⟨g', cap', rfl, hc1, hf1, hS2, hS3, hend⟩ := hlast v' w1 hown' hgrow
        refine hK.out _ _ hS2 fun _ => ?_
        simp only [List.setIfInBounds_toArray, List.set_cons_zero, List.set_cons_succ]
        refine wpAnyH_ready (rs := [6]) (by kernel_rfl) (by simp) (AllReadyH.cons rfl (fun K hK => ?_) AllReadyH.nil)
        go_simp
        refine hK.out _ _ hS3 fun _ => ?_
        exact wpAnyH_done (by kernel_rfl) hend _
      · go_simp
        refine hK.out _ _ hS1 fun _ => ?_
        simp only [List.setIfInBounds_toArray, List.set_cons_zero, List.set_cons_succ]
        refine wpAnyH_ready (rs := [0]) (by kernel_rfl) (by simp) (AllReadyH.cons rfl (fun K hK => ?_) AllReadyH.nil)
        go_simp
        refine hK.out _ _ hS1 fun _ => ?_
        simp only [List.setIfInBounds_toArray, List.set_cons_zero, List.set_cons_succ]
        refine wpAnyH_ready (rs := [5]) (by kernel_rfl) (by simp) (AllReadyH.cons rfl (fun K hK => ?_) AllReadyH.nil)
        refine step_append_own _ 12 rfl rfl _ _ 29 rfl w.heap.size 32 i0 (.int .u64 0) 1 8 Try.underlying29 hi hz0 hz1 hz2 rfl (by decide) _ _ _ rfl hrowd ⟨W.heap.size, 0, none⟩ 1 1 [.int .u64 (wh x s.given)] rfl rfl (cell_one_new _ _ _) (by simp [Value.oneCell']) hl1 (by omega) (by have := hB.size; simp; omega) ?_
        intro v' w1 hown' hgrow _
        obtain ⟨g', cap', rfl, hc1, hf1, hS2, hS3, hend⟩ := hlast v' w1 hown' hgrow
        refine hK.out _ _ hS2 fun _ => ?_
        simp only [List.setIfInBounds_toArray, List.set_cons_zero, List.set_cons_succ]
        refine wpAnyH_ready (rs := [6]) (by kernel_rfl) (by simp) (AllReadyH.cons rfl (fun K hK => ?_) AllReadyH.nil)
        go_simp
        refine hK.out _ _ hS3 fun _ => ?_
        exact wpAnyH_done (by kernel_rfl) hend _
  case done =>
    rintro D ys W hD hys ⟨⟨bx, v, hv, hrow, hnil⟩, hB⟩ hK
    have hyl : ys.length = (livingOf S S.length).length := by rw [← hys, List.length_map]
    have hyn : ys = [] ↔ livingOf S S.length = [] := by rw [← hys, List.map_eq_nil_iff]
    rw [hyl, hys] at hrow
    rw [hyn] at hnil
    obtain ⟨av, nv, cv, rfl⟩ : ∃ av nv cv, v = .slice av nv cv := by
      rcases hrow.2 with ⟨h, -⟩ | ⟨g, cap, cur, h, -⟩
      · exact ⟨_, _, _, h⟩
      · exact ⟨_, _, _, h⟩
    have hc := hv.cell
    have hf := hv.frozen
    gi_wp2
    have hK2 := (KeepsOthers.setCell W ⟨w.heap.size + 1, 0, none⟩ (.slice av nv cv)).same D _ hK rfl
    have hc2 := (hv.set (.slice av nv cv)).cell
    refine ⟨by simp, .inl ⟨_, _, rfl, run_takeDeferred hK2, ?_⟩⟩
    have hc3 := cell_kept hc2 (grownBy_putObj' _ D (.deferred none)) (fun r e => by cases e; exact ⟨_, hK2, rfl⟩)
    refine ⟨.slice av nv cv, ?_, _, rfl, ?_, hnil, ?_⟩
    · simp [results, Try.results19, go_sem, hc3]
    · exact ownsRow_putObj (hrow.kept (grownBy_setCell' W (w.heap.size + 1) (.slice av nv cv)) (.inr (hv.not_row (by decide) hrow).symm)) _ hK2 rfl
    · exact (hB.setCell (p := ⟨w.heap.size + 1, 0, none⟩) (Nat.le_succ _) _).trans (belowK_b (w := w) (Nat.le_refl _) _ D _ _ (by omega) hK2 rfl rfl)
  case stop =>
    rintro D c pre W _ _ h _
    exact h.elim

/-- List: a slice that lies in a block of its own. -/
theorem hList_any (p : Option Addr) (S : List HSlot) (hlen : S.length ≤ 4096) (hsm : ∀ s ∈ S, s.given < 4294967295) (w : World) (hP : Pointed w.heap.size w p S) :
    Calls Try.prog 19 #[.pointer p] w fun e W' => ∃ v, e = .returned v ∧ W'.ownsRow w.heap.size 32 1 v (livingOf S S.length).length ((handsOf S (livingOf S S.length)).map (Value.int .u64)) ∧ (v = .slice none 0 0 ↔ livingOf S S.length = []) ∧ Below w.heap.size w W' :=
  (callsIn_wide (n := 3)).1 (hList_in Fence.wide 3 rfl rfl (Nat.le_refl _) p S hlen hsm w hP)
end Go.Proofs.Ytinpkimflcmkgaa
