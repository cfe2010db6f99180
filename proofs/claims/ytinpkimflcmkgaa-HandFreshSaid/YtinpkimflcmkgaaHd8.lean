/-
  The table of hands: living hands back a value that stops; Len.
  Conditions: a table; or none.
-/
import Derived.Test.YtinpkimflcmkgaaHd7
namespace Go.Proofs.Ytinpkimflcmkgaa
open Go Go.RowKit Go.Shelf

attribute [local go_sem] Oper.semAt_some

/-- What the pointer points to: a table below n₀; or none, without a slot. -/
def Pointed (n₀ : Nat) (W : World) (p : Option Addr) (S : List HSlot) : Prop := (p = none ∧ S = []) ∨ ∃ b g, p = some ⟨b, 0, none⟩ ∧ b < n₀ ∧ g < n₀ ∧ HCells W b g S
theorem Pointed.below {n₀ : Nat} {A B : World} {p : Option Addr} {S : List HSlot} (hk : Below n₀ A B) : Pointed n₀ A p S → Pointed n₀ B p S
  | .inl h => .inl h
  | .inr ⟨b, g, h1, h2, h3, h4⟩ => .inr ⟨b, g, h1, h2, h3, h4.below h2 h3 hk⟩

theorem living_stops (F : Fence) (n : Nat) (hf : F.fn 85) (hro : F.round = none) (hn : 1 ≤ n) (Bs n₀ : Nat) (p : Option Addr) (S : List HSlot) (hlen : S.length ≤ 4096) (w : World) (hBs : Bs < w.heap.size) (hn₀ : n₀ ≤ w.heap.size)
    (hc : w.cell? ⟨Bs, 0, none⟩ = some (.pointer p)) (hP : Pointed n₀ w p S) :
    SeqStopsK F n Try.prog 85 #[.pointer (some ⟨Bs, 0, none⟩)] (fun x : Fin S.length => #[Value.int .i64 (x.val : Int)]) (Below n₀) (fun ys => ys.map Fin.val = livingOf S S.length) (fun _ => True) S.length w := fun l J Jx W hW hJ hJx hY h0 => by
  have hc' := (hW.cell (p := ⟨Bs, 0, none⟩) hBs).trans hc
  rcases hP.below (hW.mono hn₀) with ⟨rfl, rfl⟩ | ⟨b, g, rfl, hb, hg, hcs⟩
  · exact (living1_nil F n hf hro l Bs (fun _ W => J [] W) W hc' h0).mono fun e W' ⟨he, hj⟩ => ⟨he, .inl ⟨[], rfl, hj⟩⟩
  · refine (living1_in F n hf hro hn l Bs n₀ b g S hlen hb hg (fun q W => ∃ y : List (Fin S.length), y.map Fin.val = q ∧ J y W) (fun _ W => ∃ y, Jx y W) W (Nat.le_trans hn₀ hW.size) (fun q A B row ⟨y, hy, h⟩ h1 h2 => ⟨y, hy, hJ y A B row h h1 h2⟩) ?_ hc' hcs ⟨[], rfl, h0⟩).mono ?_
    · rintro pre x W1 hx ⟨y, rfl, hj⟩ hl
      exact (hY y ⟨x, hx⟩ W1 hj (by simpa using hl)).mono fun e W' h => h.imp (fun ⟨h1, h2, h3⟩ => ⟨h1, ⟨y ++ [⟨x, hx⟩], by simp, h2⟩, h3⟩) (fun ⟨h1, h2⟩ => ⟨h1, _, h2⟩)
    · rintro e W' ⟨he, ⟨ys, rfl, y, hy, hj⟩ | ⟨pre, -, y, hj⟩⟩
      · exact ⟨he, .inl ⟨y, hy, hj⟩⟩
      · exact ⟨he, .inr ⟨y, trivial, hj⟩⟩

set_option maxRecDepth 100000 in
set_option maxHeartbeats 2000000 in
theorem hLen_in (F : Fence) (n : Nat) (h3 : F.fn 18) (h5 : F.fn 57) (h7 : F.fn 85) (hro : F.round = none) (hn : 3 ≤ n) (p : Option Addr) (S : List HSlot) (hlen : S.length ≤ 4096) (w : World) (hP : Pointed w.heap.size w p S) :
    CallsIn F n Try.prog 18 #[.pointer p] w fun e W' => e = .returned (.int .i64 ((livingOf S S.length).length : Nat)) ∧ Below w.heap.size w W' := by
  have h1 : 1 ≤ n := by omega
  refine callsIn_of_wp_marks Try.func18 rfl h3 ?_ hro
  simp only [Try.ntmps18, List.size_toArray, List.length_cons, List.length_nil, Nat.reduceAdd, Nat.reduceSub, Array.replicate_succ, Array.replicate_zero, List.push_toArray, List.append_toArray, List.nil_append, List.cons_append]
  gi_wp2_with (gi_at_call 57; refine (living_in F (n - 1) h5 hro _ _).mono ?_; rintro e w' ⟨rfl, rfl⟩)
  have bS := Boxed.new w 3 (.int .i64 0)
  have bN := Boxed.new (w.alloc (.cells #[.int .i64 0] 3)) 25 (.pointer p)
  rw [World.size_alloc] at bN
  have hB0 : Below w.heap.size w ((w.alloc (.cells #[.int .i64 0] 3)).alloc (.cells #[.pointer p] 25)) := ((Below.refl _ w).alloc (Nat.le_refl _) _).alloc (by simp) _
  refine wpIn_rangeFunc_ownG hro h1 (gf := 85) (lb := #[.pointer (some ⟨w.heap.size + 1, 0, none⟩)]) rfl h7 (enters_of Try.func85 (by kernel_rfl) rfl)
    (living_stops F (n - 1) h7 hro (by omega) (w.heap.size + 1) w.heap.size p S hlen _ (by simp) (by simp; omega) bN.cell (hP.below hB0)) belowK_t (belowK_b (by simp; omega)) (Below.refl _ _) (fun _ => rfl)
    (fun pre W => (W.cell? ⟨w.heap.size, 0, none⟩ = some (.int .i64 (pre.length : Nat)) ∧ W.frozen? ⟨w.heap.size, 0, none⟩ = false) ∧ Below w.heap.size w W)
    (fun _ _ _ => False)
    (OwnFrom.and (Own.from (fun s A B row hs hg hr => ⟨cell_kept hs.1 hg hr, (frozen_kept hs.1 hg hr).trans hs.2⟩) _) (ownFrom_below (Nat.le_refl _) (by simp; omega)))
    (fun _ _ _ _ _ hs _ _ => hs)
    ⟨⟨(bS.alloc _).cell, (bS.alloc _).frozen⟩, hB0⟩
    (fun x => { tmps := #[.pointer p, undef, .pointer (some ⟨w.heap.size, 0, none⟩), .pointer p, .func (.func 85) #[] #[.pointer (some ⟨w.heap.size + 1, 0, none⟩)], .int .i64 (x.val : Int), undef, undef, undef], defers := [] }) ?assign ?body ?done ?stop
  case assign =>
    intro l x W K hK
    gi_wp2
    simpa using hK
  case body =>
    rintro l pre x W ⟨⟨hc, hf⟩, hB⟩ hlt
    have hlp : pre.length ≤ 4096 := by omega
    gi_wp2
    exact ⟨(KeepsOthers.setCell _ _ _).from _, (Below.refl w.heap.size W).setCell (p := ⟨w.heap.size, 0, none⟩) (Nat.le_refl _) _, ⟨by rw [List.length_append, List.length_singleton]; exact World.cell?_setCell_same' _ _ _ (by rw [hc]; rfl), by rw [World.frozen?_setCell]; exact hf⟩, hB.setCell (p := ⟨w.heap.size, 0, none⟩) (Nat.le_refl _) _⟩
  case done =>
    rintro D ys W hD hys ⟨⟨hc, hf⟩, hB⟩ hK
    have hyl : ys.length = (livingOf S S.length).length := by rw [← hys, List.length_map]
    rw [hyl] at hc
    gi_wp2
    have hne : D ≠ w.heap.size := by simp at hD; omega
    have hK2 := (KeepsOthers.setCell W ⟨w.heap.size, 0, none⟩ (.int .i64 ((livingOf S S.length).length : Nat))).same D _ hK rfl
    have hc2 : (W.setCell ⟨w.heap.size, 0, none⟩ (.int .i64 ((livingOf S S.length).length : Nat))).cell? ⟨w.heap.size, 0, none⟩ = some (.int .i64 ((livingOf S S.length).length : Nat)) := World.cell?_setCell_same' _ _ _ (by rw [hc]; rfl)
    refine ⟨by simp, .inl ⟨_, _, rfl, run_takeDeferred hK2, ?_⟩⟩
    have hc3 := cell_kept hc2 (grownBy_putObj' _ D (.deferred none)) (fun r e => by cases e; exact ⟨_, hK2, rfl⟩)
    refine ⟨.int .i64 ((livingOf S S.length).length : Nat), ?_, rfl, ?_⟩
    · simp [results, Try.results18, go_sem, hc3]
    · exact (hB.setCell (p := ⟨w.heap.size, 0, none⟩) (Nat.le_refl _) _).trans (belowK_b (w := w) (Nat.le_refl _) _ D _ _ (by simp at hD; omega) hK2 rfl rfl)
  case stop =>
    rintro D c pre W _ _ h _
    exact h.elim
end Go.Proofs.Ytinpkimflcmkgaa
