/-
  The log: Lines.
  Conditions: a log, or none; the library's variables hold what the program's text lays.
-/
import Derived.Test.YtpnpnajheaijaaaDoorLg18
namespace Go.Proofs.YtpnpnajheaijaaaDoor
open Go Go.RowKit Go.Shelf Go.IntWalk

attribute [local go_sem] Oper.semAt_some

theorem Turn.keepsOthers {L L' : List Blk} {W W' : World} (h : Turn L W L' W') (hH : Has W L) (hc : ∀ x ∈ L, x.2.isCells = true) : KeepsOthers W W' :=
  ⟨h.size, fun k o hk ho => (h.same k (lt_of_block hk) (fun hm => by
    obtain ⟨o', ho'⟩ := mem_keys.1 hm
    have h1 := hH.own k o' ho'
    rw [hk] at h1
    cases h1
    have := hc _ ho'
    rw [ho] at this
    cases this)).trans hk⟩

theorem Turn.below_of {w W W' : World} {L L' : List Blk} (T : Turn [] w L W) (h : Turn L W L' W') : Below w.heap.size W W' :=
  ⟨h.os, h.tape, h.output, h.size, fun k hk => h.same k (Nat.lt_of_lt_of_le hk T.size) (fun hm => by
    rcases T.new k hm with h1 | h1
    · cases h1
    · omega)⟩

theorem Row.cells {e : TypeId} {size : Nat} {ao : Option Addr} {n cap : Nat} {xs : List Value} {l : List Blk} (h : Row e size ao n cap xs l) : ∀ x ∈ l, x.2.isCells = true := by
  rcases h.2.2.2 with ⟨_, _, h1⟩ | ⟨g, cur, _, h1, _⟩
  · rw [h1]; intro x hx; cases hx
  · rw [h1]; intro x hx; rw [List.mem_singleton.1 hx]; rfl

/-- log.Line, all that lay lies as it lay. -/
theorem line_below (W : World) (hE : Env W) (r : List Int) (hr : RepOk r) : Calls Tryd.prog 10 #[repVal r] W fun e w' => e = .returned (.string ⟨(line r).toArray⟩) ∧ Below W.heap.size W w' :=
  (line_any hE (Turn.refl (Has.nil W)) r hr).mono fun _ _ ⟨h1, h2⟩ => ⟨h1, h2.below⟩

theorem load_mid_run {P : Program} {o : Oper} {a : Act} {w : World} (ty : TypeId) (x : Operand) (ho : o.op = .load ty x) (b off : Nat) (hx : a.eval x = .pointer (some ⟨b, off, none⟩)) (cs : List Value) (d : TypeDesc) (hc : w.rangeAt b off cs)
    (hu : P.underlying ty = some d) (hd : d.isRow = true) (hi : (P.info? ty).map (·.size) = some cs.length) : (execOp a.eval o).run P w = .ok (.value (.agg cs.toArray)) w := by
  unfold execOp
  simp only [ho, hx, Instr.loadAt, Instr.sureAddr, Sem.run_bind, Sem.run_pure, Result.andThen_ok, run_loadVar_mid w b off ty cs d hc hu hd hi]

def linesOf (ks : List (List Int)) : List Value := strs (ks.map line)
theorem linesOf_snoc (ks : List (List Int)) (r : List Int) : linesOf (ks ++ [r]) = linesOf ks ++ [.string ⟨(line r).toArray⟩] := by simp [linesOf, strs]

/-- The two blocks of Lines: what is handed back; the iterator's box. -/
def lnBlks (s : Nat) (p : Option Addr) (ao : Option Addr) (n cap : Nat) : List Blk := [(s, .cells #[.slice ao n cap] 49), (s + 1, .cells #[.pointer p] 33)]
theorem lnBlks_cells (s : Nat) (p ao : Option Addr) (n cap : Nat) : ∀ x ∈ lnBlks s p ao n cap, x.2.isCells = true := by
  intro x hx
  simp only [lnBlks, List.mem_cons, List.not_mem_nil, or_false] at hx
  rcases hx with rfl | rfl <;> rfl
theorem ln_box {w W : World} {s : Nat} {p ao : Option Addr} {n cap : Nat} {L : List Blk} (h : Turn [] w L W) (hm : ∀ x ∈ lnBlks s p ao n cap, x ∈ L) : W.cell? ⟨s + 1, 0, none⟩ = some (.pointer p) :=
  h.has.cell (b := s + 1) (c := #[.pointer p]) (e := 33) (f := (0, 0)) (hm _ (by simp [lnBlks])) 0
theorem ln_out {w W : World} {s : Nat} {p ao : Option Addr} {n cap : Nat} {L : List Blk} (h : Turn [] w L W) (hm : ∀ x ∈ lnBlks s p ao n cap, x ∈ L) : W.cell? ⟨s, 0, none⟩ = some (.slice ao n cap) :=
  h.has.cell (b := s) (c := #[.slice ao n cap]) (e := 49) (f := (0, 0)) (hm _ (by simp [lnBlks])) 0

/-- Between two rounds; behind the assignment. -/
def lnGoes {ks : List (List Int)} (w : World) (p : Option Addr) (pre : List (Kel ks)) (W : World) : Prop :=
  ∃ ao cap lr, Row 9 1 ao pre.length cap (linesOf (pre.map fun x => x.val.2)) lr ∧ Turn [] w (lr ++ lnBlks w.heap.size p ao pre.length cap) W

def lnAct (s nb : Nat) (p : Option Addr) (x : Nat × List Int) : Act :=
  { tmps := #[.pointer p, undef, .pointer (some ⟨s, 0, none⟩), undef, .pointer (some ⟨nb, 0, none⟩), .pointer p, .func (.func 39) #[] #[.pointer (some ⟨s + 1, 0, none⟩)], .int .i64 (x.1 : Nat), .agg (i64s x.2).toArray, undef, undef, undef, undef, undef, undef], defers := [] }
def lnMid {ks : List (List Int)} (w : World) (p : Option Addr) (x : Kel ks) (a' : Act) (pre : List (Kel ks)) (W : World) : Prop :=
  ∃ ao cap lr nb, Row 9 1 ao pre.length cap (linesOf (pre.map fun x => x.val.2)) lr ∧ a' = lnAct w.heap.size nb p x.val ∧ Turn [] w ((nb, .cells (i64s x.val.2).toArray 25) :: (lr ++ lnBlks w.heap.size p ao pre.length cap)) W

set_option maxRecDepth 100000 in
set_option maxHeartbeats 2000000 in
theorem lLines_in (n : Nat) (hn : 3 ≤ n) (p : Option Addr) (nn : Nat) (ks : List (List Int)) (w : World) (hE : Env w) (hP : KeptAt w.heap.size w p nn ks) :
    CallsIn Fence.wide n Tryd.prog 20 #[.pointer p] w fun e W' => ∃ ao cap lr, e = .returned (.slice ao nn cap) ∧ Row 9 1 ao nn cap (linesOf ks) lr ∧ Turn [] w lr W' := by
  have h1 : 1 ≤ n := by omega
  have h2 : 1 ≤ n - 1 - 1 := by omega
  have h3 : Fence.wide.fn 20 := trivial
  have h5 : Fence.wide.fn 29 := trivial
  have h7 : Fence.wide.fn 39 := trivial
  have hro : Fence.wide.round = none := rfl
  refine callsIn_of_wp_marks Tryd.func20 rfl h3 ?_ hro
  simp only [Tryd.ntmps20, List.size_toArray, List.length_cons, List.length_nil, Nat.reduceAdd, Nat.reduceSub, Array.replicate_succ, Array.replicate_zero, List.push_toArray, List.append_toArray, List.nil_append, List.cons_append]
  gi_wp2_with (gi_at_call 29; refine (kept_in (n - 1) _ _).mono ?_; rintro e w' ⟨rfl, hw⟩; rw [hw]; clear hw w')
  have hT0 : Turn [] w (lnBlks w.heap.size p none 0 0) ((w.alloc (.cells #[.slice none 0 0] 49)).alloc (.cells #[.pointer p] 33)) := by
    have h := ((Turn.refl (Has.nil w)).alloc (.cells #[.slice none 0 0] 49)).alloc (.cells #[.pointer p] 33)
    simp only [World.size_alloc] at h
    exact h.perm (perm_of fun c => by simp [lnBlks]; omega)
  have hsz0 : ((w.alloc (.cells #[.slice none 0 0] 49)).alloc (.cells #[.pointer p] 33)).heap.size = w.heap.size + 2 := by simp
  obtain ⟨W0, hW0⟩ : ∃ W0, ((w.alloc (.cells #[.slice none 0 0] 49)).alloc (.cells #[.pointer p] 33)) = W0 := ⟨_, rfl⟩
  rw [hW0] at hT0 hsz0 ⊢
  clear hW0
  have hP0 := hP.below hT0.below
  have hok := hP.ok
  have hl := hP.len
  have hsm := hP.small
  have HE := Lib.hid hE
  clear hE
  refine wpIn_rangeFunc_lays hro h1 (gf := 39) (lb := #[.pointer (some ⟨w.heap.size + 1, 0, none⟩)]) rfl h7 (enters_of Tryd.func39 (by kernel_rfl) rfl)
    (kept_stops (n - 1) (by omega) (w.heap.size + 1) w.heap.size p nn ks W0 (by omega) (by omega) (ln_box hT0 (fun _ h => h)) hP0) (fun h k => h.t k)
    (fun W l o o' hl' hwl hc hw => ⟨belowK_b (w := W0) (by omega) W l o o' hl' hwl hc hw, World.cell?_of_block (World.putObj_heap_other (by show w.heap.size + 1 ≠ l; omega))⟩) (Below.refl _ _) (fun _ => rfl)
    (lnGoes w p) (fun _ _ _ => False) (lnMid w p)
    (fun s A B row ⟨ao, cap, lr, hrow, hT⟩ hg hr => ⟨ao, cap, lr, hrow, hT.grow (by omega) (fun x hx => (List.mem_append.1 hx).elim (hrow.cells x) (lnBlks_cells _ _ _ _ _ x)) hg hr⟩)
    (fun c s A B row h hg hr => h.elim)
    (fun x a' s A B row ⟨ao, cap, lr, nb, hrow, ha, hT⟩ hg hr => ⟨ao, cap, lr, nb, hrow, ha, hT.grow (by omega) (by
      intro y hy
      rcases List.mem_cons.1 hy with rfl | hy
      · rfl
      · exact (List.mem_append.1 hy).elim (hrow.cells y) (lnBlks_cells _ _ _ _ _ y)) hg hr⟩)
    ⟨none, 0, [], Row.nil _ _, hT0⟩ ?assign ?body ?done ?stop
  case assign =>
    rintro l pre ⟨⟨k, r⟩, hkr⟩ W ⟨ao, cap, lr, hrow, hT⟩ hlt
    have hrok := hok r (List.mem_of_getElem? hkr)
    have hsz2 := rep_size (n := (i64s r).toArray.size) (by rw [List.size_toArray, i64s_length]; exact hrok.len)
    have T1 := hT.alloc (.cells (i64s zeros).toArray 25)
    have hth := T1.has.there (b := W.heap.size) (c := (i64s zeros).toArray) (e := 25) (List.mem_cons_self ..) 0 (i64s r).toArray.size (by rw [List.size_toArray, i64s_length, hrok.len]; decide)
    have hone := i64s_oneCell r
    have T2 := T1.setCells (i64s r) 0
    rw [laidOver_all _ _ (by rw [i64s_length, hrok.len]; rfl)] at T2
    have HT2 := Lib.hid T2
    have HT := Lib.hid hT
    have Hrow := Lib.hid hrow
    unfold kelArgs repVal
    clear hT T1 T2 hrow
    gi_wp2_with (refine wpListIn_by (follows_round _ _ _) rfl (by intro c h; cases h) (wp_store_mid 25 _ _ rfl _ 0 (i64s r).toArray rfl rfl hth hsz2 hone ?_))
    refine ⟨((KeepsOthers.alloc _ _).trans (keepsOthers_setCells _ _ _)).from _, ⟨((Below.refl _ W).alloc HT.out.size _).trans (below_setCells HT.out.size _ _ _), ?_⟩, ao, cap, lr, W.heap.size, Hrow.out, rfl, HT2.out⟩
    exact (ln_box HT2.out (fun _ h => List.mem_cons_of_mem _ (List.mem_append_right _ h))).trans (ln_box HT.out (fun _ h => List.mem_append_right _ h)).symm
  case body =>
    rintro l pre ⟨⟨k, r⟩, hkr⟩ a' W ⟨ao, cap, lr, nb, hrow, rfl, hT⟩ hlt
    have hrok := hok r (List.mem_of_getElem? hkr)
    replace hT : Turn [] w ((nb, .cells (i64s r).toArray 25) :: (lr ++ lnBlks w.heap.size p ao pre.length cap)) W := hT
    have hL : ∀ x ∈ lnBlks w.heap.size p ao pre.length cap, x ∈ (nb, Obj.cells (i64s r).toArray 25 (0, 0)) :: (lr ++ lnBlks w.heap.size p ao pre.length cap) := fun x hx => List.mem_cons_of_mem _ (List.mem_append_right _ hx)
    have hsz := rep_size (n := (i64s r).length) (by rw [i64s_length]; exact hrok.len)
    have hcells : ∀ x ∈ (nb, Obj.cells (i64s r).toArray 25 (0, 0)) :: (lr ++ lnBlks w.heap.size p ao pre.length cap), x.2.isCells = true := by
      intro y hy
      rcases List.mem_cons.1 hy with rfl | hy
      · rfl
      · exact (List.mem_append.1 hy).elim (hrow.cells y) (lnBlks_cells _ _ _ _ _ y)
    have hS0 : W.drew.rangeAt nb 0 (i64s r) := range_of_has hT.drew.has (List.mem_cons_self ..)
    have c0 := ln_out hT hL
    have hTB : ∀ w1, Below W.drew.heap.size W.drew w1 → Turn ((nb, .cells (i64s r).toArray 25) :: (lr ++ lnBlks w.heap.size p ao pre.length cap)) W (lr ++ ((w1.heap.size, .cells #[.string ⟨(line r).toArray⟩] 9) :: (nb, .cells (i64s r).toArray 25) :: lnBlks w.heap.size p ao pre.length cap)) (w1.alloc (.cells #[.string ⟨(line r).toArray⟩] 9)) := fun w1 hB =>
      (((Turn.refl hT.has).drew.trans (Turn.of_below (Turn.refl hT.has).drew.has hB)).alloc _).perm (by generalize (i64s r).toArray = Y; exact perm_of fun c => by simp; omega)
    have hSB : ∀ w1, Below W.drew.heap.size W.drew w1 → w1.rangeAt nb 0 (i64s r) := fun w1 hB => range_of_has (Turn.of_below (Turn.refl hT.has).drew.has hB).has (List.mem_cons_self ..)
    have hSB2 : ∀ w1, Below W.drew.heap.size W.drew w1 → (w1.alloc (.cells #[.string ⟨(line r).toArray⟩] 9)).rangeAt nb 0 (i64s r) := fun w1 hB => World.rangeAt_alloc (hSB w1 hB) _
    have hC1 : ∀ w1, Below W.drew.heap.size W.drew w1 → w1.cell? ⟨w.heap.size, 0, none⟩ = some (.slice ao pre.length cap) := fun w1 hB => (hB.cell (p := ⟨w.heap.size, 0, none⟩) (World.block_lt_of_cell? W _ c0)).trans c0
    have hC2 : ∀ w1, Below W.drew.heap.size W.drew w1 → (w1.alloc (.cells #[.string ⟨(line r).toArray⟩] 9)).cell? ⟨w.heap.size, 0, none⟩ = some (.slice ao pre.length cap) := fun w1 hB => (World.cell?_alloc_lt _ _ _ (World.block_lt_of_cell? w1 _ (hC1 w1 hB))).trans (hC1 w1 hB)
    have hlast : ∀ w1 ao' cap' l' w3, Below W.drew.heap.size W.drew w1 → Row 9 1 ao' (pre.length + 1) cap' (linesOf (pre.map fun x => x.val.2) ++ [.string ⟨(line r).toArray⟩]) l' →
        Turn (lr ++ ((w1.heap.size, .cells #[.string ⟨(line r).toArray⟩] 9) :: (nb, .cells (i64s r).toArray 25) :: lnBlks w.heap.size p ao pre.length cap)) (w1.alloc (.cells #[.string ⟨(line r).toArray⟩] 9)) (l' ++ ((w1.heap.size, .cells #[.string ⟨(line r).toArray⟩] 9) :: (nb, .cells (i64s r).toArray 25) :: lnBlks w.heap.size p ao pre.length cap)) w3 →
        w3.rangeAt nb 0 (i64s r) ∧ w3.cell? ⟨w.heap.size, 0, none⟩ = some (.slice ao pre.length cap) ∧ w3.frozen? ⟨w.heap.size, 0, none⟩ = false ∧ (w3.setCell ⟨w.heap.size, 0, none⟩ (.slice ao' (pre.length + 1) cap')).rangeAt nb 0 (i64s r) ∧
          KeepsFrom W0.heap.size W (w3.setCell ⟨w.heap.size, 0, none⟩ (.slice ao' (pre.length + 1) cap')) ∧ KpB w.heap.size (w.heap.size + 1) W (w3.setCell ⟨w.heap.size, 0, none⟩ (.slice ao' (pre.length + 1) cap')) ∧ lnGoes w p (pre ++ [⟨(k, r), hkr⟩]) (w3.setCell ⟨w.heap.size, 0, none⟩ (.slice ao' (pre.length + 1) cap')) := by
      intro w1 ao' cap' l' w3 hB hr3 ht3
      have T3 := (hTB w1 hB).trans ht3
      have T3' := T3.perm (l2 := (w.heap.size, .cells #[.slice ao pre.length cap] 49) :: (w1.heap.size, .cells #[.string ⟨(line r).toArray⟩] 9) :: (nb, .cells (i64s r).toArray 25) :: (l' ++ [(w.heap.size + 1, .cells #[.pointer p] 33)])) (by unfold lnBlks; generalize (i64s r).toArray = Y; exact perm_of fun c => by simp; omega)
      have T4 := T3'.setCell 0 (.slice ao' (pre.length + 1) cap')
      have T5 := T4.perm (l2 := (w1.heap.size, .cells #[.string ⟨(line r).toArray⟩] 9) :: (nb, .cells (i64s r).toArray 25) :: (l' ++ lnBlks w.heap.size p ao' (pre.length + 1) cap')) (by unfold lnBlks; generalize (i64s r).toArray = Y; exact perm_of fun c => by simp; omega)
      have T6 := (hT.trans T5).tail.tail
      refine ⟨range_of_has T3'.has (List.mem_cons_of_mem _ (List.mem_cons_of_mem _ (List.mem_cons_self ..))), T3'.has.cell (List.mem_cons_self ..) 0, T3'.has.free (List.mem_cons_self ..) 0, range_of_has T5.has (List.mem_cons_of_mem _ (List.mem_cons_self ..)), (T5.keepsOthers hT.has hcells).from _, ⟨hT.below_of T5, ?_⟩, ao', cap', l', ?_, ?_⟩
      · exact (ln_box T6 (fun _ h => List.mem_append_right _ h)).trans (ln_box hT hL).symm
      · rw [List.length_append, List.length_singleton, List.map_append, List.map_cons, List.map_nil, linesOf_snoc]
        exact hr3
      · rw [List.length_append, List.length_singleton]
        exact T6
    have h1c : ∀ u ∈ [Value.string ⟨(line r).toArray⟩], u.oneCell' = true := by simp [Value.oneCell']
    have h63 : pre.length + 1 ≤ maxLen := by unfold maxLen; omega
    have hby : (pre.length + 1) * 16 ≤ 140737488355328 := by omega
    have HEd := Lib.hid (show Env W.drew from (HE.out.turn (hT.sub (List.nil_sublist _))).later (fun b hb => rfl))
    have hline : ∀ W, Env W → Calls Tryd.prog 10 #[.agg (i64s r).toArray] W fun e w' => e = .returned (.string ⟨(line r).toArray⟩) ∧ Below W.heap.size W w' := fun W h => line_below W h r hrok
    have Hline := Lib.hid hline
    have HTB := Lib.hid hTB
    have HSB := Lib.hid hSB
    have HSB2 := Lib.hid hSB2
    have HC1 := Lib.hid hC1
    have HC2 := Lib.hid hC2
    have Hlast := Lib.hid hlast
    have Hrow := Lib.hid hrow
    clear hline hTB hSB hSB2 hC1 hC2 hlast hrow hT hL hcells
    unfold lnAct
    gi_wp2_with fail
    refine wpIn_region_round (S := fun W' => W'.rangeAt nb 0 (i64s r)) 6 [false, false, false, false, false, false] rfl rfl (by kernel_rfl) (by rfl) (by rintro ⟨a, w, h⟩; exact h) ?_
    refine takeH 1 10 rfl rfl rfl (by kernel_rfl) (by kernel_rfl) (by kernel_rfl) (fun _ _ _ _ h => h) hS0 (fun w' hSw => load_mid_run 25 _ rfl nb 0 rfl (i64s r) _ hSw Tryd.underlying25 rfl hsz) ?_
    simp only [List.setIfInBounds_toArray, List.set_cons_zero, List.set_cons_succ]
    refine wpAnyH_ready (rs := [0, 2]) (by kernel_rfl) (by simp) (AllReadyH.cons rfl (fun K hK => ?_) (AllReadyH.cons rfl (fun K hK => ?_) AllReadyH.nil))
    · go_simp
      refine hK.out _ _ hS0 fun _ => ?_
      simp only [List.setIfInBounds_toArray, List.set_cons_zero, List.set_cons_succ]
      refine wpAnyH_ready (rs := [2]) (by kernel_rfl) (by simp) (AllReadyH.cons rfl (fun K hK => ?_) AllReadyH.nil)
      go_simp
      refine (Hline.out W.drew HEd.out).mono ?_
      rintro e w1 ⟨rfl, hB1⟩
      have HB1 := Lib.hid hB1
      have hS1 := HSB.out w1 hB1
      have HT2 := Lib.hid (HTB.out w1 hB1)
      have hS2 := HSB2.out w1 hB1
      have c1 := HC1.out w1 hB1
      have c2 := HC2.out w1 hB1
      clear hB1
      refine hK.out _ _ hS1 fun _ => ?_
      simp only [List.setIfInBounds_toArray, List.set_cons_zero, List.set_cons_succ]
      refine wpAnyH_ready (rs := [3]) (by kernel_rfl) (by simp) (AllReadyH.cons rfl (fun K hK => ?_) AllReadyH.nil)
      go_simp
      refine hK.out _ _ hS2 fun _ => ?_
      simp only [List.setIfInBounds_toArray, List.set_cons_zero, List.set_cons_succ]
      refine wpAnyH_ready (rs := [4]) (by kernel_rfl) (by simp) (AllReadyH.cons rfl (fun K hK => ?_) AllReadyH.nil)
      refine step_append_row rfl _ _ rfl el_str rfl Hrow.out (R := (w1.heap.size, .cells #[.string ⟨(line r).toArray⟩] 9) :: (nb, .cells (i64s r).toArray 25) :: lnBlks w.heap.size p ao pre.length cap) HT2.out.has rfl (news := [.string ⟨(line r).toArray⟩]) rfl (news_of (heap_alloc_new _ _)) h1c h63 hby ?_
      intro ao' cap' l' w3 hr3 ht3 _
      obtain ⟨hS3, c3, f3, hS4, hend⟩ := Hlast.out w1 ao' cap' l' w3 HB1.out hr3 ht3
      refine hK.out _ _ hS3 fun _ => ?_
      simp only [List.setIfInBounds_toArray, List.set_cons_zero, List.set_cons_succ]
      refine wpAnyH_ready (rs := [5]) (by kernel_rfl) (by simp) (AllReadyH.cons rfl (fun K hK => ?_) AllReadyH.nil)
      go_simp
      refine hK.out _ _ hS4 fun _ => ?_
      exact wpAnyH_done (by kernel_rfl) hend _
    · go_simp
      refine (Hline.out W.drew HEd.out).mono ?_
      rintro e w1 ⟨rfl, hB1⟩
      have HB1 := Lib.hid hB1
      have hS1 := HSB.out w1 hB1
      have HT2 := Lib.hid (HTB.out w1 hB1)
      have hS2 := HSB2.out w1 hB1
      have c1 := HC1.out w1 hB1
      have c2 := HC2.out w1 hB1
      clear hB1
      refine hK.out _ _ hS1 fun _ => ?_
      simp only [List.setIfInBounds_toArray, List.set_cons_zero, List.set_cons_succ]
      refine wpAnyH_ready (rs := [0, 3]) (by kernel_rfl) (by simp) (AllReadyH.cons rfl (fun K hK => ?_) (AllReadyH.cons rfl (fun K hK => ?_) AllReadyH.nil))
      · go_simp
        refine hK.out _ _ hS1 fun _ => ?_
        simp only [List.setIfInBounds_toArray, List.set_cons_zero, List.set_cons_succ]
        refine wpAnyH_ready (rs := [3]) (by kernel_rfl) (by simp) (AllReadyH.cons rfl (fun K hK => ?_) AllReadyH.nil)
        go_simp
        refine hK.out _ _ hS2 fun _ => ?_
        simp only [List.setIfInBounds_toArray, List.set_cons_zero, List.set_cons_succ]
        refine wpAnyH_ready (rs := [4]) (by kernel_rfl) (by simp) (AllReadyH.cons rfl (fun K hK => ?_) AllReadyH.nil)
        refine step_append_row rfl _ _ rfl el_str rfl Hrow.out (R := (w1.heap.size, .cells #[.string ⟨(line r).toArray⟩] 9) :: (nb, .cells (i64s r).toArray 25) :: lnBlks w.heap.size p ao pre.length cap) HT2.out.has rfl (news := [.string ⟨(line r).toArray⟩]) rfl (news_of (heap_alloc_new _ _)) h1c h63 hby ?_
        intro ao' cap' l' w3 hr3 ht3 _
        obtain ⟨hS3, c3, f3, hS4, hend⟩ := Hlast.out w1 ao' cap' l' w3 HB1.out hr3 ht3
        refine hK.out _ _ hS3 fun _ => ?_
        simp only [List.setIfInBounds_toArray, List.set_cons_zero, List.set_cons_succ]
        refine wpAnyH_ready (rs := [5]) (by kernel_rfl) (by simp) (AllReadyH.cons rfl (fun K hK => ?_) AllReadyH.nil)
        go_simp
        refine hK.out _ _ hS4 fun _ => ?_
        exact wpAnyH_done (by kernel_rfl) hend _
      · go_simp
        refine hK.out _ _ hS2 fun _ => ?_
        simp only [List.setIfInBounds_toArray, List.set_cons_zero, List.set_cons_succ]
        refine wpAnyH_ready (rs := [0]) (by kernel_rfl) (by simp) (AllReadyH.cons rfl (fun K hK => ?_) AllReadyH.nil)
        go_simp
        refine hK.out _ _ hS2 fun _ => ?_
        simp only [List.setIfInBounds_toArray, List.set_cons_zero, List.set_cons_succ]
        refine wpAnyH_ready (rs := [4]) (by kernel_rfl) (by simp) (AllReadyH.cons rfl (fun K hK => ?_) AllReadyH.nil)
        refine step_append_row rfl _ _ rfl el_str rfl Hrow.out (R := (w1.heap.size, .cells #[.string ⟨(line r).toArray⟩] 9) :: (nb, .cells (i64s r).toArray 25) :: lnBlks w.heap.size p ao pre.length cap) HT2.out.has rfl (news := [.string ⟨(line r).toArray⟩]) rfl (news_of (heap_alloc_new _ _)) h1c h63 hby ?_
        intro ao' cap' l' w3 hr3 ht3 _
        obtain ⟨hS3, c3, f3, hS4, hend⟩ := Hlast.out w1 ao' cap' l' w3 HB1.out hr3 ht3
        refine hK.out _ _ hS3 fun _ => ?_
        simp only [List.setIfInBounds_toArray, List.set_cons_zero, List.set_cons_succ]
        refine wpAnyH_ready (rs := [5]) (by kernel_rfl) (by simp) (AllReadyH.cons rfl (fun K hK => ?_) AllReadyH.nil)
        go_simp
        refine hK.out _ _ hS4 fun _ => ?_
        exact wpAnyH_done (by kernel_rfl) hend _
  case done =>
    rintro D ys W hD hys ⟨ao, cap, lr, hrow, hT⟩ hK
    have hyl : ys.length = nn := by
      have h := congrArg List.length hys
      rw [List.length_map, List.length_zip, List.length_range, hl, Nat.min_self] at h
      exact h
    have hyk : ys.map (fun x => x.val.2) = ks := by
      have h := congrArg (List.map Prod.snd) hys
      rw [List.map_map, List.map_snd_zip (by rw [List.length_range, hl]; exact Nat.le_refl _)] at h
      exact h
    rw [hyl, hyk] at hrow
    rw [hyl] at hT
    have c0 := ln_out hT (fun _ h => List.mem_append_right _ h)
    have f0 := hT.has.free (b := w.heap.size) (c := #[.slice ao nn cap]) (e := 49) (by simp [lnBlks]) 0
    have HT := Lib.hid hT
    have Hrow := Lib.hid hrow
    clear hT hrow hyk hyl hys
    gi_wp2
    have T4 := ((HT.out.perm (l2 := (w.heap.size, .cells #[.slice ao nn cap] 49) :: (lr ++ [(w.heap.size + 1, .cells #[.pointer p] 33)])) (perm_of fun c => by simp [lnBlks]; omega)).setCell 0 (.slice ao nn cap)).perm (l2 := lr ++ lnBlks w.heap.size p ao nn cap) (perm_of fun c => by simp [lnBlks]; omega)
    have hK2 := (KeepsOthers.setCell W ⟨w.heap.size, 0, none⟩ (.slice ao nn cap)).same D _ hK rfl
    have T5 := T4.grow (B := w.heap.size) (Nat.le_refl _) (fun x hx => (List.mem_append.1 hx).elim (Hrow.out.cells x) (lnBlks_cells _ _ _ _ _ x)) (grownBy_putObj' _ D (.deferred none)) (fun r e => by cases e; exact ⟨by omega, _, hK2, rfl⟩)
    have c5 := ln_out T5 (fun _ h => List.mem_append_right _ h)
    refine ⟨by simp, .inl ⟨_, _, rfl, run_takeDeferred hK2, ?_⟩⟩
    refine ⟨.slice ao nn cap, ?_, ao, cap, lr, rfl, Hrow.out, (T5.perm (l2 := lnBlks w.heap.size p ao nn cap ++ lr) (perm_of fun c => by simp; omega)).drop⟩
    simp [results, Tryd.results20, go_sem, c5]
  case stop =>
    rintro D c pre W _ _ h _
    exact h.elim
/-- Lines: the lines of those that are kept. -/
theorem lLines_any (p : Option Addr) (nn : Nat) (ks : List (List Int)) (w : World) (hE : Env w) (hP : KeptAt w.heap.size w p nn ks) :
    Calls Tryd.prog 20 #[.pointer p] w fun e W' => ∃ ao cap lr, e = .returned (.slice ao nn cap) ∧ Row 9 1 ao nn cap (linesOf ks) lr ∧ Turn [] w lr W' :=
  (callsIn_wide (n := 3)).1 (lLines_in 3 (Nat.le_refl _) p nn ks w hE hP)
end Go.Proofs.YtpnpnajheaijaaaDoor
