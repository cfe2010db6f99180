/-
  The log: add, a report more.
  Conditions: none.
-/
import Derived.Test.YtpnpnajheaijaaaDoorLg13
import Derived.StillTailTactics
namespace Go.Proofs.YtpnpnajheaijaaaDoor
open Go Go.RowKit Go.IntWalk

theorem Code.wp_world {P : Program} {c : Code} {Q : Exit → Act → World → Prop} {a : Act} {w : World} (I : World → Prop) (h0 : I w) (h : ∀ W, I W → c.wp P Q a W) : c.wp P Q a w := h w h0

theorem wpStill_load_mid {P : Program} {ops : Array Oper} {w : World} {Q : Act → Prop} {a : Act} {o : Oper} {rest : List Oper} (hgd : o.guard = none) (ty : TypeId) (x : Operand) (ho : o.op = .load ty x)
    (b off : Nat) (hx : a.eval x = .pointer (some ⟨b, off, none⟩)) (cs : List Value) (d : TypeDesc) (hc : w.rangeAt b off cs) (hu : P.underlying ty = some d) (hd : d.isRow = true) (hi : (P.info? ty).map (·.size) = some cs.length)
    (h : wpStill P ops w Q rest (a.put o.dst (.agg cs.toArray))) : wpStill P ops w Q (o :: rest) a := by
  have hw : Region.wanted o (yielded ops a.tmps) = true := by simp [Region.wanted, hgd]
  have hr : (execOp a.eval o).run P w = .ok (.value (.agg cs.toArray)) w := by
    unfold execOp
    simp only [ho, hx, Instr.loadAt, Instr.sureAddr, Sem.run_bind, Sem.run_pure, Result.andThen_ok, run_loadVar_mid w b off ty cs d hc hu hd hi]
  unfold wpStill
  rw [if_pos hw]
  unfold Oper.still
  rw [hr]
  exact ⟨rfl, h⟩

theorem split8 {S : List Int} (h : S.length = 8) : ∃ s0 s1 s2 s3 s4 s5 s6 s7 : Int, S = [s0, s1, s2, s3, s4, s5, s6, s7] := by
  match S, h with
  | [s0, s1, s2, s3, s4, s5, s6, s7], _ => exact ⟨_, _, _, _, _, _, _, _, rfl⟩

/-- A log's cells. -/
def lg (g m n at_ : Nat) (s0 s1 s2 s3 s4 s5 s6 s7 : Int) : Array Value := #[.int .i64 s0, .int .i64 s1, .int .i64 s2, .int .i64 s3, .int .i64 s4, .int .i64 s5, .int .i64 s6, .int .i64 s7, .slice (some ⟨g, 0, none⟩) m m, .int .i64 n, .int .i64 at_]

theorem lg_set0 {g m n at_ : Nat} {s0 s1 s2 s3 s4 s5 s6 s7 : Int} (v : Int) : (lg g m n at_ s0 s1 s2 s3 s4 s5 s6 s7).setIfInBounds 0 (.int .i64 v) = lg g m n at_ v s1 s2 s3 s4 s5 s6 s7 := rfl
theorem lg_set1 {g m n at_ : Nat} {s0 s1 s2 s3 s4 s5 s6 s7 : Int} (v : Int) : (lg g m n at_ s0 s1 s2 s3 s4 s5 s6 s7).setIfInBounds 1 (.int .i64 v) = lg g m n at_ s0 v s2 s3 s4 s5 s6 s7 := rfl
theorem lg_set2 {g m n at_ : Nat} {s0 s1 s2 s3 s4 s5 s6 s7 : Int} (v : Int) : (lg g m n at_ s0 s1 s2 s3 s4 s5 s6 s7).setIfInBounds 2 (.int .i64 v) = lg g m n at_ s0 s1 v s3 s4 s5 s6 s7 := rfl
theorem lg_set3 {g m n at_ : Nat} {s0 s1 s2 s3 s4 s5 s6 s7 : Int} (v : Int) : (lg g m n at_ s0 s1 s2 s3 s4 s5 s6 s7).setIfInBounds 3 (.int .i64 v) = lg g m n at_ s0 s1 s2 v s4 s5 s6 s7 := rfl
theorem lg_set4 {g m n at_ : Nat} {s0 s1 s2 s3 s4 s5 s6 s7 : Int} (v : Int) : (lg g m n at_ s0 s1 s2 s3 s4 s5 s6 s7).setIfInBounds 4 (.int .i64 v) = lg g m n at_ s0 s1 s2 s3 v s5 s6 s7 := rfl
theorem lg_set5 {g m n at_ : Nat} {s0 s1 s2 s3 s4 s5 s6 s7 : Int} (v : Int) : (lg g m n at_ s0 s1 s2 s3 s4 s5 s6 s7).setIfInBounds 5 (.int .i64 v) = lg g m n at_ s0 s1 s2 s3 s4 v s6 s7 := rfl
theorem lg_set6 {g m n at_ : Nat} {s0 s1 s2 s3 s4 s5 s6 s7 : Int} (v : Int) : (lg g m n at_ s0 s1 s2 s3 s4 s5 s6 s7).setIfInBounds 6 (.int .i64 v) = lg g m n at_ s0 s1 s2 s3 s4 s5 v s7 := rfl
theorem lg_set7 {g m n at_ : Nat} {s0 s1 s2 s3 s4 s5 s6 s7 : Int} (v : Int) : (lg g m n at_ s0 s1 s2 s3 s4 s5 s6 s7).setIfInBounds 7 (.int .i64 v) = lg g m n at_ s0 s1 s2 s3 s4 s5 s6 v := rfl
theorem lg_set9 {g m n at_ : Nat} {s0 s1 s2 s3 s4 s5 s6 s7 : Int} (v : Nat) : (lg g m n at_ s0 s1 s2 s3 s4 s5 s6 s7).setIfInBounds 9 (.int .i64 (v : Nat)) = lg g m v at_ s0 s1 s2 s3 s4 s5 s6 s7 := rfl
theorem lg_set10 {g m n at_ : Nat} {s0 s1 s2 s3 s4 s5 s6 s7 : Int} (v : Nat) : (lg g m n at_ s0 s1 s2 s3 s4 s5 s6 s7).setIfInBounds 10 (.int .i64 (v : Nat)) = lg g m n v s0 s1 s2 s3 s4 s5 s6 s7 := rfl
/-- A row laid over the k-th of rows. -/
theorem laidOver_row {c : List (List Int)} {cur : Array Value} {r : List Int} (hcur : cur.toList = c.flatMap i64s) (hc : ∀ r ∈ c, r.length = 21) (hr : r.length = 21) {k : Nat} (hk : k < c.length) :
    (laidOver cur (k * 21) (i64s r)).toList = (c.set k r).flatMap i64s := by
  have hsz : cur.size = c.length * 21 := by
    rw [← Array.length_toList, hcur, List.length_flatMap]
    have : ∀ l : List (List Int), (∀ r ∈ l, r.length = 21) → (l.map fun a => (i64s a).length).sum = l.length * 21 := by
      intro l
      induction l with
      | nil => intro _; rfl
      | cons a l ih =>
        intro h
        rw [List.map_cons, List.sum_cons, ih (fun r hr => h r (List.mem_cons_of_mem _ hr)), i64s_length, h a (List.mem_cons_self ..), List.length_cons, Nat.add_mul]
        omega
    exact this c hc
  have hget : ∀ (l : List (List Int)), (∀ r ∈ l, r.length = 21) → ∀ i j, j < 21 → (l.flatMap i64s)[i * 21 + j]? = l[i]?.bind fun a => (i64s a)[j]? := by
    intro l
    induction l with
    | nil => intro _ i j _; simp
    | cons a l ih =>
      intro h i j hj
      have ha : (i64s a).length = 21 := by rw [i64s_length, h a (List.mem_cons_self ..)]
      rw [List.flatMap_cons]
      cases i with
      | zero =>
        rw [Nat.zero_mul, Nat.zero_add, List.getElem?_append_left (by omega)]
        rfl
      | succ i =>
        rw [show (i + 1) * 21 + j = 21 + (i * 21 + j) by omega, List.getElem?_append_right (by omega), ha, Nat.add_sub_cancel_left, ih (fun r hr => h r (List.mem_cons_of_mem _ hr)) i j hj]
        rfl
  have hset : ∀ r' ∈ c.set k r, r'.length = 21 := fun r' h' => by
    rcases List.mem_or_eq_of_mem_set h' with h | h
    · exact hc r' h
    · rw [h]; exact hr
  have hl : (i64s r).length = 21 := by rw [i64s_length, hr]
  refine List.ext_getElem? fun p => ?_
  have hp : p = p / 21 * 21 + p % 21 := (Nat.div_add_mod' p 21).symm
  have hm : p % 21 < 21 := Nat.mod_lt _ (by omega)
  generalize p / 21 = i at hp
  generalize p % 21 = j at hp hm
  subst hp
  rw [hget _ hset i j hm, Array.getElem?_toList]
  by_cases hi : i = k
  · subst hi
    rw [laidOver_in _ _ _ _ (by omega) (by omega), List.getElem?_set_self hk]
    rfl
  · rw [laidOver_out _ _ _ _ (by omega), List.getElem?_set_ne (Ne.symm hi), ← Array.getElem?_toList, hcur, hget _ hc i j hm]


section
variable {b g m n0 a0 : Nat} {s0 s1 s2 s3 s4 s5 s6 s7 : Int} {cur : Array Value} {R : List Blk}

set_option maxRecDepth 100000 in
set_option maxHeartbeats 3200000 in
theorem add_walk (w : World) (hm : m ≤ 1024) (ha : a0 < m) (hn : n0 ≤ m) (hcs : cur.size = m * 21) (r : List Int) (hr : RepOk r)
    (hH : Has w ((b, .cells (lg g m n0 a0 s0 s1 s2 s3 s4 s5 s6 s7) 69) :: (g, .cells cur 25) :: R)) (n1 a1 : Nat) (Pc : Array Value → Prop) (hPc : Pc (laidOver cur (a0 * 21) (i64s r))) (hn1 : n1 = if n0 < m then n0 + 1 else n0) (ha1 : a1 = (a0 + 1) % m) (t0 t1 t2 t3 t4 t5 t6 t7 : Int) (ht : sumAdd [s0, s1, s2, s3, s4, s5, s6, s7] r = [t0, t1, t2, t3, t4, t5, t6, t7]) :
    Calls Tryd.prog 28 #[.pointer (some ⟨b, 0, none⟩), repVal r] w fun e w' => (∃ v, e = .returned v) ∧ ∃ cur', Pc cur' ∧
      Turn ((b, .cells (lg g m n0 a0 s0 s1 s2 s3 s4 s5 s6 s7) 69) :: (g, .cells cur 25) :: R) w ((b, .cells (lg g m n1 a1 t0 t1 t2 t3 t4 t5 t6 t7) 69) :: (g, .cells cur' 25) :: R) w' := by
  have hT := (((Turn.refl hH).alloc (.cells (i64s r).toArray 25)).perm (l2 := (b, .cells (lg g m n0 a0 s0 s1 s2 s3 s4 s5 s6 s7) 69) :: (w.heap.size, .cells (i64s r).toArray 25) :: (g, .cells cur 25) :: R) (by generalize (i64s r).toArray = Z; exact perm_of fun c => by simp; omega))
  have HT := Lib.hid hT
  have hlen := hr.len
  have hsz := rep_size (n := (i64s r).length) (by rw [i64s_length]; exact hlen)
  have hsz2 := rep_size (n := (i64s r).toArray.size) (by rw [List.size_toArray, i64s_length]; exact hlen)
  have hone := i64s_oneCell r
  have ha' : (a0 : Int) < (m : Int) := by omega
  have hm0 : 0 < m := by omega
  have hb : (a0 + 1) * 21 ≤ cur.size := by rw [hcs]; exact Nat.mul_le_mul_right _ (by omega)
  clear hT hH
  unfold repVal
  go_enter Tryd.func28, Tryd.ntmps28
  go_wp2_with fail
  generalize hrb : w.heap.size = rb at *
  refine Code.wp_world (fun W => Turn ((b, .cells (lg g m n0 a0 s0 s1 s2 s3 s4 s5 s6 s7) 69) :: (g, .cells cur 25) :: R) w ((b, .cells (lg g m n0 a0 s0 s1 s2 s3 s4 s5 s6 s7) 69) :: (rb, .cells (i64s r).toArray 25) :: (g, .cells cur 25) :: R) W) HT.out fun W T => ?_
  clear HT
  have cb := T.has.cell (List.mem_cons_self ..)
  have c8 : W.cell? ⟨b, 8, none⟩ = some (.slice (some ⟨g, 0, none⟩) m m) := cb 8
  have c10 : W.cell? ⟨b, 10, none⟩ = some (.int .i64 a0) := cb 10
  have hrg : W.drew.rangeAt rb 0 (i64s r) := range_of_has T.drew.has (List.mem_cons_of_mem _ (List.mem_cons_self ..))
  have hth : W.drew.there g (a0 * 21) (i64s r).toArray.size := T.drew.has.there (b := g) (c := cur) (List.mem_cons_of_mem _ (List.mem_cons_of_mem _ (List.mem_cons_self ..))) (a0 * 21) _ (by rw [List.size_toArray, i64s_length, hlen]; omega)
  clear cb
  refine wp_region_still_tail 10 (by kernel_rfl) (by kernel_rfl) ?_
  simp only [List.take_succ_cons, List.take_zero, List.drop_succ_cons, List.drop_zero]
  iterate 8 still_step
  refine wpStill_load_mid rfl 25 _ rfl rb 0 rfl (i64s r) _ hrg Tryd.underlying25 rfl hsz ?_
  still_step
  refine wpStill_nil ?_
  change wpList _ _ _ _ _ W.drew
  refine wpList_store_mid rfl 25 _ _ rfl g (a0 * 21) (i64s r).toArray rfl rfl hth hsz2 hone ?_
  go_wp2_with fail
  refine Code.wp_world (fun W => Turn ((b, .cells (lg g m n0 a0 s0 s1 s2 s3 s4 s5 s6 s7) 69) :: (g, .cells cur 25) :: R) w ((b, .cells (lg g m n0 a0 s0 s1 s2 s3 s4 s5 s6 s7) 69) :: (rb, .cells (i64s r).toArray 25) :: (g, .cells (laidOver cur (a0 * 21) (i64s r)) 25) :: R) W) ((((T.drew.perm (l2 := (g, .cells cur 25) :: (b, .cells (lg g m n0 a0 s0 s1 s2 s3 s4 s5 s6 s7) 69) :: (rb, .cells (i64s r).toArray 25) :: R) (by generalize (i64s r).toArray = Z; exact perm_of fun c => by simp; omega)).setCells (i64s r) (a0 * 21)).perm (by generalize (i64s r).toArray = Z; exact perm_of fun c => by simp; omega))) fun W1 T1 => ?_
  clear T c8 c10 hrg hth hsz hsz2 hone W hb hcs
  generalize hcur : laidOver cur (a0 * 21) (i64s r) = cur' at *
  obtain ⟨x0, x1, x2, x3, x4, x5, x6, x7, x8, x9, x10, x11, x12, x13, x14, x15, x16, x17, x18, x19, x20, rfl⟩ := hr.split
  have htt := ht
  simp only [sumAdd, List.getD_cons_zero, List.getD_cons_succ, List.cons.injEq, and_true] at htt
  obtain ⟨e0, e1, e2, e3, e4, e5, e6, e7⟩ := htt
  have hrep : (i64s [x0, x1, x2, x3, x4, x5, x6, x7, x8, x9, x10, x11, x12, x13, x14, x15, x16, x17, x18, x19, x20]).toArray = #[.int .i64 x0, .int .i64 x1, .int .i64 x2, .int .i64 x3, .int .i64 x4, .int .i64 x5, .int .i64 x6, .int .i64 x7, .int .i64 x8, .int .i64 x9, .int .i64 x10, .int .i64 x11, .int .i64 x12, .int .i64 x13, .int .i64 x14, .int .i64 x15, .int .i64 x16, .int .i64 x17, .int .i64 x18, .int .i64 x19, .int .i64 x20] := rfl
  rw [hrep] at T1
  clear hrep hlen hr ht hcur
  have cb := T1.has.cell (List.mem_cons_self ..)
  have c8 : W1.cell? ⟨b, 8, none⟩ = some (.slice (some ⟨g, 0, none⟩) m m) := cb 8
  have c10 : W1.cell? ⟨b, 10, none⟩ = some (.int .i64 a0) := cb 10
  have f10 := T1.has.free (List.mem_cons_self ..) 10
  clear cb
  have hwr : IntKind.i64.wrap ((a0 : Int) + 1) = ((a0 + 1 : Nat) : Int) := (i64_in _ (by omega)).trans (by omega)
  have hmz : ¬ (m : Int) = 0 := by omega
  have hmz2 : ¬ m = 0 := by omega
  go_still_tail 14, (by kernel_rfl)
  change wpList _ _ _ _ _ W1.drew
  go_wp2_with fail
  have hx : ((a0 : Int) + 1) % (m : Int) = ((a1 : Nat) : Int) := by rw [ha1, Int.natCast_emod, Int.natCast_add]; rfl
  rw [hx]
  refine Code.wp_world (fun W => Turn ((b, .cells (lg g m n0 a0 s0 s1 s2 s3 s4 s5 s6 s7) 69) :: (g, .cells cur 25) :: R) w ((b, .cells (lg g m n0 a1 s0 s1 s2 s3 s4 s5 s6 s7) 69) :: (rb, .cells #[.int .i64 x0, .int .i64 x1, .int .i64 x2, .int .i64 x3, .int .i64 x4, .int .i64 x5, .int .i64 x6, .int .i64 x7, .int .i64 x8, .int .i64 x9, .int .i64 x10, .int .i64 x11, .int .i64 x12, .int .i64 x13, .int .i64 x14, .int .i64 x15, .int .i64 x16, .int .i64 x17, .int .i64 x18, .int .i64 x19, .int .i64 x20] 25) :: (g, .cells cur' 25) :: R) W) (by have h := T1.setCell 10 (.int .i64 a1); rw [lg_set10] at h; exact h.drew) fun W2 T2 => ?_
  have Hn1 := Lib.hid hn1
  clear T1 c8 c10 f10 hwr hmz hmz2 W1 hx hn1 ha1
  have cb := T2.has.cell (List.mem_cons_self ..)
  have c8 : W2.cell? ⟨b, 8, none⟩ = some (.slice (some ⟨g, 0, none⟩) m m) := cb 8
  have c9 : W2.cell? ⟨b, 9, none⟩ = some (.int .i64 n0) := cb 9
  have f9 := T2.has.free (List.mem_cons_self ..) 9
  clear cb
  go_region
  go_upto_if 37 with fail
  go_cut [] (fun wc => Turn ((b, .cells (lg g m n0 a0 s0 s1 s2 s3 s4 s5 s6 s7) 69) :: (g, .cells cur 25) :: R) w ((b, .cells (lg g m n1 a1 s0 s1 s2 s3 s4 s5 s6 s7) 69) :: (rb, .cells #[.int .i64 x0, .int .i64 x1, .int .i64 x2, .int .i64 x3, .int .i64 x4, .int .i64 x5, .int .i64 x6, .int .i64 x7, .int .i64 x8, .int .i64 x9, .int .i64 x10, .int .i64 x11, .int .i64 x12, .int .i64 x13, .int .i64 x14, .int .i64 x15, .int .i64 x16, .int .i64 x17, .int .i64 x18, .int .i64 x19, .int .i64 x20] 25) :: (g, .cells cur' 25) :: R) wc)
  case first =>
    by_cases hlt : n0 < m
    · have hlt' : (n0 : Int) < (m : Int) := by omega
      have hwn : IntKind.i64.wrap ((n0 : Int) + 1) = ((n1 : Nat) : Int) := by rw [Hn1.out, if_pos hlt]; exact (i64_in _ (by omega)).trans (by omega)
      go_wp2
      go_meet
      have h9 := T2.setCell 9 (.int .i64 n1)
      rw [lg_set9] at h9
      exact h9.drew
    · have hlt' : ¬ (n0 : Int) < (m : Int) := by omega
      have hz : n1 = n0 := by rw [Hn1.out, if_neg hlt]
      clear Hn1
      subst hz
      go_wp2
      go_meet
      exact T2.drew
  case rest =>
    clear T2 c8 c9 f9 W2
    have cb := hcut.has.cell (List.mem_cons_self ..)
    have c0 : wc.cell? ⟨b, 0, none⟩ = some (.int .i64 s0) := cb 0
    have f0 := hcut.has.free (List.mem_cons_self ..) 0
    clear cb
    go_wp2_with fail
    refine Code.wp_world (fun W => Turn ((b, .cells (lg g m n0 a0 s0 s1 s2 s3 s4 s5 s6 s7) 69) :: (g, .cells cur 25) :: R) w ((b, .cells (lg g m n1 a1 t0 s1 s2 s3 s4 s5 s6 s7) 69) :: (rb, .cells #[.int .i64 x0, .int .i64 x1, .int .i64 x2, .int .i64 x3, .int .i64 x4, .int .i64 x5, .int .i64 x6, .int .i64 x7, .int .i64 x8, .int .i64 x9, .int .i64 x10, .int .i64 x11, .int .i64 x12, .int .i64 x13, .int .i64 x14, .int .i64 x15, .int .i64 x16, .int .i64 x17, .int .i64 x18, .int .i64 x19, .int .i64 x20] 25) :: (g, .cells cur' 25) :: R) W) (by have h := hcut.setCell 0 (.int .i64 t0); rw [lg_set0] at h; exact h) fun V0 T0 => ?_
    clear hcut c0 f0 wc
    have cb := T0.has.cell (List.mem_cons_self ..)
    have c0 : V0.cell? ⟨b, 1, none⟩ = some (.int .i64 s1) := cb 1
    have f0 := T0.has.free (List.mem_cons_self ..) 1
    have rb_ := T0.has.cell (b := rb) (List.mem_cons_of_mem _ (List.mem_cons_self ..))
    have d0 : V0.cell? ⟨rb, 0, none⟩ = some (.int .i64 x0) := rb_ 0
    have d6 : V0.cell? ⟨rb, 6, none⟩ = some (.int .i64 x6) := rb_ 6
    clear cb rb_
    go_still_tail 18, (by kernel_rfl)
    change wpList _ _ _ _ _ V0.drew
    go_wp2_with fail
    refine Code.wp_world (fun W => Turn ((b, .cells (lg g m n0 a0 s0 s1 s2 s3 s4 s5 s6 s7) 69) :: (g, .cells cur 25) :: R) w ((b, .cells (lg g m n1 a1 t0 t1 s2 s3 s4 s5 s6 s7) 69) :: (rb, .cells #[.int .i64 x0, .int .i64 x1, .int .i64 x2, .int .i64 x3, .int .i64 x4, .int .i64 x5, .int .i64 x6, .int .i64 x7, .int .i64 x8, .int .i64 x9, .int .i64 x10, .int .i64 x11, .int .i64 x12, .int .i64 x13, .int .i64 x14, .int .i64 x15, .int .i64 x16, .int .i64 x17, .int .i64 x18, .int .i64 x19, .int .i64 x20] 25) :: (g, .cells cur' 25) :: R) W) (by have h := T0.setCell 1 (.int .i64 t1); rw [lg_set1] at h; exact h.drew) fun V1 U1 => ?_
    clear T0 c0 f0 d0 d6 V0
    have cb := U1.has.cell (List.mem_cons_self ..)
    have c0 : V1.cell? ⟨b, 2, none⟩ = some (.int .i64 s2) := cb 2
    have f0 := U1.has.free (List.mem_cons_self ..) 2
    have rb_ := U1.has.cell (b := rb) (List.mem_cons_of_mem _ (List.mem_cons_self ..))
    have d3 : V1.cell? ⟨rb, 3, none⟩ = some (.int .i64 x3) := rb_ 3
    have d9 : V1.cell? ⟨rb, 9, none⟩ = some (.int .i64 x9) := rb_ 9
    clear cb rb_
    go_still_tail 18, (by kernel_rfl)
    change wpList _ _ _ _ _ V1.drew
    go_wp2_with fail
    refine Code.wp_world (fun W => Turn ((b, .cells (lg g m n0 a0 s0 s1 s2 s3 s4 s5 s6 s7) 69) :: (g, .cells cur 25) :: R) w ((b, .cells (lg g m n1 a1 t0 t1 t2 s3 s4 s5 s6 s7) 69) :: (rb, .cells #[.int .i64 x0, .int .i64 x1, .int .i64 x2, .int .i64 x3, .int .i64 x4, .int .i64 x5, .int .i64 x6, .int .i64 x7, .int .i64 x8, .int .i64 x9, .int .i64 x10, .int .i64 x11, .int .i64 x12, .int .i64 x13, .int .i64 x14, .int .i64 x15, .int .i64 x16, .int .i64 x17, .int .i64 x18, .int .i64 x19, .int .i64 x20] 25) :: (g, .cells cur' 25) :: R) W) (by have h := U1.setCell 2 (.int .i64 t2); rw [lg_set2] at h; exact h.drew) fun V2 U2 => ?_
    clear U1 c0 f0 d3 d9 V1
    have cb := U2.has.cell (List.mem_cons_self ..)
    have c0 : V2.cell? ⟨b, 3, none⟩ = some (.int .i64 s3) := cb 3
    have f0 := U2.has.free (List.mem_cons_self ..) 3
    have rb_ := U2.has.cell (b := rb) (List.mem_cons_of_mem _ (List.mem_cons_self ..))
    have d15 : V2.cell? ⟨rb, 15, none⟩ = some (.int .i64 x15) := rb_ 15
    clear cb rb_
    go_still_tail 13, (by kernel_rfl)
    change wpList _ _ _ _ _ V2.drew
    go_wp2_with fail
    refine Code.wp_world (fun W => Turn ((b, .cells (lg g m n0 a0 s0 s1 s2 s3 s4 s5 s6 s7) 69) :: (g, .cells cur 25) :: R) w ((b, .cells (lg g m n1 a1 t0 t1 t2 t3 s4 s5 s6 s7) 69) :: (rb, .cells #[.int .i64 x0, .int .i64 x1, .int .i64 x2, .int .i64 x3, .int .i64 x4, .int .i64 x5, .int .i64 x6, .int .i64 x7, .int .i64 x8, .int .i64 x9, .int .i64 x10, .int .i64 x11, .int .i64 x12, .int .i64 x13, .int .i64 x14, .int .i64 x15, .int .i64 x16, .int .i64 x17, .int .i64 x18, .int .i64 x19, .int .i64 x20] 25) :: (g, .cells cur' 25) :: R) W) (by have h := U2.setCell 3 (.int .i64 t3); rw [lg_set3] at h; exact h.drew) fun V3 U3 => ?_
    clear U2 c0 f0 d15 V2
    have cb := U3.has.cell (List.mem_cons_self ..)
    have c0 : V3.cell? ⟨b, 4, none⟩ = some (.int .i64 s4) := cb 4
    have f0 := U3.has.free (List.mem_cons_self ..) 4
    have rb_ := U3.has.cell (b := rb) (List.mem_cons_of_mem _ (List.mem_cons_self ..))
    have d16 : V3.cell? ⟨rb, 16, none⟩ = some (.int .i64 x16) := rb_ 16
    clear cb rb_
    go_still_tail 13, (by kernel_rfl)
    change wpList _ _ _ _ _ V3.drew
    go_wp2_with fail
    refine Code.wp_world (fun W => Turn ((b, .cells (lg g m n0 a0 s0 s1 s2 s3 s4 s5 s6 s7) 69) :: (g, .cells cur 25) :: R) w ((b, .cells (lg g m n1 a1 t0 t1 t2 t3 t4 s5 s6 s7) 69) :: (rb, .cells #[.int .i64 x0, .int .i64 x1, .int .i64 x2, .int .i64 x3, .int .i64 x4, .int .i64 x5, .int .i64 x6, .int .i64 x7, .int .i64 x8, .int .i64 x9, .int .i64 x10, .int .i64 x11, .int .i64 x12, .int .i64 x13, .int .i64 x14, .int .i64 x15, .int .i64 x16, .int .i64 x17, .int .i64 x18, .int .i64 x19, .int .i64 x20] 25) :: (g, .cells cur' 25) :: R) W) (by have h := U3.setCell 4 (.int .i64 t4); rw [lg_set4] at h; exact h.drew) fun V4 U4 => ?_
    clear U3 c0 f0 d16 V3
    have cb := U4.has.cell (List.mem_cons_self ..)
    have c0 : V4.cell? ⟨b, 5, none⟩ = some (.int .i64 s5) := cb 5
    have f0 := U4.has.free (List.mem_cons_self ..) 5
    have rb_ := U4.has.cell (b := rb) (List.mem_cons_of_mem _ (List.mem_cons_self ..))
    have d17 : V4.cell? ⟨rb, 17, none⟩ = some (.int .i64 x17) := rb_ 17
    clear cb rb_
    go_still_tail 13, (by kernel_rfl)
    change wpList _ _ _ _ _ V4.drew
    go_wp2_with fail
    refine Code.wp_world (fun W => Turn ((b, .cells (lg g m n0 a0 s0 s1 s2 s3 s4 s5 s6 s7) 69) :: (g, .cells cur 25) :: R) w ((b, .cells (lg g m n1 a1 t0 t1 t2 t3 t4 t5 s6 s7) 69) :: (rb, .cells #[.int .i64 x0, .int .i64 x1, .int .i64 x2, .int .i64 x3, .int .i64 x4, .int .i64 x5, .int .i64 x6, .int .i64 x7, .int .i64 x8, .int .i64 x9, .int .i64 x10, .int .i64 x11, .int .i64 x12, .int .i64 x13, .int .i64 x14, .int .i64 x15, .int .i64 x16, .int .i64 x17, .int .i64 x18, .int .i64 x19, .int .i64 x20] 25) :: (g, .cells cur' 25) :: R) W) (by have h := U4.setCell 5 (.int .i64 t5); rw [lg_set5] at h; exact h.drew) fun V5 U5 => ?_
    clear U4 c0 f0 d17 V4
    have cb := U5.has.cell (List.mem_cons_self ..)
    have c0 : V5.cell? ⟨b, 6, none⟩ = some (.int .i64 s6) := cb 6
    have f0 := U5.has.free (List.mem_cons_self ..) 6
    have rb_ := U5.has.cell (b := rb) (List.mem_cons_of_mem _ (List.mem_cons_self ..))
    have d18 : V5.cell? ⟨rb, 18, none⟩ = some (.int .i64 x18) := rb_ 18
    clear cb rb_
    go_still_tail 13, (by kernel_rfl)
    change wpList _ _ _ _ _ V5.drew
    go_wp2_with fail
    refine Code.wp_world (fun W => Turn ((b, .cells (lg g m n0 a0 s0 s1 s2 s3 s4 s5 s6 s7) 69) :: (g, .cells cur 25) :: R) w ((b, .cells (lg g m n1 a1 t0 t1 t2 t3 t4 t5 t6 s7) 69) :: (rb, .cells #[.int .i64 x0, .int .i64 x1, .int .i64 x2, .int .i64 x3, .int .i64 x4, .int .i64 x5, .int .i64 x6, .int .i64 x7, .int .i64 x8, .int .i64 x9, .int .i64 x10, .int .i64 x11, .int .i64 x12, .int .i64 x13, .int .i64 x14, .int .i64 x15, .int .i64 x16, .int .i64 x17, .int .i64 x18, .int .i64 x19, .int .i64 x20] 25) :: (g, .cells cur' 25) :: R) W) (by have h := U5.setCell 6 (.int .i64 t6); rw [lg_set6] at h; exact h.drew) fun V6 U6 => ?_
    clear U5 c0 f0 d18 V5
    have cb := U6.has.cell (List.mem_cons_self ..)
    have c0 : V6.cell? ⟨b, 7, none⟩ = some (.int .i64 s7) := cb 7
    have f0 := U6.has.free (List.mem_cons_self ..) 7
    have rb_ := U6.has.cell (b := rb) (List.mem_cons_of_mem _ (List.mem_cons_self ..))
    have d20 : V6.cell? ⟨rb, 20, none⟩ = some (.int .i64 x20) := rb_ 20
    clear cb rb_
    go_still_tail 13, (by kernel_rfl)
    change wpList _ _ _ _ _ V6.drew
    go_wp2_with fail
    go_end0
    refine ⟨⟨_, rfl⟩, cur', hPc, ?_⟩
    have h7 := U6.setCell 7 (.int .i64 t7)
    rw [lg_set7] at h7
    exact (h7.drew.perm (l2 := (rb, .cells #[.int .i64 x0, .int .i64 x1, .int .i64 x2, .int .i64 x3, .int .i64 x4, .int .i64 x5, .int .i64 x6, .int .i64 x7, .int .i64 x8, .int .i64 x9, .int .i64 x10, .int .i64 x11, .int .i64 x12, .int .i64 x13, .int .i64 x14, .int .i64 x15, .int .i64 x16, .int .i64 x17, .int .i64 x18, .int .i64 x19, .int .i64 x20] 25) :: (b, .cells (lg g m n1 a1 t0 t1 t2 t3 t4 t5 t6 t7) 69) :: (g, .cells cur' 25) :: R) (perm_of fun c => by simp only [wt_cons]; omega)).tail

end
end Go.Proofs.YtpnpnajheaijaaaDoor
