/-
  The law LogNil, as a walk: true, and nothing that was there has turned.
  Conditions: the library's variables hold what the program's text lays.
-/
import Derived.Test.YtpnpnajheaijaaaDoorLg23
namespace Go.Proofs.YtpnpnajheaijaaaDoor
open Go Go.RowKit Go.IntWalk

set_option maxRecDepth 100000 in
set_option maxHeartbeats 1600000 in
theorem equalIn_sum (w : World) (r r' : List Int) (h : r.length = 8) (h' : r'.length = 8) :
    (Op.equalIn 10000 38 (.agg (i64s r).toArray) (.agg (i64s r').toArray)).run Tryd.prog w = .ok (r == r') w := by
  obtain ⟨x0, x1, x2, x3, x4, x5, x6, x7, rfl⟩ := split8 h
  obtain ⟨y0, y1, y2, y3, y4, y5, y6, y7, rfl⟩ := split8 h'
  show (Op.equalIn (9999 + 1) _ _ _).run _ _ = _
  have hp : Tryd.prog.stoodInHeld 38 = false := by kernel_rfl
  rw [run_equalIn_struct w 9999 38 _ _ Tryd.underlying38 hp]
  simp [go_sem, i64s]
  iterate 7 refine ite_chain ?_
  exact ite_last

theorem guard_sum : Tryd.prog.eqGuardType Tryd.prog.depth 38 = false := by kernel_rfl

theorem neq_sum_run {o : Oper} {a : Act} {w : World} {x y : Operand} {t : TypeId} (ho : o.op = .binOp .neq 38 x y t) (r r' : List Int) (h : r.length = 8) (h' : r'.length = 8) (hx : a.eval x = .agg (i64s r).toArray) (hy : a.eval y = .agg (i64s r').toArray) :
    (execOp a.eval o).run Tryd.prog w = .ok (.value (.bool (!(r == r')))) w := by
  unfold execOp
  simp only [ho, hx, hy]
  simp [go_sem, run_eqGuard_agg, guard_sum, run_neq_struct, equalIn_sum _ r r' h h']
theorem eql_sum_run {o : Oper} {a : Act} {w : World} {x y : Operand} {t : TypeId} (ho : o.op = .binOp .eql 38 x y t) (r r' : List Int) (h : r.length = 8) (h' : r'.length = 8) (hx : a.eval x = .agg (i64s r).toArray) (hy : a.eval y = .agg (i64s r').toArray) :
    (execOp a.eval o).run Tryd.prog w = .ok (.value (.bool (r == r'))) w := by
  unfold execOp
  simp only [ho, hx, hy]
  simp [go_sem, run_eqGuard_agg, guard_sum, run_eql_struct, equalIn_sum _ r r' h h']

theorem Turn.belowNil {w w' : World} (T : Turn [] w [] w') : Below w.heap.size w w' := T.below

set_option maxRecDepth 100000 in
set_option maxHeartbeats 3200000 in
theorem logNil_any (w : World) (hE : Env w) (r : List Int) (hr : RepOk r) (i : Int) : Calls Tryd.prog 6 #[repVal r, .int .i64 i] w fun e w' => e = .returned (.bool true) ∧ Below w.heap.size w w' := by
  have HE := Lib.hid hE
  have hrl := hr.len
  have hsz := rep_size (n := (i64s r).length) (by rw [i64s_length]; exact hrl)
  have hrg : (w.alloc (.cells (i64s r).toArray 25)).rangeAt w.heap.size 0 (i64s r) := range_of_has ((Turn.refl (Has.nil w)).alloc (.cells (i64s r).toArray 25)).has (List.mem_cons_self ..)
  have HB1 := Lib.hid ((Below.refl w.heap.size w).alloc (Nat.le_refl _) (.cells (i64s r).toArray 25))
  have hnil : ∀ W : World, KeptAt W.heap.size W none 0 [] := fun W => .inl ⟨rfl, rfl, rfl⟩
  have Hnil := Lib.hid hnil
  have Hr0 := Lib.hid hr
  have Hrg := Lib.hid hrg
  clear hE hr hnil hrg
  unfold repVal
  go_enter Tryd.func6, Tryd.ntmps6
  go_wp2_with fail
  refine (at_out _ (Hnil.out _) i (by omega)).mono ?_
  rintro e wa ⟨za, hza, rfl, hBa⟩
  have hth1 := ((Turn.refl (Has.nil wa)).alloc (.cells (i64s zeros).toArray 25)).has.there (b := wa.heap.size) (c := (i64s zeros).toArray) (e := 25) (List.mem_cons_self ..) 0 (i64s za).toArray.size (by rw [List.size_toArray, i64s_length, hza]; decide)
  have hsz1 := rep_size (n := (i64s za).toArray.size) (by rw [List.size_toArray, i64s_length]; exact hza)
  have hone1 := i64s_oneCell za
  have hl1 := (laid_rep wa za hza).1
  have HB2 := Lib.hid (Below.next (Below.next HB1.out hBa) hl1)
  have Hrg2 := Lib.hid (range_below (range_below Hrg.out hBa) hl1)
  clear hBa hl1
  go_upto_region 3 with (first | (refine wpList_store_mid rfl 25 _ _ rfl _ 0 (i64s za).toArray rfl rfl hth1 hsz1 hone1 ?_) | fail)
  refine Code.wp_world (fun W => Below w.heap.size w W ∧ W.rangeAt w.heap.size 0 (i64s r)) ⟨HB2.out, Hrg2.out⟩ fun W3 hW3 => ?_
  obtain ⟨hB3, hr3⟩ := hW3
  obtain ⟨x0, x1, x2, x3, x4, x5, x6, x7, x8, x9, x10, x11, x12, x13, x14, x15, x16, x17, x18, x19, x20, rfl⟩ := Hr0.out.split
  replace hr3 : W3.rangeAt w.heap.size 0 [.int .i64 x0, .int .i64 x1, .int .i64 x2, .int .i64 x3, .int .i64 x4, .int .i64 x5, .int .i64 x6, .int .i64 x7, .int .i64 x8, .int .i64 x9, .int .i64 x10, .int .i64 x11, .int .i64 x12, .int .i64 x13, .int .i64 x14, .int .i64 x15, .int .i64 x16, .int .i64 x17, .int .i64 x18, .int .i64 x19, .int .i64 x20] := hr3
  replace hsz : (Tryd.prog.info? 25).map (·.size) = some ([.int .i64 x0, .int .i64 x1, .int .i64 x2, .int .i64 x3, .int .i64 x4, .int .i64 x5, .int .i64 x6, .int .i64 x7, .int .i64 x8, .int .i64 x9, .int .i64 x10, .int .i64 x11, .int .i64 x12, .int .i64 x13, .int .i64 x14, .int .i64 x15, .int .i64 x16, .int .i64 x17, .int .i64 x18, .int .i64 x19, .int .i64 x20] : List Value).length := hsz
  have HB3 := Lib.hid hB3
  have HB4 := Lib.hid (Below.next hB3 ((Below.refl W3.heap.size W3).alloc (Nat.le_refl _) (.cells #[.int .i64 x0, .int .i64 x1, .int .i64 x2, .int .i64 x3, .int .i64 x4, .int .i64 x5, .int .i64 x6, .int .i64 x7, .int .i64 x8, .int .i64 x9, .int .i64 x10, .int .i64 x11, .int .i64 x12, .int .i64 x13, .int .i64 x14, .int .i64 x15, .int .i64 x16, .int .i64 x17, .int .i64 x18, .int .i64 x19, .int .i64 x20] 25)))
  clear hB3 hth1 hsz1 hone1 HB2 Hrg2 Hrg HB1 hrl
  go_wp2_with (first
    | (refine wpList_load_mid rfl 25 _ rfl w.heap.size 0 rfl [.int .i64 x0, .int .i64 x1, .int .i64 x2, .int .i64 x3, .int .i64 x4, .int .i64 x5, .int .i64 x6, .int .i64 x7, .int .i64 x8, .int .i64 x9, .int .i64 x10, .int .i64 x11, .int .i64 x12, .int .i64 x13, .int .i64 x14, .int .i64 x15, .int .i64 x16, .int .i64 x17, .int .i64 x18, .int .i64 x19, .int .i64 x20] _ hr3 Tryd.underlying25 rfl hsz ?_)
    | (go_at_call 13; refine (lAdd_nil _ _ _ _).mono ?_; rintro e w' ⟨rfl, hw⟩; rw [hw]; clear hw w')
    | (go_at_call 19; refine (len_nil _).mono ?_; rintro e w' ⟨rfl, hw⟩; rw [hw]; clear hw w')
    | (go_at_call 14; refine (sum_nil (R := []) _ (Has.nil _)).mono ?_; rintro e w5 ⟨rfl, T5⟩; have HB5 := Lib.hid (Below.next HB4.out T5.below); clear T5)
    | (refine wpList_wp (by rfl) (wp_val ((eql_sum_run rfl noSum noSum rfl rfl rfl rfl).trans (by rw [beq_self_eq_true])) ?_))
    | (go_at_call 20; refine (lLines_any none 0 [] w5 (HE.out.below HB5.out) (Hnil.out w5)).mono ?_; rintro e w6 ⟨la, lcap, lr, rfl, hrow6, T6⟩; have HB6 := Lib.hid (Below.next HB5.out T6.below); clear T6 hrow6)
    | (go_at_call 7; refine (alive34 w6 (HE.out.below HB6.out)).mono ?_; rintro e w7 ⟨rfl, hB7⟩)
    | fail)
  go_ret
  exact ⟨rfl, Below.next HB6.out hB7⟩
end Go.Proofs.YtpnpnajheaijaaaDoor
