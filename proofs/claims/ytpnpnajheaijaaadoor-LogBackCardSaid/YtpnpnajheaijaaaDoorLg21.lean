/-
  The law: two reports compared.
  Conditions: the reports' numbers are twenty-one.
-/
import Derived.Test.YtpnpnajheaijaaaDoorLg20
namespace Go.Proofs.YtpnpnajheaijaaaDoor
open Go Go.RowKit Go.IntWalk

theorem ite_chain {w : World} {a b : Int} {c : Bool} {X : Result Bool} (h : X = .ok c w) : (if a = b then X else .ok false w) = .ok ((a == b) && c) w := by
  by_cases hab : a = b
  · rw [if_pos hab, h, beq_iff_eq.2 hab, Bool.true_and]
  · rw [if_neg hab, beq_eq_false_iff_ne.2 hab, Bool.false_and]
theorem ite_last {w : World} {a b : Int} : (if a = b then Result.ok true w else .ok false w) = .ok (a == b) w := by
  by_cases hab : a = b
  · rw [if_pos hab, beq_iff_eq.2 hab]
  · rw [if_neg hab, beq_eq_false_iff_ne.2 hab]

set_option maxRecDepth 100000 in
set_option maxHeartbeats 1600000 in
theorem equalIn_rep (w : World) (r r' : List Int) (h : r.length = 21) (h' : r'.length = 21) :
    (Op.equalIn 10000 25 (.agg (i64s r).toArray) (.agg (i64s r').toArray)).run Tryd.prog w = .ok (r == r') w := by
  obtain ⟨x0, x1, x2, x3, x4, x5, x6, x7, x8, x9, x10, x11, x12, x13, x14, x15, x16, x17, x18, x19, x20, rfl⟩ : ∃ x0 x1 x2 x3 x4 x5 x6 x7 x8 x9 x10 x11 x12 x13 x14 x15 x16 x17 x18 x19 x20 : Int, r = [x0, x1, x2, x3, x4, x5, x6, x7, x8, x9, x10, x11, x12, x13, x14, x15, x16, x17, x18, x19, x20] := by
    match r, h with
    | [x0, x1, x2, x3, x4, x5, x6, x7, x8, x9, x10, x11, x12, x13, x14, x15, x16, x17, x18, x19, x20], _ => exact ⟨_, _, _, _, _, _, _, _, _, _, _, _, _, _, _, _, _, _, _, _, _, rfl⟩
  obtain ⟨y0, y1, y2, y3, y4, y5, y6, y7, y8, y9, y10, y11, y12, y13, y14, y15, y16, y17, y18, y19, y20, rfl⟩ : ∃ x0 x1 x2 x3 x4 x5 x6 x7 x8 x9 x10 x11 x12 x13 x14 x15 x16 x17 x18 x19 x20 : Int, r' = [x0, x1, x2, x3, x4, x5, x6, x7, x8, x9, x10, x11, x12, x13, x14, x15, x16, x17, x18, x19, x20] := by
    match r', h' with
    | [x0, x1, x2, x3, x4, x5, x6, x7, x8, x9, x10, x11, x12, x13, x14, x15, x16, x17, x18, x19, x20], _ => exact ⟨_, _, _, _, _, _, _, _, _, _, _, _, _, _, _, _, _, _, _, _, _, rfl⟩
  show (Op.equalIn (9999 + 1) _ _ _).run _ _ = _
  have hp : Tryd.prog.stoodInHeld 25 = false := by kernel_rfl
  have hp2 : Tryd.prog.stoodInHeld 23 = false := by kernel_rfl
  rw [run_equalIn_struct w 9999 25 _ _ Tryd.underlying25 hp]
  simp [go_sem, i64s]
  iterate 20 refine ite_chain ?_
  exact ite_last

theorem guard_rep : Tryd.prog.eqGuardType Tryd.prog.depth 25 = false := by kernel_rfl

/-- '!=' of two reports; '=='. -/
theorem neq_rep_run {o : Oper} {a : Act} {w : World} {x y : Operand} {t : TypeId} (ho : o.op = .binOp .neq 25 x y t) (r r' : List Int) (h : r.length = 21) (h' : r'.length = 21) (hx : a.eval x = .agg (i64s r).toArray) (hy : a.eval y = .agg (i64s r').toArray) :
    (execOp a.eval o).run Tryd.prog w = .ok (.value (.bool (!(r == r')))) w := by
  unfold execOp
  simp only [ho, hx, hy]
  simp [go_sem, run_eqGuard_agg, guard_rep, run_neq_struct, equalIn_rep _ r r' h h']
theorem eql_rep_run {o : Oper} {a : Act} {w : World} {x y : Operand} {t : TypeId} (ho : o.op = .binOp .eql 25 x y t) (r r' : List Int) (h : r.length = 21) (h' : r'.length = 21) (hx : a.eval x = .agg (i64s r).toArray) (hy : a.eval y = .agg (i64s r').toArray) :
    (execOp a.eval o).run Tryd.prog w = .ok (.value (.bool (r == r'))) w := by
  unfold execOp
  simp only [ho, hx, hy]
  simp [go_sem, run_eqGuard_agg, guard_rep, run_eql_struct, equalIn_rep _ r r' h h']
end Go.Proofs.YtpnpnajheaijaaaDoor
