/-
  The law: alive.
  Conditions: the library's variables hold what the program's text lays.
-/
import Derived.Test.YtpnpnajheaijaaaDoorLg22
namespace Go.Proofs.YtpnpnajheaijaaaDoor
open Go Go.RowKit Go.IntWalk

theorem wpList_wp {P : Program} {ops : Array Oper} {Q : Exit → Act → World → Prop} {o : Oper} {rest : List Oper} {a : Act} {w : World} (hw : Region.wanted o (yielded ops a.tmps) = true) (h : o.wp P a w (wpList P ops Q rest) Q) : wpList P ops Q (o :: rest) a w := by
  unfold wpList
  rw [if_pos hw]
  exact .inl h

theorem wp_val {P : Program} {op : Oper} {a : Act} {w : World} {K : Act → World → Prop} {Q : Exit → Act → World → Prop} {v : Value} (hr : (execOp a.eval op).run P w = .ok (.value v) w) (h : K (a.put op.dst v) w) : op.wp P a w K Q := by
  unfold Oper.wp
  rw [hr]
  exact h

theorem field_sum {o : Oper} {a : Act} {w : World} {x : Operand} (k : Nat) (hk : k < 8) (ho : o.op = .field 38 x k) (x0 x1 x2 x3 x4 x5 x6 x7 : Int) (hx : a.eval x = .agg #[.int .i64 x0, .int .i64 x1, .int .i64 x2, .int .i64 x3, .int .i64 x4, .int .i64 x5, .int .i64 x6, .int .i64 x7]) :
    (execOp a.eval o).run Tryd.prog w = .ok (.value (.int .i64 (([x0, x1, x2, x3, x4, x5, x6, x7] : List Int)[k]?.getD 0))) w := by
  unfold execOp
  simp only [ho, hx]
  match k, hk with
  | 0, _ => simp [go_sem, Instr.field, asAgg, run_underlying Tryd.underlying38]
  | 1, _ => simp [go_sem, Instr.field, asAgg, run_underlying Tryd.underlying38]
  | 2, _ => simp [go_sem, Instr.field, asAgg, run_underlying Tryd.underlying38]
  | 3, _ => simp [go_sem, Instr.field, asAgg, run_underlying Tryd.underlying38]
  | 4, _ => simp [go_sem, Instr.field, asAgg, run_underlying Tryd.underlying38]
  | 5, _ => simp [go_sem, Instr.field, asAgg, run_underlying Tryd.underlying38]
  | 6, _ => simp [go_sem, Instr.field, asAgg, run_underlying Tryd.underlying38]
  | 7, _ => simp [go_sem, Instr.field, asAgg, run_underlying Tryd.underlying38]

theorem itoa_0 : Lib.itoa 0 = [48] := by simp [Lib.itoa, Lib.decDigits]
theorem itoa_m7 : Lib.itoa (-7) = [45, 55] := by simp [Lib.itoa, Lib.decDigits]
theorem line_zeros : line zeros = [103, 99, 32, 48, 32, 48, 32, 48, 32, 48, 32, 48, 32, 48, 32, 48, 32, 48, 32, 48, 32, 48, 32, 48, 32, 48, 32, 48, 32, 48, 32, 48, 32, 48, 32, 48, 32, 48, 32, 48, 32, 48, 32, 48] := by
  unfold line zeros
  simp only [List.map_cons, List.map_nil, itoa_0]
  rfl
theorem line_m7 : line [0, 0, 0, 0, 0, 0, 0, 0, 0, 0, 0, 0, 0, 0, 0, 0, 0, 0, 0, 0, -7] = [103, 99, 32, 48, 32, 48, 32, 48, 32, 48, 32, 48, 32, 48, 32, 48, 32, 48, 32, 48, 32, 48, 32, 48, 32, 48, 32, 48, 32, 48, 32, 48, 32, 48, 32, 48, 32, 48, 32, 48, 32, 48, 32, 45, 55] := by
  unfold line
  simp only [List.map_cons, List.map_nil, itoa_0, itoa_m7]
  rfl
theorem read_m7 : readF [103, 99, 32, 48, 32, 48, 32, 48, 32, 48, 32, 48, 32, 48, 32, 48, 32, 48, 32, 48, 32, 48, 32, 48, 32, 48, 32, 48, 32, 48, 32, 48, 32, 48, 32, 48, 32, 48, 32, 48, 32, 48, 32, 45, 55] = some [0, 0, 0, 0, 0, 0, 0, 0, 0, 0, 0, 0, 0, 0, 0, 0, 0, 0, 0, 0, -7] := by
  rw [← line_m7]
  exact readF_line _ rfl (by unfold I64; decide)
theorem read_gc0 : readF [103, 99, 32, 48] = none := by
  unfold readF
  rw [if_neg]
  intro h
  exact absurd h.2.1 (by decide)

theorem rep1 : RepOk [0, 0, 0, 0, 0, 0, 0, 0, 0, 0, 0, 0, 1, 0, 0, 0, 0, 0, 0, 0, 0] := ⟨rfl, by unfold I64; decide⟩
theorem rep2 : RepOk [0, 0, 0, 0, 0, 0, 0, 0, 0, 0, 0, 0, 2, 0, 0, 0, 0, 0, 0, 0, 0] := ⟨rfl, by unfold I64; decide⟩
theorem rep3 : RepOk [0, 0, 0, 0, 0, 0, 0, 0, 0, 0, 0, 0, 3, 0, 0, 0, 0, 0, 0, 0, 0] := ⟨rfl, by unfold I64; decide⟩
theorem zeros_ok : RepOk zeros := ⟨rfl, by unfold I64; decide⟩
theorem sum3 : sumOf [[0, 0, 0, 0, 0, 0, 0, 0, 0, 0, 0, 0, 1, 0, 0, 0, 0, 0, 0, 0, 0], [0, 0, 0, 0, 0, 0, 0, 0, 0, 0, 0, 0, 2, 0, 0, 0, 0, 0, 0, 0, 0], [0, 0, 0, 0, 0, 0, 0, 0, 0, 0, 0, 0, 3, 0, 0, 0, 0, 0, 0, 0, 0]] = [3, 0, 0, 0, 0, 0, 0, 0] := by decide
theorem kept3 : keptOf 2 [[0, 0, 0, 0, 0, 0, 0, 0, 0, 0, 0, 0, 1, 0, 0, 0, 0, 0, 0, 0, 0], [0, 0, 0, 0, 0, 0, 0, 0, 0, 0, 0, 0, 2, 0, 0, 0, 0, 0, 0, 0, 0], [0, 0, 0, 0, 0, 0, 0, 0, 0, 0, 0, 0, 3, 0, 0, 0, 0, 0, 0, 0, 0]] = [[0, 0, 0, 0, 0, 0, 0, 0, 0, 0, 0, 0, 2, 0, 0, 0, 0, 0, 0, 0, 0], [0, 0, 0, 0, 0, 0, 0, 0, 0, 0, 0, 0, 3, 0, 0, 0, 0, 0, 0, 0, 0]] := rfl

theorem LogIs.kept {b m : Nat} {xs : List (List Int)} {l R : List Blk} {w : World} (h : LogIs b m xs l) (h0 : 1 ≤ m) (hm : m ≤ 1024) (hx : ∀ r ∈ xs, RepOk r) (hH : Has w (l ++ R)) : KeptAt w.heap.size w (some ⟨b, 0, none⟩) (min xs.length m) (keptOf m xs) := by
  obtain ⟨hb, g, hg, hl⟩ := h.hasK h0 hm hx hH
  exact .inr ⟨b, g, m, _, rfl, hb, hg, hl⟩

theorem read_below (W : World) (hE : Env W) (s : ByteArray) (hs : s.size ≤ 4096) : Calls Tryd.prog 8 #[.string s] W fun e w' => e = .returned (.tuple #[repVal ((readF s.data.toList).getD zeros), .int .i64 (if (readF s.data.toList).isSome then 0 else 7)]) ∧ Below W.heap.size W w' :=
  (read_any hE (Turn.refl (Has.nil W)) s hs).mono fun _ _ ⟨h1, h2⟩ => ⟨h1, h2.below⟩
theorem rread_below (W : World) (hE : Env W) (s : ByteArray) (hs : s.size ≤ 4096) : Calls Tryd.prog 9 #[.string s] W fun e w' => e = .returned (.tuple #[repVal ((readF s.data.toList).getD zeros), .int .i64 (if (readF s.data.toList).isSome then 0 else 7)]) ∧ Below W.heap.size W w' :=
  (rread_any hE (Turn.refl (Has.nil W)) s hs).mono fun _ _ ⟨h1, h2⟩ => ⟨h1, h2.below⟩

theorem sum_below {b m : Nat} {xs : List (List Int)} {l R : List Blk} (w : World) (h : LogIs b m xs l) (hH : Has w (l ++ R)) :
    Calls Tryd.prog 14 #[.pointer (some ⟨b, 0, none⟩)] w fun e w' => e = .returned (repVal (sumOf xs)) ∧ Below w.heap.size w w' :=
  (sum_any w h hH).mono fun _ _ ⟨h1, T⟩ => ⟨h1, ⟨T.os, T.tape, T.output, T.size, fun k hk => Turn.keeps (A := []) T hH k hk⟩⟩

theorem Has.below {w w' : World} {l : List Blk} (h : Has w l) (hB : Below w.heap.size w w') : Has w' l := ⟨h.nd, fun b o hm => (hB.block b (h.lt (mem_keys.2 ⟨o, hm⟩))).trans (h.own b o hm)⟩

set_option maxRecDepth 100000 in
set_option maxHeartbeats 3200000 in
theorem alive34 (w : World) (hE : Env w) : Calls Tryd.prog 7 #[] w fun e w' => e = .returned (.bool true) ∧ Below w.heap.size w w' := by
  have HE := Lib.hid hE
  clear hE
  go_enter Tryd.func7, Tryd.ntmps7
  go_wp2_with fail
  refine (new_any w 2 (by omega) (by omega) (Has.nil w)).mono ?_
  rintro e w1 ⟨b, l0, rfl, L0, T0⟩
  have T1 := (T0.alloc (.cells (reps [[0, 0, 0, 0, 0, 0, 0, 0, 0, 0, 0, 0, 1, 0, 0, 0, 0, 0, 0, 0, 0], [0, 0, 0, 0, 0, 0, 0, 0, 0, 0, 0, 0, 2, 0, 0, 0, 0, 0, 0, 0, 0], [0, 0, 0, 0, 0, 0, 0, 0, 0, 0, 0, 0, 3, 0, 0, 0, 0, 0, 0, 0, 0]]).toArray 25)).perm (l2 := l0 ++ [(w1.heap.size, .cells (reps [[0, 0, 0, 0, 0, 0, 0, 0, 0, 0, 0, 0, 1, 0, 0, 0, 0, 0, 0, 0, 0], [0, 0, 0, 0, 0, 0, 0, 0, 0, 0, 0, 0, 2, 0, 0, 0, 0, 0, 0, 0, 0], [0, 0, 0, 0, 0, 0, 0, 0, 0, 0, 0, 0, 3, 0, 0, 0, 0, 0, 0, 0, 0]]).toArray 25)]) (by generalize (reps [[0, 0, 0, 0, 0, 0, 0, 0, 0, 0, 0, 0, 1, 0, 0, 0, 0, 0, 0, 0, 0], [0, 0, 0, 0, 0, 0, 0, 0, 0, 0, 0, 0, 2, 0, 0, 0, 0, 0, 0, 0, 0], [0, 0, 0, 0, 0, 0, 0, 0, 0, 0, 0, 0, 3, 0, 0, 0, 0, 0, 0, 0, 0]]).toArray = Z; exact perm_of fun c => by simp; omega)
  have HT1 := Lib.hid T1
  have HL0 := Lib.hid L0
  clear T1 T0 L0
  go_wp2_with fail
  refine (lAdd_any (xs := []) (R := [(w1.heap.size, .cells (reps [[0, 0, 0, 0, 0, 0, 0, 0, 0, 0, 0, 0, 1, 0, 0, 0, 0, 0, 0, 0, 0], [0, 0, 0, 0, 0, 0, 0, 0, 0, 0, 0, 0, 2, 0, 0, 0, 0, 0, 0, 0, 0], [0, 0, 0, 0, 0, 0, 0, 0, 0, 0, 0, 0, 3, 0, 0, 0, 0, 0, 0, 0, 0]]).toArray 25)]) _ HL0.out (by omega) (by omega) HT1.out.has _ 3 3 (by omega) [[0, 0, 0, 0, 0, 0, 0, 0, 0, 0, 0, 0, 1, 0, 0, 0, 0, 0, 0, 0, 0], [0, 0, 0, 0, 0, 0, 0, 0, 0, 0, 0, 0, 2, 0, 0, 0, 0, 0, 0, 0, 0], [0, 0, 0, 0, 0, 0, 0, 0, 0, 0, 0, 0, 3, 0, 0, 0, 0, 0, 0, 0, 0]] (by intro r hr; simp at hr; rcases hr with rfl | rfl | rfl; exact rep1; exact rep2; exact rep3)
    (fun W l' T => (Row.lit (e := 25) (size := 21) w1.heap.size (reps [[0, 0, 0, 0, 0, 0, 0, 0, 0, 0, 0, 0, 1, 0, 0, 0, 0, 0, 0, 0, 0], [0, 0, 0, 0, 0, 0, 0, 0, 0, 0, 0, 0, 2, 0, 0, 0, 0, 0, 0, 0, 0], [0, 0, 0, 0, 0, 0, 0, 0, 0, 0, 0, 0, 3, 0, 0, 0, 0, 0, 0, 0, 0]]).toArray 3 rfl (by unfold maxLen; omega)).src (R := l') (T.has.perm (by generalize (reps [[0, 0, 0, 0, 0, 0, 0, 0, 0, 0, 0, 0, 1, 0, 0, 0, 0, 0, 0, 0, 0], [0, 0, 0, 0, 0, 0, 0, 0, 0, 0, 0, 0, 2, 0, 0, 0, 0, 0, 0, 0, 0], [0, 0, 0, 0, 0, 0, 0, 0, 0, 0, 0, 0, 3, 0, 0, 0, 0, 0, 0, 0, 0]]).toArray = Z; exact perm_of fun c => by simp; omega)))).mono ?_
  rintro e w3 ⟨rfl, l3, L3, T3⟩
  have HT3 := Lib.hid (HT1.out.trans T3)
  have HL3 := Lib.hid L3
  have hK := L3.kept (by omega) (by omega) (by intro r hr; simp at hr; rcases hr with rfl | rfl | rfl; exact rep1; exact rep2; exact rep3) T3.has
  have HK := Lib.hid (show KeptAt w3.heap.size w3 (some ⟨b, 0, none⟩) 2 [[0, 0, 0, 0, 0, 0, 0, 0, 0, 0, 0, 0, 2, 0, 0, 0, 0, 0, 0, 0, 0], [0, 0, 0, 0, 0, 0, 0, 0, 0, 0, 0, 0, 3, 0, 0, 0, 0, 0, 0, 0, 0]] from hK)
  clear T3 L3 hK HT1 HL0
  go_wp2_with fail
  obtain ⟨ra, Hra⟩ : ∃ ra : List Int, Hid (ra = [0, 0, 0, 0, 0, 0, 0, 0, 0, 0, 0, 0, 2, 0, 0, 0, 0, 0, 0, 0, 0]) := ⟨_, Lib.hid rfl⟩
  have hra : ra.length = 21 := by rw [Hra.out]; rfl
  refine (at_kept w3 HK.out 0 ra (by rw [Hra.out]; rfl)).mono ?_
  rintro e wa ⟨rfl, hBa⟩
  have hth1 := ((Turn.refl (Has.nil wa)).alloc (.cells (i64s zeros).toArray 25)).has.there (b := wa.heap.size) (c := (i64s zeros).toArray) (e := 25) (List.mem_cons_self ..) 0 (i64s ra).toArray.size (by rw [List.size_toArray, i64s_length, hra]; decide)
  have hsz1 := rep_size (n := (i64s ra).toArray.size) (by rw [List.size_toArray, i64s_length]; exact hra)
  have hone1 := i64s_oneCell ra
  obtain ⟨hl1, hr1⟩ := laid_rep wa ra hra
  have HBa := Lib.hid (Below.next hBa hl1)
  have Hr1 := Lib.hid hr1
  have Hza := Lib.hid (Nat.le_refl wa.heap.size)
  clear hBa hl1 hr1
  go_wp2_with (first | (refine wpList_store_mid rfl 25 _ _ rfl _ 0 (i64s ra).toArray rfl rfl hth1 hsz1 hone1 ?_) | fail)
  refine (at_out _ (HK.out.later HBa.out HBa.out.size) 2 (.inr (Int.le_refl _))).mono ?_
  rintro e wb ⟨zb, hzb, rfl, hBb⟩
  have hth2 := ((Turn.refl (Has.nil wb)).alloc (.cells (i64s zeros).toArray 25)).has.there (b := wb.heap.size) (c := (i64s zeros).toArray) (e := 25) (List.mem_cons_self ..) 0 (i64s zb).toArray.size (by rw [List.size_toArray, i64s_length, hzb]; decide)
  have hsz2 := rep_size (n := (i64s zb).toArray.size) (by rw [List.size_toArray, i64s_length]; exact hzb)
  have hone2 := i64s_oneCell zb
  have Hr2 := Lib.hid (range_below Hr1.out hBb)
  have hlb := (laid_rep wb zb hzb).1
  have HBb := Lib.hid (Below.next (Below.next HBa.out hBb) hlb)
  have Hr3 := Lib.hid (range_below Hr2.out hlb)
  clear hBb hlb Hr1 Hr2 HBa hth1 hsz1 hone1
  go_wp2_with (first | (refine wpList_store_mid rfl 25 _ _ rfl _ 0 (i64s zb).toArray rfl rfl hth2 hsz2 hone2 ?_) | fail)
  refine (new_bad _ 0 (.inl (by omega))).mono ?_
  rintro e wc ⟨rfl, hwc⟩
  have HBc := Lib.hid (show Below w3.heap.size w3 wc by rw [hwc]; exact HBb.out)
  have Hr3c := Lib.hid (show wc.rangeAt wa.heap.size 0 (i64s ra) by rw [hwc]; exact Hr3.out)
  clear hwc HBb Hr3
  go_wp2_with fail
  obtain ⟨rr, Hrr⟩ : ∃ rr : List Int, Hid (rr = [0, 0, 0, 0, 0, 0, 0, 0, 0, 0, 0, 0, 0, 0, 0, 0, 0, 0, 0, 0, -7]) := ⟨_, Lib.hid rfl⟩
  have hrr : rr.length = 21 := by rw [Hrr.out]; rfl
  have hrd := read_below wc ((HE.out.below (HT3.out.sub (List.nil_sublist _)).below).below HBc.out) ⟨#[103, 99, 32, 48, 32, 48, 32, 48, 32, 48, 32, 48, 32, 48, 32, 48, 32, 48, 32, 48, 32, 48, 32, 48, 32, 48, 32, 48, 32, 48, 32, 48, 32, 48, 32, 48, 32, 48, 32, 48, 32, 48, 32, 45, 55]⟩ (by decide)
  rw [show readF (⟨#[103, 99, 32, 48, 32, 48, 32, 48, 32, 48, 32, 48, 32, 48, 32, 48, 32, 48, 32, 48, 32, 48, 32, 48, 32, 48, 32, 48, 32, 48, 32, 48, 32, 48, 32, 48, 32, 48, 32, 48, 32, 48, 32, 45, 55]⟩ : ByteArray).data.toList = some rr by rw [Hrr.out]; exact read_m7] at hrd
  replace hrd : Calls Tryd.prog 8 #[.string ⟨#[103, 99, 32, 48, 32, 48, 32, 48, 32, 48, 32, 48, 32, 48, 32, 48, 32, 48, 32, 48, 32, 48, 32, 48, 32, 48, 32, 48, 32, 48, 32, 48, 32, 48, 32, 48, 32, 48, 32, 48, 32, 48, 32, 45, 55]⟩] wc fun e w' => e = .returned (.tuple #[.agg (i64s rr).toArray, .int .i64 0]) ∧ Below wc.heap.size wc w' := hrd
  refine hrd.mono ?_
  clear hrd
  rintro e wd ⟨rfl, hBd⟩
  have hth3 := ((Turn.refl (Has.nil wd)).alloc (.cells (i64s zeros).toArray 25)).has.there (b := wd.heap.size) (c := (i64s zeros).toArray) (e := 25) (List.mem_cons_self ..) 0 (i64s rr).toArray.size (by rw [List.size_toArray, i64s_length, hrr]; decide)
  have hsz3 := rep_size (n := (i64s rr).toArray.size) (by rw [List.size_toArray, i64s_length]; exact hrr)
  have hone3 := i64s_oneCell rr
  obtain ⟨hl4, hr4⟩ := laid_rep wd rr hrr
  have Hr5 := Lib.hid (range_below (range_below Hr3c.out hBd) hl4)
  have HBd := Lib.hid (Below.next (Below.next HBc.out hBd) hl4)
  have Hq1 := Lib.hid hr4
  clear hBd hl4 hr4 Hr3c HBc hth2 hsz2 hone2
  go_wp2_with (first | (refine wpList_store_mid rfl 25 _ _ rfl _ 0 (i64s rr).toArray rfl rfl hth3 hsz3 hone3 ?_) | fail)
  have hrd := fun W (h : Env W) => read_below W h ⟨#[103, 99, 32, 48]⟩ (by decide)
  rw [show readF (⟨#[103, 99, 32, 48]⟩ : ByteArray).data.toList = none from read_gc0] at hrd
  have hrd2 : ∀ W, Env W → Calls Tryd.prog 8 #[.string ⟨#[103, 99, 32, 48]⟩] W fun e w' => ∃ z : List Int, z.length = 21 ∧ e = .returned (.tuple #[.agg (i64s z).toArray, .int .i64 7]) ∧ Below W.heap.size W w' := fun W h => (hrd W h).mono fun e w' ⟨h1, h2⟩ => ⟨zeros, rfl, h1, h2⟩
  clear hrd
  refine (hrd2 _ ((HE.out.below (HT3.out.sub (List.nil_sublist _)).below).below HBd.out)).mono ?_
  clear hrd2
  rintro e we ⟨ze, hze, rfl, hBe⟩
  have hth4 := ((Turn.refl (Has.nil we)).alloc (.cells (i64s zeros).toArray 25)).has.there (b := we.heap.size) (c := (i64s zeros).toArray) (e := 25) (List.mem_cons_self ..) 0 (i64s ze).toArray.size (by rw [List.size_toArray, i64s_length, hze]; decide)
  have hsz4 := rep_size (n := (i64s ze).toArray.size) (by rw [List.size_toArray, i64s_length]; exact hze)
  have hone4 := i64s_oneCell ze
  obtain ⟨hl6, hr6⟩ := laid_rep we ze hze
  have Hr7 := Lib.hid (range_below (range_below Hr5.out hBe) hl6)
  have Hq2 := Lib.hid (range_below (range_below Hq1.out hBe) hl6)
  have HBe := Lib.hid (Below.next (Below.next HBd.out hBe) hl6)
  clear hBe hl6 hr6 Hr5 Hq1 HBd hth3 hsz3 hone3
  go_upto_region 9 with (first | (refine wpList_store_mid rfl 25 _ _ rfl _ 0 (i64s ze).toArray rfl rfl hth4 hsz4 hone4 ?_) | fail)
  refine Code.wp_world (fun W => Below w3.heap.size w3 W ∧ W.rangeAt wa.heap.size 0 (i64s ra) ∧ W.rangeAt wd.heap.size 0 (i64s rr)) ⟨HBe.out, Hr7.out, Hq2.out⟩ fun W5 hW5 => ?_
  obtain ⟨hB5, hr5, hq5⟩ := hW5
  have c12 : W5.cell? ⟨wa.heap.size, 12, none⟩ = some (.int .i64 2) := by
    have h := hr5 12 (.int .i64 2) (by rw [Hra.out]; rfl)
    rwa [Nat.zero_add] at h
  have HB5 := Lib.hid hB5
  have hH5 : Has W5 (l3 ++ [(w1.heap.size, .cells (reps [[0, 0, 0, 0, 0, 0, 0, 0, 0, 0, 0, 0, 1, 0, 0, 0, 0, 0, 0, 0, 0], [0, 0, 0, 0, 0, 0, 0, 0, 0, 0, 0, 0, 2, 0, 0, 0, 0, 0, 0, 0, 0], [0, 0, 0, 0, 0, 0, 0, 0, 0, 0, 0, 0, 3, 0, 0, 0, 0, 0, 0, 0, 0]]).toArray 25)]) := HT3.out.has.below hB5
  have hsum := sum_below W5 HL3.out hH5
  rw [List.nil_append, sum3] at hsum
  replace hsum : Calls Tryd.prog 14 #[.pointer (some ⟨b, 0, none⟩)] W5 fun e w' => e = .returned (.agg #[.int .i64 3, .int .i64 0, .int .i64 0, .int .i64 0, .int .i64 0, .int .i64 0, .int .i64 0, .int .i64 0]) ∧ Below W5.heap.size W5 w' := hsum
  have Hsum := Lib.hid hsum
  have Hq5 := Lib.hid hq5
  have HK5 := Lib.hid (HK.out.later hB5 hB5.size)
  have hln : ∀ W, Env W → Calls Tryd.prog 10 #[.agg (i64s zeros).toArray] W fun e w' => e = .returned (.string ⟨#[103, 99, 32, 48, 32, 48, 32, 48, 32, 48, 32, 48, 32, 48, 32, 48, 32, 48, 32, 48, 32, 48, 32, 48, 32, 48, 32, 48, 32, 48, 32, 48, 32, 48, 32, 48, 32, 48, 32, 48, 32, 48, 32, 48]⟩) ∧ Below W.heap.size W w' := fun W h => by
    have h1 := line_below W h zeros zeros_ok
    rw [line_zeros] at h1
    exact h1
  have Hln := Lib.hid hln
  clear hln
  have hszr := rep_size (n := (i64s rr).length) (by rw [i64s_length]; exact hrr)
  clear hB5 hr5 hq5 hH5 hsum Hr7 Hq2 HBe hth4 hsz4 hone4
  go_wp2_with (first
    | (go_at_call 19; refine (len_kept W5 HK5.out).mono ?_; rintro e w' ⟨rfl, hw⟩; rw [hw]; clear hw w')
    | (go_at_call 14; refine Hsum.out.mono ?_; rintro e wf ⟨rfl, hBf⟩; have hqf := range_below Hq5.out hBf; have HBf := Lib.hid (Below.next HB5.out hBf); clear hBf)
    | (refine wpList_wp (by rfl) (wp_load_mid 25 _ rfl wd.heap.size 0 rfl (i64s rr) _ hqf Tryd.underlying25 rfl hszr ?_))
    | (refine wpList_wp (by rfl) (wp_val (field_sum 0 (by decide) rfl 3 0 0 0 0 0 0 0 rfl) ?_))
    | (refine wpList_wp (by rfl) (wp_val ((eql_rep_run rfl rr [0, 0, 0, 0, 0, 0, 0, 0, 0, 0, 0, 0, 0, 0, 0, 0, 0, 0, 0, 0, -7] hrr rfl rfl rfl).trans (by rw [Hrr.out, beq_self_eq_true])) ?_))
    | (go_at_call 10; refine (Hln.out wf (((HE.out.below (HT3.out.sub (List.nil_sublist _)).below).below HBf.out))).mono ?_; rintro e wg ⟨rfl, hBg⟩)
    | fail)
  go_ret
  exact ⟨rfl, Below.next (HT3.out.sub (List.nil_sublist _)).below (Below.next HBf.out hBg)⟩
end Go.Proofs.YtpnpnajheaijaaaDoor
