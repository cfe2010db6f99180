/-
  The reference's log: Kept, Sum.
  Conditions: the reports' cells can be read.
-/
import Derived.Test.YtpnpnajheaijaaaDoorLg19
namespace Go.Proofs.YtpnpnajheaijaaaDoor
open Go Go.RowKit Go.IntWalk

set_option maxRecDepth 100000 in
theorem rkept_all (w : World) (ao : Option Addr) (n cap m : Nat) (hm : n ≤ m) : Calls Tryd.prog 16 #[.slice ao n cap, .int .i64 m] w fun e w' => e = .returned (.slice ao n cap) ∧ w' = w := by
  have h : ¬ (m : Int) < (n : Int) := by omega
  go_enter Tryd.func16, Tryd.ntmps16
  go_wp2
  go_ret
  exact ⟨rfl, rfl⟩

set_option maxRecDepth 100000 in
theorem rkept_some (w : World) (bb off n cap m : Nat) (h0 : 1 ≤ m) (hm : m < n) (hn : n ≤ cap) (hc : cap ≤ 281474976710656) : Calls Tryd.prog 16 #[.slice (some ⟨bb, off, none⟩) n cap, .int .i64 m] w fun e w' => e = .returned (.slice (some ⟨bb, off + (n - m) * 21, none⟩) m (cap - (n - m))) ∧ w' = w := by
  have h : (m : Int) < (n : Int) := by omega
  have hw : IntKind.i64.wrap ((n : Int) - (m : Int)) = ((n - m : Nat) : Int) := (i64_in _ (by omega)).trans (by omega)
  have hz : n - (n - m) = m := by omega
  have h1 : n - m ≤ n := by omega
  have h2 : n - m ≤ cap := by omega
  have h3 : ¬ cap = n - m := by omega
  generalize n - m = q at *
  have h4 : (q : Int) ≤ (n : Int) := by omega
  have h5 : (q : Int) ≤ (cap : Int) := by omega
  have h6 : (n : Int) ≤ (cap : Int) := by omega
  go_enter Tryd.func16, Tryd.ntmps16
  go_wp2
  go_ret
  exact ⟨rfl, rfl⟩

theorem wrap_sub (s x y : Int) : IntKind.i64.wrap (IntKind.i64.wrap (s + x) - y) = IntKind.i64.wrap (s + IntKind.i64.wrap (x - y)) := by
  simp only [IntKind.wrap_i64]
  omega


def sm (s0 s1 s2 s3 s4 s5 s6 s7 : Int) : Array Value := #[.int .i64 s0, .int .i64 s1, .int .i64 s2, .int .i64 s3, .int .i64 s4, .int .i64 s5, .int .i64 s6, .int .i64 s7]
theorem sm_set0 {s0 s1 s2 s3 s4 s5 s6 s7 : Int} (v : Int) : (sm s0 s1 s2 s3 s4 s5 s6 s7).setIfInBounds 0 (.int .i64 v) = sm v s1 s2 s3 s4 s5 s6 s7 := rfl
theorem sm_set1 {s0 s1 s2 s3 s4 s5 s6 s7 : Int} (v : Int) : (sm s0 s1 s2 s3 s4 s5 s6 s7).setIfInBounds 1 (.int .i64 v) = sm s0 v s2 s3 s4 s5 s6 s7 := rfl
theorem sm_set2 {s0 s1 s2 s3 s4 s5 s6 s7 : Int} (v : Int) : (sm s0 s1 s2 s3 s4 s5 s6 s7).setIfInBounds 2 (.int .i64 v) = sm s0 s1 v s3 s4 s5 s6 s7 := rfl
theorem sm_set3 {s0 s1 s2 s3 s4 s5 s6 s7 : Int} (v : Int) : (sm s0 s1 s2 s3 s4 s5 s6 s7).setIfInBounds 3 (.int .i64 v) = sm s0 s1 s2 v s4 s5 s6 s7 := rfl
theorem sm_set4 {s0 s1 s2 s3 s4 s5 s6 s7 : Int} (v : Int) : (sm s0 s1 s2 s3 s4 s5 s6 s7).setIfInBounds 4 (.int .i64 v) = sm s0 s1 s2 s3 v s5 s6 s7 := rfl
theorem sm_set5 {s0 s1 s2 s3 s4 s5 s6 s7 : Int} (v : Int) : (sm s0 s1 s2 s3 s4 s5 s6 s7).setIfInBounds 5 (.int .i64 v) = sm s0 s1 s2 s3 s4 v s6 s7 := rfl
theorem sm_set6 {s0 s1 s2 s3 s4 s5 s6 s7 : Int} (v : Int) : (sm s0 s1 s2 s3 s4 s5 s6 s7).setIfInBounds 6 (.int .i64 v) = sm s0 s1 s2 s3 s4 s5 v s7 := rfl
theorem sm_set7 {s0 s1 s2 s3 s4 s5 s6 s7 : Int} (v : Int) : (sm s0 s1 s2 s3 s4 s5 s6 s7).setIfInBounds 7 (.int .i64 v) = sm s0 s1 s2 s3 s4 s5 s6 v := rfl

set_option maxRecDepth 100000 in
set_option maxHeartbeats 3200000 in
/-- Sum: of all. -/
theorem rsum_any {R : List Blk} (w : World) (hH : Has w R) (ao : Option Addr) (n cap : Nat) (hnc : n ≤ 281474976710656) (rs : List (List Int)) (hrs : ∀ r ∈ rs, RepOk r) (hs : ∀ W l', Turn R w (l' ++ R) W → Src W ao n cap 21 (reps rs)) :
    Calls Tryd.prog 17 #[.slice ao n cap] w fun e w' => e = .returned (repVal (sumOf rs)) ∧ Turn R w R w' := by
  have hn : n = rs.length := by
    have h1 := (hs w [] (Turn.refl hH)).len
    rw [reps_length hrs] at h1
    omega
  subst hn
  have T0 := ((Turn.refl hH).alloc (.cells (i64s noSum).toArray 38)).alloc (.cells (i64s noSum).toArray 38)
  rw [World.size_alloc] at T0
  have HT0 := Lib.hid T0
  have Hs := Lib.hid hs
  have Hrs := Lib.hid hrs
  clear hs hrs T0 hH
  go_enter Tryd.func17, Tryd.ntmps17
  go_wp2_with fail
  generalize hsb : w.heap.size + 1 = sb at HT0 ⊢
  generalize hrb : w.heap.size = rb at HT0 ⊢
  go_loopw [4] (fun v4 wr => ∃ k : Nat, k ≤ rs.length ∧ v4 = .int .i64 k ∧ Turn R w ((sb, .cells (i64s (sumOf (rs.take k))).toArray 38) :: (rb, .cells (i64s noSum).toArray 38) :: R) wr) (fun v4 _ => rs.length - (intOf v4).toNat)
  case atStart => exact ⟨0, Nat.zero_le _, rfl, HT0.out⟩
  case round =>
    clear HT0
    obtain ⟨k, hk, rfl, T⟩ := hrel
    by_cases hlt : k < rs.length
    · have hlt' : (k : Int) < (rs.length : Int) := by omega
      obtain ⟨r, hr⟩ : ∃ r, rs[k]? = some r := ⟨rs[k]'hlt, List.getElem?_eq_getElem _⟩
      have hrok := Hrs.out r (List.mem_of_getElem? hr)
      have hsrc := Hs.out wr [(sb, .cells (i64s (sumOf (rs.take k))).toArray 38), (rb, .cells (i64s noSum).toArray 38)] T
      obtain ⟨bb, off, rfl, -⟩ := hsrc.form (by rw [reps_length Hrs.out]; omega)
      have hrg := hsrc.rep Hrs.out hr
      have hsz := rep_size (n := (i64s r).length) (by rw [i64s_length]; exact hrok.len)
      have hsz2 := rep_size (n := (i64s r).toArray.size) (by rw [List.size_toArray, i64s_length]; exact hrok.len)
      have T1 := T.alloc (.cells (i64s zeros).toArray 25)
      have hth := T1.has.there (b := wr.heap.size) (c := (i64s zeros).toArray) (e := 25) (List.mem_cons_self ..) 0 (i64s r).toArray.size (by rw [List.size_toArray, i64s_length, hrok.len]; decide)
      have hone := i64s_oneCell r
      have T2 := T1.setCells (i64s r) 0
      rw [laidOver_all _ _ (by rw [i64s_length, hrok.len]; rfl)] at T2
      have htk : sumOf (rs.take (k + 1)) = sumAdd (sumOf (rs.take k)) r := by rw [List.take_add_one, hr]; exact sumOf_snoc _ _
      obtain ⟨s0, s1, s2, s3, s4, s5, s6, s7, hS⟩ := split8 (sumOf_length (rs.take k))
      obtain ⟨t0, t1, t2, t3, t4, t5, t6, t7, hT⟩ := split8 (sumOf_length (rs.take (k + 1)))
      rw [hS] at T2 htk
      rw [hT] at htk
      have HS := Lib.hid hS
      have HTt := Lib.hid hT
      have HT2 := Lib.hid T2
      have Htk := Lib.hid htk
      have Hrok := Lib.hid hrok
      clear T T1 T2 hr hrok hsrc hS hT htk
      go_upto_region 6 with (first
        | (refine wpList_load_mid rfl 25 _ rfl bb (off + k * 21) rfl (i64s r) _ hrg Tryd.underlying25 rfl hsz ?_)
        | (refine wpList_store_mid rfl 25 _ _ rfl _ 0 (i64s r).toArray rfl rfl hth hsz2 hone ?_)
        | fail)
      generalize hnb : wr.heap.size = nb at HT2 ⊢
      have hsw : ((nb, Obj.cells (i64s r).toArray 25 (0, 0)) :: ((sb, Obj.cells (i64s [s0, s1, s2, s3, s4, s5, s6, s7]).toArray 38 (0, 0)) :: (rb, Obj.cells (i64s noSum).toArray 38 (0, 0)) :: R)).Perm
        ((sb, Obj.cells (i64s [s0, s1, s2, s3, s4, s5, s6, s7]).toArray 38 (0, 0)) :: (nb, Obj.cells (i64s r).toArray 25 (0, 0)) :: (rb, Obj.cells (i64s noSum).toArray 38 (0, 0)) :: R) := List.Perm.swap ..
      refine Code.wp_world (fun W => Turn R w ((sb, .cells (i64s [s0, s1, s2, s3, s4, s5, s6, s7]).toArray 38) :: (nb, .cells (i64s r).toArray 25) :: (rb, .cells (i64s noSum).toArray 38) :: R) W) (HT2.out.perm hsw) fun W1 U => ?_
      clear HT2 hsw hth hrg hsz hsz2 hone hnb
      obtain ⟨x0, x1, x2, x3, x4, x5, x6, x7, x8, x9, x10, x11, x12, x13, x14, x15, x16, x17, x18, x19, x20, rfl⟩ := Hrok.out.split
      replace U : Turn R w ((sb, .cells (sm s0 s1 s2 s3 s4 s5 s6 s7) 38) :: (nb, .cells #[.int .i64 x0, .int .i64 x1, .int .i64 x2, .int .i64 x3, .int .i64 x4, .int .i64 x5, .int .i64 x6, .int .i64 x7, .int .i64 x8, .int .i64 x9, .int .i64 x10, .int .i64 x11, .int .i64 x12, .int .i64 x13, .int .i64 x14, .int .i64 x15, .int .i64 x16, .int .i64 x17, .int .i64 x18, .int .i64 x19, .int .i64 x20] 25) :: (rb, .cells (i64s noSum).toArray 38) :: R) W1 := U
      have htt := Htk.out
      simp only [sumAdd, List.getD_cons_zero, List.getD_cons_succ, List.cons.injEq, and_true] at htt
      obtain ⟨e0, e1, e2, e3, e4, e5, e6, e7⟩ := htt
      replace e1 : IntKind.i64.wrap (IntKind.i64.wrap (s1 + x0) - x6) = t1 := by rw [wrap_sub]; exact e1.symm
      replace e2 : IntKind.i64.wrap (IntKind.i64.wrap (s2 + x3) - x9) = t2 := by rw [wrap_sub]; exact e2.symm
      replace e0 := e0.symm
      replace e3 := e3.symm
      replace e4 := e4.symm
      replace e5 := e5.symm
      replace e6 := e6.symm
      replace e7 := e7.symm
      have hsn : ¬ nb = sb := U.has.ne (by simp)
      have hns : ¬ sb = nb := fun h => hsn h.symm
      have cb := U.has.cell (List.mem_cons_self ..)
      have db := U.has.cell (List.mem_cons_of_mem _ (List.mem_cons_self ..))
      have c0 : W1.cell? ⟨sb, 0, none⟩ = some (.int .i64 s0) := cb 0
      have c1 : W1.cell? ⟨sb, 1, none⟩ = some (.int .i64 s1) := cb 1
      have c2 : W1.cell? ⟨sb, 2, none⟩ = some (.int .i64 s2) := cb 2
      have c3 : W1.cell? ⟨sb, 3, none⟩ = some (.int .i64 s3) := cb 3
      have c4 : W1.cell? ⟨sb, 4, none⟩ = some (.int .i64 s4) := cb 4
      have c5 : W1.cell? ⟨sb, 5, none⟩ = some (.int .i64 s5) := cb 5
      have c6 : W1.cell? ⟨sb, 6, none⟩ = some (.int .i64 s6) := cb 6
      have c7 : W1.cell? ⟨sb, 7, none⟩ = some (.int .i64 s7) := cb 7
      have f0 := U.has.free (List.mem_cons_self ..) 0
      have f1 := U.has.free (List.mem_cons_self ..) 1
      have f2 := U.has.free (List.mem_cons_self ..) 2
      have f3 := U.has.free (List.mem_cons_self ..) 3
      have f4 := U.has.free (List.mem_cons_self ..) 4
      have f5 := U.has.free (List.mem_cons_self ..) 5
      have f6 := U.has.free (List.mem_cons_self ..) 6
      have f7 := U.has.free (List.mem_cons_self ..) 7
      have d0 : W1.cell? ⟨nb, 0, none⟩ = some (.int .i64 x0) := db 0
      have d6 : W1.cell? ⟨nb, 6, none⟩ = some (.int .i64 x6) := db 6
      have d3 : W1.cell? ⟨nb, 3, none⟩ = some (.int .i64 x3) := db 3
      have d9 : W1.cell? ⟨nb, 9, none⟩ = some (.int .i64 x9) := db 9
      have d15 : W1.cell? ⟨nb, 15, none⟩ = some (.int .i64 x15) := db 15
      have d16 : W1.cell? ⟨nb, 16, none⟩ = some (.int .i64 x16) := db 16
      have d17 : W1.cell? ⟨nb, 17, none⟩ = some (.int .i64 x17) := db 17
      have d18 : W1.cell? ⟨nb, 18, none⟩ = some (.int .i64 x18) := db 18
      have d20 : W1.cell? ⟨nb, 20, none⟩ = some (.int .i64 x20) := db 20
      have HU := Lib.hid U
      have Hrk := Lib.hid Hrok
      clear cb db Htk U Hrok
      go_wp2_with fail
      go_roundw
      case rel =>
        refine ⟨k + 1, by omega, by go_num, ?_⟩
        have q1 : wrap64 (wrap64 (s1 + x0) - x6) = t1 := by rw [← i64_left, ← i64_left]; exact e1
        have q2 : wrap64 (wrap64 (s2 + x3) - x9) = t2 := by rw [← i64_left, ← i64_left]; exact e2
        rw [q1, q2, HTt.out]
        have u0 := HU.out.setCell 0 (.int .i64 t0)
        rw [sm_set0] at u0
        have u1 := u0.setCell 1 (.int .i64 t1)
        rw [sm_set1] at u1
        have u2 := u1.setCell 2 (.int .i64 t2)
        rw [sm_set2] at u2
        have u3 := u2.setCell 3 (.int .i64 t3)
        rw [sm_set3] at u3
        have u4 := u3.setCell 4 (.int .i64 t4)
        rw [sm_set4] at u4
        have u5 := u4.setCell 5 (.int .i64 t5)
        rw [sm_set5] at u5
        have u6 := u5.setCell 6 (.int .i64 t6)
        rw [sm_set6] at u6
        have u7 := u6.setCell 7 (.int .i64 t7)
        rw [sm_set7] at u7
        exact (u7.perm (List.Perm.swap ..)).tail
      case measure => simp [intOf]; omega
    · have hke : k = rs.length := by omega
      subst hke
      rw [List.take_length] at T
      have HT := Lib.hid T
      have hlt' : ¬ (rs.length : Int) < (rs.length : Int) := by omega
      have hrg := T.has.range (List.mem_cons_self ..)
      rw [List.toList_toArray] at hrg
      have hl8 : (i64s (sumOf rs)).length = 8 := by rw [i64s_length, sumOf_length]
      have hsz := sum_size (n := (i64s (sumOf rs)).length) hl8
      have hsz2 := sum_size (n := (i64s (sumOf rs)).toArray.size) (by rw [List.size_toArray]; exact hl8)
      have hth := T.has.there (b := rb) (c := (i64s noSum).toArray) (e := 38) (by simp) 0 (i64s (sumOf rs)).toArray.size (by rw [List.size_toArray, hl8]; decide)
      have hone := i64s_oneCell (sumOf rs)
      generalize hSS : i64s (sumOf rs) = SS at *
      have HSS := Lib.hid hSS
      clear hSS
      clear T hlt hk
      go_wp2_with (first
        | (refine wpList_load_mid rfl 38 _ rfl _ 0 rfl SS _ hrg Tryd.underlying38 rfl hsz ?_)
        | (refine wpList_store_mid rfl 38 _ _ rfl _ 0 SS.toArray rfl rfl hth hsz2 hone ?_)
        | fail)
      have T4 := (HT.out.perm (List.Perm.swap ..)).setCells SS 0
      rw [laidOver_all _ _ (by rw [hl8]; rfl)] at T4
      refine bodyPost_ret (results_cell Tryd.results17 _ _ _ SS _ rfl (T4.has.range (List.mem_cons_self ..)) Tryd.underlying38 rfl hsz) rfl ?_
      exact ⟨by rw [← HSS.out]; rfl, T4.tail.tail⟩
end Go.Proofs.YtpnpnajheaijaaaDoor
