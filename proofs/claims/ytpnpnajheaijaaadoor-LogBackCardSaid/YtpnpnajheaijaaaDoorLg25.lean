/-
  The law LogLines, as a walk: true, and nothing that was there has turned.
  Conditions: the library's variables hold what the program's text lays.
-/
import Derived.Test.YtpnpnajheaijaaaDoorLg24
namespace Go.Proofs.YtpnpnajheaijaaaDoor
open Go Go.RowKit Go.IntWalk

set_option maxRecDepth 100000 in
theorem logLines_long (w : World) (hE : Env w) (r : List Int) (s : ByteArray) (hs : 1024 < s.size) : Calls Tryd.prog 3 #[repVal r, .string s] w fun e w' => e = .returned (.bool true) ∧ Below w.heap.size w w' := by
  have hs' : (1024 : Int) < (s.size : Int) := by omega
  have HB1 := Lib.hid ((Below.refl w.heap.size w).alloc (Nat.le_refl _) (.cells (i64s r).toArray 25))
  have HE := Lib.hid hE
  clear hE hs
  unfold repVal
  go_enter Tryd.func3, Tryd.ntmps3
  go_wp2_with fail
  refine (alive34 _ (HE.out.below HB1.out)).mono ?_
  rintro e w2 ⟨rfl, hB2⟩
  go_wp2
  go_ret
  exact ⟨rfl, Below.next HB1.out hB2⟩

theorem readF_len {s : List UInt8} {x : List Int} (h : x = (readF s).getD zeros) : x.length = 21 := by
  subst h
  cases hr : readF s with
  | none => rfl
  | some r => exact (readF_back hr).2.1

set_option maxRecDepth 100000 in
set_option maxHeartbeats 3200000 in
theorem logLines_any (w : World) (hE : Env w) (r : List Int) (hr : RepOk r) (s : ByteArray) : Calls Tryd.prog 3 #[repVal r, .string s] w fun e w' => e = .returned (.bool true) ∧ Below w.heap.size w w' := by
  by_cases hs : 1024 < s.size
  · exact logLines_long w hE r s hs
  have hs' : ¬ (1024 : Int) < (s.size : Int) := by omega
  have HE := Lib.hid hE
  have hrl := hr.len
  have Hr := Lib.hid hr
  have hszr := rep_size (n := (i64s r).length) (by rw [i64s_length]; exact hrl)
  have Hrg := Lib.hid (show (w.alloc (.cells (i64s r).toArray 25)).rangeAt w.heap.size 0 (i64s r) from range_of_has ((Turn.refl (Has.nil w)).alloc (.cells (i64s r).toArray 25)).has (List.mem_cons_self ..))
  have HB1 := Lib.hid ((Below.refl w.heap.size w).alloc (Nat.le_refl _) (.cells (i64s r).toArray 25))
  obtain ⟨x, Hx⟩ : ∃ x : List Int, Hid (x = (readF s.data.toList).getD zeros) := ⟨_, Lib.hid rfl⟩
  obtain ⟨er, Her⟩ : ∃ er : Int, Hid (er = if (readF s.data.toList).isSome then 0 else 7) := ⟨_, Lib.hid rfl⟩
  have hx := readF_len Hx.out
  have hsz2 := rep_size (n := (i64s x).toArray.size) (by rw [List.size_toArray, i64s_length]; exact hx)
  have hszx := rep_size (n := (i64s x).length) (by rw [i64s_length]; exact hx)
  have hone := i64s_oneCell x
  have hrd : ∀ W, Env W → Calls Tryd.prog 8 #[.string s] W fun e w' => e = .returned (.tuple #[.agg (i64s x).toArray, .int .i64 er]) ∧ Below W.heap.size W w' := fun W h => by
    have h1 := read_below W h s (by omega)
    rw [← Hx.out, ← Her.out] at h1
    exact h1
  have hrr : ∀ W, Env W → Calls Tryd.prog 9 #[.string s] W fun e w' => e = .returned (.tuple #[.agg (i64s x).toArray, .int .i64 er]) ∧ Below W.heap.size W w' := fun W h => by
    have h1 := rread_below W h s (by omega)
    rw [← Hx.out, ← Her.out] at h1
    exact h1
  have Hrd := Lib.hid hrd
  have Hrr := Lib.hid hrr
  clear hrd hrr hE hr hs
  unfold repVal
  go_enter Tryd.func3, Tryd.ntmps3
  go_wp2_with fail
  refine (Hrd.out _ (HE.out.below HB1.out)).mono ?_
  rintro e wa ⟨rfl, hBa⟩
  have hth1 := ((Turn.refl (Has.nil wa)).alloc (.cells (i64s zeros).toArray 25)).has.there (b := wa.heap.size) (c := (i64s zeros).toArray) (e := 25) (List.mem_cons_self ..) 0 (i64s x).toArray.size (by rw [List.size_toArray, i64s_length, hx]; decide)
  obtain ⟨hl1, hr1⟩ := laid_rep wa x hx
  have HBa := Lib.hid (Below.next (Below.next HB1.out hBa) hl1)
  have Hra := Lib.hid (range_below (range_below Hrg.out hBa) hl1)
  have Hxa := Lib.hid hr1
  clear hBa hl1 hr1
  go_wp2_with (first | (refine wpList_store_mid rfl 25 _ _ rfl _ 0 (i64s x).toArray rfl rfl hth1 hsz2 hone ?_) | fail)
  refine (Hrr.out _ (HE.out.below HBa.out)).mono ?_
  rintro e wb ⟨rfl, hBb⟩
  have hth2 := ((Turn.refl (Has.nil wb)).alloc (.cells (i64s zeros).toArray 25)).has.there (b := wb.heap.size) (c := (i64s zeros).toArray) (e := 25) (List.mem_cons_self ..) 0 (i64s x).toArray.size (by rw [List.size_toArray, i64s_length, hx]; decide)
  obtain ⟨hl2, hr2⟩ := laid_rep wb x hx
  have HBb := Lib.hid (Below.next (Below.next HBa.out hBb) hl2)
  have Hrb := Lib.hid (range_below (range_below Hra.out hBb) hl2)
  have Hxb := Lib.hid (range_below (range_below Hxa.out hBb) hl2)
  have Hxb2 := Lib.hid hr2
  clear hBb hl2 hr2
  go_upto_region 5 with (first | (refine wpList_store_mid rfl 25 _ _ rfl _ 0 (i64s x).toArray rfl rfl hth2 hsz2 hone ?_) | fail)
  refine Code.wp_world (fun W => Below w.heap.size w W ∧ (fun W' => W'.rangeAt w.heap.size 0 (i64s r) ∧ W'.rangeAt wa.heap.size 0 (i64s x) ∧ W'.rangeAt wb.heap.size 0 (i64s x)) W.drew) ⟨HBb.out, Hrb.out, Hxb.out, Hxb2.out⟩ fun W3 hW3 => ?_
  obtain ⟨hB3, hS⟩ := hW3
  have HB3 := Lib.hid hB3
  clear hB3 HBb Hrb Hxb Hxb2 HBa Hra Hxa HB1 Hrg Hrd Hrr hth1 hth2 hone hsz2
  refine wp_region_noPanic ?_
  refine wp_region_listed (S := (fun W' => W'.rangeAt w.heap.size 0 (i64s r) ∧ W'.rangeAt wa.heap.size 0 (i64s x) ∧ W'.rangeAt wb.heap.size 0 (i64s x))) 19 [false, false, false, false, false, false, false, false, false, false, false, false, false, false, false, false, false, false, false] rfl rfl (by kernel_rfl) ?_
  refine takeG 0 23 rfl rfl (by rfl) (by kernel_rfl) (by kernel_rfl) (by kernel_rfl) (fun _ _ _ _ h => h) hS (fun w' hSw => load_mid_run 25 _ rfl w.heap.size 0 rfl (i64s r) _ hSw.1 Tryd.underlying25 rfl hszr) ?_
  simp only [List.set_cons_zero, List.set_cons_succ]
  refine takeG 2 25 rfl rfl (by rfl) (by kernel_rfl) (by kernel_rfl) (by kernel_rfl) (fun _ _ _ _ h => h) hS (fun w' hSw => load_mid_run 25 _ rfl w.heap.size 0 rfl (i64s r) _ hSw.1 Tryd.underlying25 rfl hszr) ?_
  simp only [List.set_cons_zero, List.set_cons_succ]
  refine wpAnyH_ready (rs := [1]) (by kernel_rfl) (by simp) (AllReadyH.cons rfl (fun K hK => ?_) AllReadyH.nil)
  go_simp
  refine (line_below W3.drew ((HE.out.below HB3.out).later (fun b hb => rfl)) r Hr.out).mono ?_
  rintro e w4 ⟨rfl, hB4⟩
  have HB4 := Lib.hid (Below.next HB3.out.drew hB4)
  have hS4 : (fun W' => W'.rangeAt w.heap.size 0 (i64s r) ∧ W'.rangeAt wa.heap.size 0 (i64s x) ∧ W'.rangeAt wb.heap.size 0 (i64s x)) w4 := ⟨range_below hS.1 hB4, range_below hS.2.1 hB4, range_below hS.2.2 hB4⟩
  refine hK.out _ _ hS4 fun _ => ?_
  simp only [List.setIfInBounds_toArray, List.set_cons_zero, List.set_cons_succ]
  clear hK K
  clear hB4 hS
  refine wpAnyH_ready (rs := [3]) (by kernel_rfl) (by simp) (AllReadyH.cons rfl (fun K hK => ?_) AllReadyH.nil)
  go_simp
  refine (rline_below w4 (HE.out.below HB4.out) r Hr.out).mono ?_
  rintro e w5 ⟨rfl, hB5⟩
  have HB5 := Lib.hid (Below.next HB4.out hB5)
  have hS5 : (fun W' => W'.rangeAt w.heap.size 0 (i64s r) ∧ W'.rangeAt wa.heap.size 0 (i64s x) ∧ W'.rangeAt wb.heap.size 0 (i64s x)) w5 := ⟨range_below hS4.1 hB5, range_below hS4.2.1 hB5, range_below hS4.2.2 hB5⟩
  refine hK.out _ _ hS5 fun _ => ?_
  simp only [List.setIfInBounds_toArray, List.set_cons_zero, List.set_cons_succ]
  clear hK K
  clear hB5 hS4
  refine takeG 4 27 rfl rfl (by rfl) (by kernel_rfl) (by kernel_rfl) (by kernel_rfl) (fun _ _ _ _ h => h) hS5 (by (intro w hSw; clear hSw; go_simp; try rfl)) ?_
  simp only [List.set_cons_zero, List.set_cons_succ]
  refine takeG 5 28 rfl rfl (by rfl) (by kernel_rfl) (by kernel_rfl) (by kernel_rfl) (fun _ _ _ _ h => h) hS5 (by (intro w hSw; clear hSw; go_simp; try rfl)) ?_
  simp only [List.set_cons_zero, List.set_cons_succ]
  refine takeG 6 29 rfl rfl (by rfl) (by kernel_rfl) (by kernel_rfl) (by kernel_rfl) (fun _ _ _ _ h => h) hS5 (fun w' hSw => load_mid_run 25 _ rfl wa.heap.size 0 rfl (i64s x) _ hSw.2.1 Tryd.underlying25 rfl hszx) ?_
  simp only [List.set_cons_zero, List.set_cons_succ]
  refine takeG 7 30 rfl rfl (by rfl) (by kernel_rfl) (by kernel_rfl) (by kernel_rfl) (fun _ _ _ _ h => h) hS5 (fun w' hSw => load_mid_run 25 _ rfl wb.heap.size 0 rfl (i64s x) _ hSw.2.2 Tryd.underlying25 rfl hszx) ?_
  simp only [List.set_cons_zero, List.set_cons_succ]
  refine takeG 8 31 rfl rfl (by rfl) (by kernel_rfl) (by kernel_rfl) (by kernel_rfl) (fun _ _ _ _ h => h) hS5 (fun w' _ => (eql_rep_run rfl x x hx hx rfl rfl).trans (by rw [beq_self_eq_true])) ?_
  simp only [List.set_cons_zero, List.set_cons_succ]
  refine takeG 9 32 rfl rfl (by rfl) (by kernel_rfl) (by kernel_rfl) (by kernel_rfl) (fun _ _ _ _ h => h) hS5 (by (intro w hSw; clear hSw; go_simp; try rfl)) ?_
  simp only [List.set_cons_zero, List.set_cons_succ]
  refine takeG 10 33 rfl rfl (by rfl) (by kernel_rfl) (by kernel_rfl) (by kernel_rfl) (fun _ _ _ _ h => h) hS5 (by (intro w hSw; clear hSw; go_simp; try rfl)) ?_
  simp only [List.set_cons_zero, List.set_cons_succ]
  refine takeG 11 34 rfl rfl (by rfl) (by kernel_rfl) (by kernel_rfl) (by kernel_rfl) (fun _ _ _ _ h => h) hS5 (by (intro w hSw; clear hSw; go_simp; try rfl)) ?_
  simp only [List.set_cons_zero, List.set_cons_succ]
  refine takeG 12 35 rfl rfl (by rfl) (by kernel_rfl) (by kernel_rfl) (by kernel_rfl) (fun _ _ _ _ h => h) hS5 (by (intro w hSw; clear hSw; go_simp; try rfl)) ?_
  simp only [List.set_cons_zero, List.set_cons_succ]
  refine takeG 13 36 rfl rfl (by rfl) (by kernel_rfl) (by kernel_rfl) (by kernel_rfl) (fun _ _ _ _ h => h) hS5 (by (intro w hSw; clear hSw; go_simp; try rfl)) ?_
  simp only [List.set_cons_zero, List.set_cons_succ]
  refine takeG 14 37 rfl rfl (by rfl) (by kernel_rfl) (by kernel_rfl) (by kernel_rfl) (fun _ _ _ _ h => h) hS5 (by (intro w hSw; clear hSw; go_simp; try rfl)) ?_
  simp only [List.set_cons_zero, List.set_cons_succ]
  refine takeG 15 38 rfl rfl (by rfl) (by kernel_rfl) (by kernel_rfl) (by kernel_rfl) (fun _ _ _ _ h => h) hS5 (by (intro w hSw; clear hSw; go_simp; try rfl)) ?_
  simp only [List.set_cons_zero, List.set_cons_succ]
  refine wpAnyH_ready (rs := [16]) (by kernel_rfl) (by simp) (AllReadyH.cons rfl (fun K hK => ?_) AllReadyH.nil)
  go_simp
  refine (alive34 w5 (HE.out.below HB5.out)).mono ?_
  rintro e w6 ⟨rfl, hB6⟩
  have HB6 := Lib.hid (Below.next HB5.out hB6)
  have hS6 : (fun W' => W'.rangeAt w.heap.size 0 (i64s r) ∧ W'.rangeAt wa.heap.size 0 (i64s x) ∧ W'.rangeAt wb.heap.size 0 (i64s x)) w6 := ⟨range_below hS5.1 hB6, range_below hS5.2.1 hB6, range_below hS5.2.2 hB6⟩
  refine hK.out _ _ hS6 fun _ => ?_
  simp only [List.setIfInBounds_toArray, List.set_cons_zero, List.set_cons_succ]
  clear hK K
  clear hB6 hS5
  refine takeG 17 40 rfl rfl (by rfl) (by kernel_rfl) (by kernel_rfl) (by kernel_rfl) (fun _ _ _ _ h => h) hS6 (by (intro w hSw; clear hSw; go_simp; try rfl)) ?_
  simp only [List.set_cons_zero, List.set_cons_succ]
  refine takeG 18 4 rfl rfl (by rfl) (by kernel_rfl) (by kernel_rfl) (by kernel_rfl) (fun _ _ _ _ h => h) hS6 (by (intro w hSw; clear hSw; go_simp; try rfl)) ?_
  simp only [List.set_cons_zero, List.set_cons_succ]
  refine wpAnyH_done (by kernel_rfl) ?_ _
  refine NoPanic.normal ?_
  go_wp2
  go_ret
  exact ⟨rfl, HB6.out⟩
end Go.Proofs.YtpnpnajheaijaaaDoor
