/-
  The law LogBack, as a walk: true, and nothing that was there has turned.
  Conditions: the library's variables hold what the program's text lays; the arguments' cells can be read.
-/
import Derived.Test.YtpnpnajheaijaaaDoorLg28
import Derived.Test.YtpnpnajheaijaaaDoorLg25
namespace Go.Proofs.YtpnpnajheaijaaaDoor
open Go Go.RowKit Go.IntWalk

theorem sum_store_size {s : List Int} (h : s.length = 8) : (Tryd.prog.info? 38).map (·.size) = some (i64s s).toArray.size := sum_size (by rw [List.size_toArray, i64s_length]; exact h)

/-- A sum laid into a block of its own. -/
theorem laid_sum (W : World) (s : List Int) (hs : s.length = 8) : let W' := (W.alloc (.cells (i64s noSum).toArray 38)).setCells W.heap.size 0 (i64s s)
    Below W.heap.size W W' ∧ W'.rangeAt W.heap.size 0 (i64s s) := by
  have T2 := ((Turn.refl (Has.nil W)).alloc (.cells (i64s noSum).toArray 38)).setCells (i64s s) 0
  rw [laidOver_all _ _ (by rw [i64s_length, hs]; rfl)] at T2
  exact ⟨T2.below, range_of_has T2.has (List.mem_cons_self ..)⟩

theorem i64s_getD {s : List Int} (h : s.length = 8) {j : Nat} (hj : j < 8) : (i64s s)[j]? = some (.int .i64 (s.getD j 0)) := by
  simp [i64s, List.getElem?_map, List.getElem?_eq_getElem (show j < s.length by omega)]

/-- A sum's place, of the two parts and of the whole. -/
theorem sums_meet (xs : List (List Int)) (k j : Nat) (hj : j < 8) : ∃ p q u : Int, (i64s (sumOf (xs.take k)))[j]? = some (.int .i64 p) ∧ (i64s (sumOf (xs.drop k)))[j]? = some (.int .i64 q) ∧ (i64s (sumOf xs))[j]? = some (.int .i64 u) ∧ IntKind.i64.wrap (p + q) = u :=
  ⟨_, _, _, i64s_getD (sumOf_length _) hj, i64s_getD (sumOf_length _) hj, i64s_getD (sumOf_length _) hj, sum_parts j hj xs k⟩

theorem field_sum_at {o : Oper} {a : Act} {w : World} {x : Operand} (k : Nat) (hk : k < 8) (ho : o.op = .field 38 x k) (s : List Int) (hs : s.length = 8) (hx : a.eval x = .agg (i64s s).toArray) (u : Int) (hu : (i64s s)[k]? = some (.int .i64 u)) :
    (execOp a.eval o).run Tryd.prog w = .ok (.value (.int .i64 u)) w := by
  obtain ⟨x0, x1, x2, x3, x4, x5, x6, x7, rfl⟩ := split8 hs
  rw [field_sum k hk ho x0 x1 x2 x3 x4 x5 x6 x7 hx]
  have h := i64s_getD hs hk
  rw [hu] at h
  have h2 : u = ([x0, x1, x2, x3, x4, x5, x6, x7] : List Int).getD k 0 := by injection h with h; injection h
  rw [h2, List.getD_eq_getElem?_getD]

abbrev backArgs (ao : Option Addr) (n cap : Nat) (mx at_ : Int) (s : ByteArray) : Array Value := #[.slice ao n cap, .int .u8 mx, .int .u8 at_, .string s]

set_option maxRecDepth 100000 in
theorem logBack_long (w : World) (hE : Env w) (ao : Option Addr) (n cap : Nat) (mx at_ : Int) (s : ByteArray) (h : 100 < n ∨ 1024 < s.size) : Calls Tryd.prog 4 (backArgs ao n cap mx at_ s) w fun e w' => e = .returned (.bool true) ∧ Below w.heap.size w w' := by
  have HE := Lib.hid hE
  clear hE
  by_cases h1 : 100 < n
  · have h1' : (100 : Int) < (n : Int) := by omega
    clear h
    go_enter Tryd.func4, Tryd.ntmps4
    go_wp2_with (go_at_call 7; refine (alive34 _ HE.out).mono ?_; rintro e w2 ⟨rfl, hB2⟩)
    go_ret
    exact ⟨rfl, hB2⟩
  · have h1' : ¬ (100 : Int) < (n : Int) := by omega
    have h2' : (1024 : Int) < (s.size : Int) := by omega
    clear h
    go_enter Tryd.func4, Tryd.ntmps4
    go_wp2_with (go_at_call 7; refine (alive34 _ HE.out).mono ?_; rintro e w2 ⟨rfl, hB2⟩)
    go_ret
    exact ⟨rfl, hB2⟩

set_option maxRecDepth 100000 in
set_option maxHeartbeats 6400000 in
theorem logBack_any (w : World) (hE : Env w) (ao : Option Addr) (n cap : Nat) (mx at_ : Nat) (hmx : mx ≤ 255) (hat : at_ ≤ 255) (s : ByteArray) (hn : n ≤ 100) (hsz : s.size ≤ 1024) (hnc : n ≤ cap) (xs : List (List Int)) (hx : ∀ r ∈ xs, RepOk r) (hs : Src w ao n cap 21 (reps xs)) :
    Calls Tryd.prog 4 (backArgs ao n cap mx at_ s) w fun e w' => e = .returned (.bool true) ∧ Below w.heap.size w w' := by
  have HE := Lib.hid hE
  have Hx := Lib.hid hx
  have hxl : xs.length = n := by have := hs.len; rw [reps_length hx] at this; omega
  have Hxl := Lib.hid hxl
  have hsrc : ∀ W, Below w.heap.size w W → Src W ao n cap 21 (reps xs) := fun W hB => hs.below hB
  have Hsrc := Lib.hid hsrc
  have hkn : at_ % (n + 1) ≤ n := by have := Nat.mod_lt at_ (show 0 < n + 1 by omega); omega
  obtain ⟨k, Hk⟩ : ∃ k : Nat, Hid (k = at_ % (n + 1)) := ⟨_, Lib.hid rfl⟩
  rw [← Hk.out] at hkn
  obtain ⟨ak, hrk, hsk⟩ := slice_hi_ex (ao := ao) Hx.out hnc hkn
  obtain ⟨a1, d1, c1, hd1, hdc, hcc, hr1, hs1⟩ := slice_lo_ex (ao := ao) Hx.out hnc hkn hxl
  have Hrk := Lib.hid hrk
  have Hr1 := Lib.hid hr1
  have Hsk := Lib.hid hsk
  have Hs1 := Lib.hid hs1
  have h1' : ¬ (100 : Int) < (n : Int) := by omega
  have h2' : ¬ (1024 : Int) < (s.size : Int) := by omega
  have hc1 : IntKind.i64.wrap (mx : Int) = (mx : Int) := i64_in _ (by omega)
  have hc2 : IntKind.i64.wrap (at_ : Int) = (at_ : Int) := i64_in _ (by omega)
  have hc3 : IntKind.i64.wrap (1 + (mx : Int)) = ((1 + mx : Nat) : Int) := (i64_in _ (by omega)).trans (by omega)
  have hc4 : IntKind.i64.wrap ((n : Int) + 1) = ((n + 1 : Nat) : Int) := (i64_in _ (by omega)).trans (by omega)
  have hc5 : ((at_ : Int)).tmod ((n + 1 : Nat) : Int) = (k : Int) := by rw [Hk.out, Int.tmod_eq_emod_of_nonneg (by omega), Int.natCast_emod]
  have hc6 : ((at_ : Int)) % ((n + 1 : Nat) : Int) = (k : Int) := by rw [Hk.out, Int.natCast_emod]
  have hc7 : ¬ (((n + 1 : Nat)) : Int) = 0 := by omega
  have hc8 : ((at_ : Int)).tmod ((n : Int) + 1) = (k : Int) := hc5
  have hc9 : ((at_ : Int)) % ((n : Int) + 1) = (k : Int) := hc6
  clear hE hx hs hsrc hxl hrk hr1 hsk hs1
  go_enter Tryd.func4, Tryd.ntmps4
  go_wp2_with fail
  refine (new_any w (1 + mx) (by omega) (by omega) (Has.nil w)).mono ?_
  rintro e w1 ⟨ba, la, rfl, La, Ta⟩
  have HLa := Lib.hid La
  have HT1 := Lib.hid (show Turn [] w la w1 by have := Ta; rwa [List.append_nil] at this)
  clear La Ta
  go_wp2_with fail
  refine (new_any w1 1 (by omega) (by omega) HT1.out.has).mono ?_
  rintro e w2 ⟨bb, lb, rfl, Lb, Tb⟩
  have HLb := Lib.hid Lb
  have HT2 := Lib.hid (HT1.out.trans Tb)
  clear Lb Tb HT1
  go_wp2_with fail
  refine (new_any w2 5 (by omega) (by omega) HT2.out.has).mono ?_
  rintro e w3 ⟨bc, lc, rfl, Lc, Tc⟩
  have HLc := Lib.hid Lc
  have HT3 := Lib.hid ((HT2.out.trans Tc).perm (l2 := la ++ (lb ++ lc)) (perm_of fun c => by simp; omega))
  clear Lc Tc HT2
  go_wp2_with fail
  refine (lAdd_any (R := lb ++ lc) w3 HLa.out (by omega) (by omega) HT3.out.has ao n cap (by omega) xs Hx.out (fun W' l' T => Hsrc.out W' (HT3.out.trans T).below)).mono ?_
  rintro e w4 ⟨rfl, la2, La2, T4⟩
  have HLa2 := Lib.hid (show LogIs ba (1 + mx) xs la2 from La2)
  have HT4 := Lib.hid ((HT3.out.trans T4).perm (l2 := lb ++ (la2 ++ lc)) (perm_of fun c => by simp; omega))
  clear La2 T4 HT3 HLa
  go_wp2_with (first | (refine wpList_wp (by rfl) (wp_val (Hrk.out _ _ _ _ _ rfl rfl rfl) ?_)) | fail)
  refine (lAdd_any (R := la2 ++ lc) w4 HLb.out (by omega) (by omega) HT4.out.has ak k cap (by omega) (xs.take k) (fun r hr => Hx.out r (List.mem_of_mem_take hr)) (fun W' l' T => Hsk.out W' (Hsrc.out W' (HT4.out.trans T).below))).mono ?_
  rintro e w5 ⟨rfl, lb2, Lb2, T5⟩
  have HLb2 := Lib.hid (show LogIs bb 1 (xs.take k) lb2 from Lb2)
  have HT5 := Lib.hid (HT4.out.trans T5)
  clear Lb2 T5 HT4 HLb
  obtain ⟨s1, Hs1e⟩ : ∃ s1 : List Int, Hid (s1 = sumOf (xs.take k)) := ⟨_, Lib.hid rfl⟩
  obtain ⟨s2, Hs2e⟩ : ∃ s2 : List Int, Hid (s2 = sumOf (xs.drop k)) := ⟨_, Lib.hid rfl⟩
  obtain ⟨su, Hsue⟩ : ∃ su : List Int, Hid (su = sumOf xs) := ⟨_, Lib.hid rfl⟩
  have hs1l : s1.length = 8 := by rw [Hs1e.out]; exact sumOf_length _
  have hs2l : s2.length = 8 := by rw [Hs2e.out]; exact sumOf_length _
  have hsul : su.length = 8 := by rw [Hsue.out]; exact sumOf_length _
  go_wp2_with fail
  have hsum1 := sum_below (R := la2 ++ lc) w5 HLb2.out HT5.out.has
  rw [← Hs1e.out] at hsum1
  refine hsum1.mono ?_
  clear hsum1
  unfold repVal
  rintro e w6 ⟨rfl, hB6⟩
  have HT6 := Lib.hid (HT5.out.trans (Turn.of_below HT5.out.has hB6))
  have hth1 := ((Turn.refl (Has.nil w6)).alloc (.cells (i64s noSum).toArray 38)).has.there (b := w6.heap.size) (c := (i64s noSum).toArray) (e := 38) (List.mem_cons_self ..) 0 (i64s s1).toArray.size (by rw [List.size_toArray, i64s_length, hs1l]; decide)
  have hsz1 := sum_store_size hs1l
  have hone1 := i64s_oneCell s1
  clear hB6 HT5
  have T7 := ((HT6.out.alloc (.cells (i64s noSum).toArray 38)).setCells (i64s s1) 0)
  rw [laidOver_all _ _ (by rw [i64s_length, hs1l]; rfl)] at T7
  have HT7 := Lib.hid (T7.perm (l2 := lb2 ++ ((w6.heap.size, .cells (i64s s1).toArray 38) :: (la2 ++ lc))) (by generalize (i64s s1).toArray = Z; exact perm_of fun c => by simp; omega))
  clear T7 HT6
  go_wp2_with (first | (refine wpList_store_mid rfl 38 _ _ rfl _ 0 (i64s s1).toArray rfl rfl hth1 hsz1 hone1 ?_) | (refine wpList_wp (by rfl) (wp_val (Hr1.out _ _ _ _ _ rfl rfl rfl) ?_)) | fail)
  clear hth1 hsz1 hone1
  refine (lAdd_any (R := (w6.heap.size, .cells (i64s s1).toArray 38) :: (la2 ++ lc)) _ HLb2.out (by omega) (by omega) HT7.out.has a1 d1 c1 (by omega) (xs.drop k) (fun r hr => Hx.out r (List.mem_of_mem_drop hr)) (fun W' l' T => Hs1.out W' (Hsrc.out W' (HT7.out.trans T).below))).mono ?_
  rintro e w8 ⟨rfl, lb3, Lb3, T8⟩
  have HLb3 := Lib.hid (show LogIs bb 1 xs lb3 by have h := Lb3; rwa [List.take_append_drop] at h)
  have HT8 := Lib.hid ((HT7.out.trans T8).perm (l2 := lc ++ ((w6.heap.size, .cells (i64s s1).toArray 38) :: (la2 ++ lb3))) (by generalize (i64s s1).toArray = Z; exact perm_of fun c => by simp; omega))
  clear Lb3 T8 HT7 HLb2
  generalize w6.heap.size = o1 at HT8 ⊢
  go_wp2_with (first | (refine wpList_wp (by rfl) (wp_val (Hr1.out _ _ _ _ _ rfl rfl rfl) ?_)) | fail)
  refine (lAdd_any (R := (o1, .cells (i64s s1).toArray 38) :: (la2 ++ lb3)) w8 HLc.out (by omega) (by omega) HT8.out.has a1 d1 c1 (by omega) (xs.drop k) (fun r hr => Hx.out r (List.mem_of_mem_drop hr)) (fun W' l' T => Hs1.out W' (Hsrc.out W' (HT8.out.trans T).below))).mono ?_
  rintro e w9 ⟨rfl, lc2, Lc2, T9⟩
  have HLc2 := Lib.hid (show LogIs bc 5 (xs.drop k) lc2 from Lc2)
  have HT9 := Lib.hid (HT8.out.trans T9)
  clear Lc2 T9 HT8 HLc
  go_wp2_with fail
  have hsum2 := sum_below (R := (o1, .cells (i64s s1).toArray 38) :: (la2 ++ lb3)) w9 HLc2.out HT9.out.has
  rw [← Hs2e.out] at hsum2
  refine hsum2.mono ?_
  clear hsum2
  unfold repVal
  rintro e w10 ⟨rfl, hB10⟩
  have HT10 := Lib.hid (HT9.out.trans (Turn.of_below HT9.out.has hB10))
  have hth2 := ((Turn.refl (Has.nil w10)).alloc (.cells (i64s noSum).toArray 38)).has.there (b := w10.heap.size) (c := (i64s noSum).toArray) (e := 38) (List.mem_cons_self ..) 0 (i64s s2).toArray.size (by rw [List.size_toArray, i64s_length, hs2l]; decide)
  have hsz2 := sum_store_size hs2l
  have hone2 := i64s_oneCell s2
  clear hB10 HT9
  have T11 := ((HT10.out.alloc (.cells (i64s noSum).toArray 38)).setCells (i64s s2) 0)
  rw [laidOver_all _ _ (by rw [i64s_length, hs2l]; rfl)] at T11
  have HT11 := Lib.hid T11
  clear T11 HT10
  go_upto_region 15 with (first | (refine wpList_store_mid rfl 38 _ _ rfl _ 0 (i64s s2).toArray rfl rfl hth2 hsz2 hone2 ?_) | fail)
  clear hth2 hsz2 hone2
  refine Code.wp_world (fun W => Turn [] w ((w10.heap.size, .cells (i64s s2).toArray 38) :: (lc2 ++ ((o1, .cells (i64s s1).toArray 38) :: (la2 ++ lb3)))) W) HT11.out fun W3 hW3 => ?_
  clear HT11
  generalize w10.heap.size = o2 at hW3 ⊢
  have hH3 := hW3.has
  have HA3 := Lib.hid (show Has W3.drew (la2 ++ (lb3 ++ (lc2 ++ [(o1, .cells (i64s s1).toArray 38), (o2, .cells (i64s s2).toArray 38)]))) from hH3.drew.perm (by generalize (i64s s1).toArray = Z; generalize (i64s s2).toArray = Z2; exact perm_of fun c => by simp; omega))
  have HBb3 := Lib.hid (show Has W3.drew (lb3 ++ (la2 ++ (lc2 ++ [(o1, .cells (i64s s1).toArray 38), (o2, .cells (i64s s2).toArray 38)]))) from hH3.drew.perm (by generalize (i64s s1).toArray = Z; generalize (i64s s2).toArray = Z2; exact perm_of fun c => by simp; omega))
  have hS : (fun W' : World => W'.rangeAt o1 0 (i64s s1) ∧ W'.rangeAt o2 0 (i64s s2)) W3.drew := ⟨range_of_has (c := (i64s s1).toArray) hH3.drew (List.mem_cons_of_mem _ (List.mem_append_right _ (List.mem_cons_self ..))), range_of_has (c := (i64s s2).toArray) hH3.drew (List.mem_cons_self ..)⟩
  have HB3 := Lib.hid (show Below w.heap.size w W3.drew from hW3.drew.below)
  clear hW3 hH3
  obtain ⟨p0, q0, u0, hp0, hq0, hu0, hw0⟩ := sums_meet xs k 0 (by omega)
  obtain ⟨p1, q1, u1, hp1, hq1, hu1, hw1⟩ := sums_meet xs k 1 (by omega)
  obtain ⟨p2, q2, u2, hp2, hq2, hu2, hw2⟩ := sums_meet xs k 2 (by omega)
  obtain ⟨p3, q3, u3, hp3, hq3, hu3, hw3⟩ := sums_meet xs k 3 (by omega)
  obtain ⟨p7, q7, u7, hp7, hq7, hu7, hw7⟩ := sums_meet xs k 7 (by omega)
  rw [← Hs1e.out] at hp0 hp1 hp2 hp3 hp7
  rw [← Hs2e.out] at hq0 hq1 hq2 hq3 hq7
  rw [← Hsue.out] at hu0 hu1 hu2 hu3 hu7
  have Hp0 := Lib.hid hp0
  clear hp0
  have Hq0 := Lib.hid hq0
  clear hq0
  have Hu0 := Lib.hid hu0
  clear hu0
  have Hw0 := Lib.hid hw0
  clear hw0
  have Hp1 := Lib.hid hp1
  clear hp1
  have Hq1 := Lib.hid hq1
  clear hq1
  have Hu1 := Lib.hid hu1
  clear hu1
  have Hw1 := Lib.hid hw1
  clear hw1
  have Hp2 := Lib.hid hp2
  clear hp2
  have Hq2 := Lib.hid hq2
  clear hq2
  have Hu2 := Lib.hid hu2
  clear hu2
  have Hw2 := Lib.hid hw2
  clear hw2
  have Hp3 := Lib.hid hp3
  clear hp3
  have Hq3 := Lib.hid hq3
  clear hq3
  have Hu3 := Lib.hid hu3
  clear hu3
  have Hw3 := Lib.hid hw3
  clear hw3
  have Hp7 := Lib.hid hp7
  clear hp7
  have Hq7 := Lib.hid hq7
  clear hq7
  have Hu7 := Lib.hid hu7
  clear hu7
  have Hw7 := Lib.hid hw7
  clear hw7
  refine wp_region_noPanic ?_
  refine wp_region_listed (S := (fun W' : World => W'.rangeAt o1 0 (i64s s1) ∧ W'.rangeAt o2 0 (i64s s2))) 60 [false, false, false, false, false, false, false, false, false, false, false, false, false, false, false, false, false, false, false, false, false, false, false, false, false, false, false, false, false, false, false, false, false, false, false, false, false, false, false, false, false, false, false, false, false, false, false, false, false, false, false, false, false, false, false, false, false, false, false, false] rfl rfl (by kernel_rfl) ?_
  refine takeG 0 97 rfl rfl (by rfl) (by kernel_rfl) (by kernel_rfl) (by kernel_rfl) (fun _ _ _ _ h => h) hS (by (intro w hSw; clear hSw; go_simp; try rfl)) ?_
  simp only [List.set_cons_zero, List.set_cons_succ]
  refine takeG 2 99 rfl rfl (by rfl) (by kernel_rfl) (by kernel_rfl) (by kernel_rfl) (fun _ _ _ _ h => h) hS (by (intro w hSw; clear hSw; go_simp; try rfl)) ?_
  simp only [List.set_cons_zero, List.set_cons_succ]
  refine wpAnyH_ready (rs := [1]) (by kernel_rfl) (by simp) (AllReadyH.cons rfl (fun K hK => ?_) AllReadyH.nil)
  go_simp
  have hsum := sum_below (R := lb3 ++ (lc2 ++ [(o1, .cells (i64s s1).toArray 38), (o2, .cells (i64s s2).toArray 38)])) W3.drew HLa2.out HA3.out
  rw [← Hsue.out] at hsum
  refine hsum.mono ?_
  clear hsum
  unfold repVal
  rintro e v1 ⟨rfl, hBv1⟩
  have HV1 := Lib.hid (Below.next HB3.out hBv1)
  have hS1 : (fun W' : World => W'.rangeAt o1 0 (i64s s1) ∧ W'.rangeAt o2 0 (i64s s2)) v1 := ⟨range_below hS.1 hBv1, range_below hS.2 hBv1⟩
  have HD1 := Lib.hid hBv1
  refine hK.out _ _ hS1 fun _ => ?_
  simp only [List.setIfInBounds_toArray, List.set_cons_zero, List.set_cons_succ]
  clear hK K
  clear hBv1 hS
  refine wpAnyH_ready (rs := [3]) (by kernel_rfl) (by simp) (AllReadyH.cons rfl (fun K hK => ?_) AllReadyH.nil)
  go_simp
  have hsum := sum_below (R := la2 ++ (lc2 ++ [(o1, .cells (i64s s1).toArray 38), (o2, .cells (i64s s2).toArray 38)])) v1 HLb3.out (HBb3.out.below HD1.out)
  rw [← Hsue.out] at hsum
  refine hsum.mono ?_
  clear hsum
  unfold repVal
  rintro e v2 ⟨rfl, hBv2⟩
  have HV2 := Lib.hid (Below.next HV1.out hBv2)
  have hS2 : (fun W' : World => W'.rangeAt o1 0 (i64s s1) ∧ W'.rangeAt o2 0 (i64s s2)) v2 := ⟨range_below hS1.1 hBv2, range_below hS1.2 hBv2⟩
  have HD2 := Lib.hid (Below.next HD1.out hBv2)
  refine hK.out _ _ hS2 fun _ => ?_
  simp only [List.setIfInBounds_toArray, List.set_cons_zero, List.set_cons_succ]
  clear hK K
  clear hBv2 hS1 HD1
  refine takeG (v := .bool false) 4 101 rfl rfl (by rfl) (by kernel_rfl) (by kernel_rfl) (by kernel_rfl) (fun _ _ _ _ h => h) hS2 (fun w' _ => (neq_sum_run rfl su su hsul hsul rfl rfl).trans (by rw [beq_self_eq_true]; rfl)) ?_
  simp only [List.set_cons_zero, List.set_cons_succ]
  refine takeG 5 102 rfl rfl (by rfl) (by kernel_rfl) (by kernel_rfl) (by kernel_rfl) (fun _ _ _ _ h => h) hS2 (by (intro w hSw; clear hSw; go_simp; try rfl)) ?_
  simp only [List.set_cons_zero, List.set_cons_succ]
  refine takeG (v := .pointer (some ⟨o1, 0, none⟩)) 6 103 rfl rfl (by rfl) (by kernel_rfl) (by kernel_rfl) (by kernel_rfl) (fun _ _ _ _ h => h) hS2 (by (intro w hSw; clear hSw; go_simp; try rfl)) ?_
  simp only [List.set_cons_zero, List.set_cons_succ]
  refine takeG (v := .int .i64 p0) 7 104 rfl rfl (by rfl) (by kernel_rfl) (by kernel_rfl) (by kernel_rfl) (fun _ _ _ _ h => h) hS2 (by (intro w hSw; have hc : w.cell? ⟨o1, 0, none⟩ = some (.int .i64 p0) := (congrArg w.cell? (by simp)).trans (hSw.1 0 _ Hp0.out); clear hSw; go_simp; try rfl)) ?_
  simp only [List.set_cons_zero, List.set_cons_succ]
  refine takeG (v := .pointer (some ⟨o2, 0, none⟩)) 8 105 rfl rfl (by rfl) (by kernel_rfl) (by kernel_rfl) (by kernel_rfl) (fun _ _ _ _ h => h) hS2 (by (intro w hSw; clear hSw; go_simp; try rfl)) ?_
  simp only [List.set_cons_zero, List.set_cons_succ]
  refine takeG (v := .int .i64 q0) 9 106 rfl rfl (by rfl) (by kernel_rfl) (by kernel_rfl) (by kernel_rfl) (fun _ _ _ _ h => h) hS2 (by (intro w hSw; have hc : w.cell? ⟨o2, 0, none⟩ = some (.int .i64 q0) := (congrArg w.cell? (by simp)).trans (hSw.2 0 _ Hq0.out); clear hSw; go_simp; try rfl)) ?_
  simp only [List.set_cons_zero, List.set_cons_succ]
  refine takeG (v := .int .i64 u0) 10 107 rfl rfl (by rfl) (by kernel_rfl) (by kernel_rfl) (by kernel_rfl) (fun _ _ _ _ h => h) hS2 (by (intro w hSw; clear hSw; have hw := Hw0.out; go_simp; try rfl)) ?_
  simp only [List.set_cons_zero, List.set_cons_succ]
  refine takeG 11 108 rfl rfl (by rfl) (by kernel_rfl) (by kernel_rfl) (by kernel_rfl) (fun _ _ _ _ h => h) hS2 (by (intro w hSw; clear hSw; go_simp; try rfl)) ?_
  simp only [List.set_cons_zero, List.set_cons_succ]
  refine wpAnyH_ready (rs := [12]) (by kernel_rfl) (by simp) (AllReadyH.cons rfl (fun K hK => ?_) AllReadyH.nil)
  go_simp
  have hsum := sum_below (R := lb3 ++ (lc2 ++ [(o1, .cells (i64s s1).toArray 38), (o2, .cells (i64s s2).toArray 38)])) v2 HLa2.out (HA3.out.below HD2.out)
  rw [← Hsue.out] at hsum
  refine hsum.mono ?_
  clear hsum
  unfold repVal
  rintro e v3 ⟨rfl, hBv3⟩
  have HV3 := Lib.hid (Below.next HV2.out hBv3)
  have hS3 : (fun W' : World => W'.rangeAt o1 0 (i64s s1) ∧ W'.rangeAt o2 0 (i64s s2)) v3 := ⟨range_below hS2.1 hBv3, range_below hS2.2 hBv3⟩
  have HD3 := Lib.hid (Below.next HD2.out hBv3)
  refine hK.out _ _ hS3 fun _ => ?_
  simp only [List.setIfInBounds_toArray, List.set_cons_zero, List.set_cons_succ]
  clear hK K
  clear hBv3 hS2 HD2
  refine takeG (v := .int .i64 u0) 13 110 rfl rfl (by rfl) (by kernel_rfl) (by kernel_rfl) (by kernel_rfl) (fun _ _ _ _ h => h) hS3 (fun w' _ => field_sum_at 0 (by omega) rfl su hsul rfl u0 Hu0.out) ?_
  simp only [List.set_cons_zero, List.set_cons_succ]
  refine takeG (v := .bool false) 14 111 rfl rfl (by rfl) (by kernel_rfl) (by kernel_rfl) (by kernel_rfl) (fun _ _ _ _ h => h) hS3 (by (intro w hSw; clear hSw; go_simp; try rfl)) ?_
  simp only [List.set_cons_zero, List.set_cons_succ]
  refine takeG (v := .bool false) 15 112 rfl rfl (by rfl) (by kernel_rfl) (by kernel_rfl) (by kernel_rfl) (fun _ _ _ _ h => h) hS3 (by (intro w hSw; clear hSw; go_simp; try rfl)) ?_
  simp only [List.set_cons_zero, List.set_cons_succ]
  refine takeG 16 113 rfl rfl (by rfl) (by kernel_rfl) (by kernel_rfl) (by kernel_rfl) (fun _ _ _ _ h => h) hS3 (by (intro w hSw; clear hSw; go_simp; try rfl)) ?_
  simp only [List.set_cons_zero, List.set_cons_succ]
  refine takeG (v := .pointer (some ⟨o1, 1, none⟩)) 17 114 rfl rfl (by rfl) (by kernel_rfl) (by kernel_rfl) (by kernel_rfl) (fun _ _ _ _ h => h) hS3 (by (intro w hSw; clear hSw; go_simp; try rfl)) ?_
  simp only [List.set_cons_zero, List.set_cons_succ]
  refine takeG (v := .int .i64 p1) 18 115 rfl rfl (by rfl) (by kernel_rfl) (by kernel_rfl) (by kernel_rfl) (fun _ _ _ _ h => h) hS3 (by (intro w hSw; have hc : w.cell? ⟨o1, 1, none⟩ = some (.int .i64 p1) := (congrArg w.cell? (by simp)).trans (hSw.1 1 _ Hp1.out); clear hSw; go_simp; try rfl)) ?_
  simp only [List.set_cons_zero, List.set_cons_succ]
  refine takeG (v := .pointer (some ⟨o2, 1, none⟩)) 19 116 rfl rfl (by rfl) (by kernel_rfl) (by kernel_rfl) (by kernel_rfl) (fun _ _ _ _ h => h) hS3 (by (intro w hSw; clear hSw; go_simp; try rfl)) ?_
  simp only [List.set_cons_zero, List.set_cons_succ]
  refine takeG (v := .int .i64 q1) 20 117 rfl rfl (by rfl) (by kernel_rfl) (by kernel_rfl) (by kernel_rfl) (fun _ _ _ _ h => h) hS3 (by (intro w hSw; have hc : w.cell? ⟨o2, 1, none⟩ = some (.int .i64 q1) := (congrArg w.cell? (by simp)).trans (hSw.2 1 _ Hq1.out); clear hSw; go_simp; try rfl)) ?_
  simp only [List.set_cons_zero, List.set_cons_succ]
  refine takeG (v := .int .i64 u1) 21 118 rfl rfl (by rfl) (by kernel_rfl) (by kernel_rfl) (by kernel_rfl) (fun _ _ _ _ h => h) hS3 (by (intro w hSw; clear hSw; have hw := Hw1.out; go_simp; try rfl)) ?_
  simp only [List.set_cons_zero, List.set_cons_succ]
  refine takeG 22 119 rfl rfl (by rfl) (by kernel_rfl) (by kernel_rfl) (by kernel_rfl) (fun _ _ _ _ h => h) hS3 (by (intro w hSw; clear hSw; go_simp; try rfl)) ?_
  simp only [List.set_cons_zero, List.set_cons_succ]
  refine wpAnyH_ready (rs := [23]) (by kernel_rfl) (by simp) (AllReadyH.cons rfl (fun K hK => ?_) AllReadyH.nil)
  go_simp
  have hsum := sum_below (R := lb3 ++ (lc2 ++ [(o1, .cells (i64s s1).toArray 38), (o2, .cells (i64s s2).toArray 38)])) v3 HLa2.out (HA3.out.below HD3.out)
  rw [← Hsue.out] at hsum
  refine hsum.mono ?_
  clear hsum
  unfold repVal
  rintro e v4 ⟨rfl, hBv4⟩
  have HV4 := Lib.hid (Below.next HV3.out hBv4)
  have hS4 : (fun W' : World => W'.rangeAt o1 0 (i64s s1) ∧ W'.rangeAt o2 0 (i64s s2)) v4 := ⟨range_below hS3.1 hBv4, range_below hS3.2 hBv4⟩
  have HD4 := Lib.hid (Below.next HD3.out hBv4)
  refine hK.out _ _ hS4 fun _ => ?_
  simp only [List.setIfInBounds_toArray, List.set_cons_zero, List.set_cons_succ]
  clear hK K
  clear hBv4 hS3 HD3
  refine takeG (v := .int .i64 u1) 24 121 rfl rfl (by rfl) (by kernel_rfl) (by kernel_rfl) (by kernel_rfl) (fun _ _ _ _ h => h) hS4 (fun w' _ => field_sum_at 1 (by omega) rfl su hsul rfl u1 Hu1.out) ?_
  simp only [List.set_cons_zero, List.set_cons_succ]
  refine takeG (v := .bool false) 25 122 rfl rfl (by rfl) (by kernel_rfl) (by kernel_rfl) (by kernel_rfl) (fun _ _ _ _ h => h) hS4 (by (intro w hSw; clear hSw; go_simp; try rfl)) ?_
  simp only [List.set_cons_zero, List.set_cons_succ]
  refine takeG (v := .bool false) 26 123 rfl rfl (by rfl) (by kernel_rfl) (by kernel_rfl) (by kernel_rfl) (fun _ _ _ _ h => h) hS4 (by (intro w hSw; clear hSw; go_simp; try rfl)) ?_
  simp only [List.set_cons_zero, List.set_cons_succ]
  refine takeG 27 124 rfl rfl (by rfl) (by kernel_rfl) (by kernel_rfl) (by kernel_rfl) (fun _ _ _ _ h => h) hS4 (by (intro w hSw; clear hSw; go_simp; try rfl)) ?_
  simp only [List.set_cons_zero, List.set_cons_succ]
  refine takeG (v := .pointer (some ⟨o1, 2, none⟩)) 28 125 rfl rfl (by rfl) (by kernel_rfl) (by kernel_rfl) (by kernel_rfl) (fun _ _ _ _ h => h) hS4 (by (intro w hSw; clear hSw; go_simp; try rfl)) ?_
  simp only [List.set_cons_zero, List.set_cons_succ]
  refine takeG (v := .int .i64 p2) 29 126 rfl rfl (by rfl) (by kernel_rfl) (by kernel_rfl) (by kernel_rfl) (fun _ _ _ _ h => h) hS4 (by (intro w hSw; have hc : w.cell? ⟨o1, 2, none⟩ = some (.int .i64 p2) := (congrArg w.cell? (by simp)).trans (hSw.1 2 _ Hp2.out); clear hSw; go_simp; try rfl)) ?_
  simp only [List.set_cons_zero, List.set_cons_succ]
  refine takeG (v := .pointer (some ⟨o2, 2, none⟩)) 30 127 rfl rfl (by rfl) (by kernel_rfl) (by kernel_rfl) (by kernel_rfl) (fun _ _ _ _ h => h) hS4 (by (intro w hSw; clear hSw; go_simp; try rfl)) ?_
  simp only [List.set_cons_zero, List.set_cons_succ]
  refine takeG (v := .int .i64 q2) 31 128 rfl rfl (by rfl) (by kernel_rfl) (by kernel_rfl) (by kernel_rfl) (fun _ _ _ _ h => h) hS4 (by (intro w hSw; have hc : w.cell? ⟨o2, 2, none⟩ = some (.int .i64 q2) := (congrArg w.cell? (by simp)).trans (hSw.2 2 _ Hq2.out); clear hSw; go_simp; try rfl)) ?_
  simp only [List.set_cons_zero, List.set_cons_succ]
  refine takeG (v := .int .i64 u2) 32 129 rfl rfl (by rfl) (by kernel_rfl) (by kernel_rfl) (by kernel_rfl) (fun _ _ _ _ h => h) hS4 (by (intro w hSw; clear hSw; have hw := Hw2.out; go_simp; try rfl)) ?_
  simp only [List.set_cons_zero, List.set_cons_succ]
  refine takeG 33 130 rfl rfl (by rfl) (by kernel_rfl) (by kernel_rfl) (by kernel_rfl) (fun _ _ _ _ h => h) hS4 (by (intro w hSw; clear hSw; go_simp; try rfl)) ?_
  simp only [List.set_cons_zero, List.set_cons_succ]
  refine wpAnyH_ready (rs := [34]) (by kernel_rfl) (by simp) (AllReadyH.cons rfl (fun K hK => ?_) AllReadyH.nil)
  go_simp
  have hsum := sum_below (R := lb3 ++ (lc2 ++ [(o1, .cells (i64s s1).toArray 38), (o2, .cells (i64s s2).toArray 38)])) v4 HLa2.out (HA3.out.below HD4.out)
  rw [← Hsue.out] at hsum
  refine hsum.mono ?_
  clear hsum
  unfold repVal
  rintro e v5 ⟨rfl, hBv5⟩
  have HV5 := Lib.hid (Below.next HV4.out hBv5)
  have hS5 : (fun W' : World => W'.rangeAt o1 0 (i64s s1) ∧ W'.rangeAt o2 0 (i64s s2)) v5 := ⟨range_below hS4.1 hBv5, range_below hS4.2 hBv5⟩
  have HD5 := Lib.hid (Below.next HD4.out hBv5)
  refine hK.out _ _ hS5 fun _ => ?_
  simp only [List.setIfInBounds_toArray, List.set_cons_zero, List.set_cons_succ]
  clear hK K
  clear hBv5 hS4 HD4
  refine takeG (v := .int .i64 u2) 35 132 rfl rfl (by rfl) (by kernel_rfl) (by kernel_rfl) (by kernel_rfl) (fun _ _ _ _ h => h) hS5 (fun w' _ => field_sum_at 2 (by omega) rfl su hsul rfl u2 Hu2.out) ?_
  simp only [List.set_cons_zero, List.set_cons_succ]
  refine takeG (v := .bool false) 36 133 rfl rfl (by rfl) (by kernel_rfl) (by kernel_rfl) (by kernel_rfl) (fun _ _ _ _ h => h) hS5 (by (intro w hSw; clear hSw; go_simp; try rfl)) ?_
  simp only [List.set_cons_zero, List.set_cons_succ]
  refine takeG (v := .bool false) 37 134 rfl rfl (by rfl) (by kernel_rfl) (by kernel_rfl) (by kernel_rfl) (fun _ _ _ _ h => h) hS5 (by (intro w hSw; clear hSw; go_simp; try rfl)) ?_
  simp only [List.set_cons_zero, List.set_cons_succ]
  refine takeG 38 135 rfl rfl (by rfl) (by kernel_rfl) (by kernel_rfl) (by kernel_rfl) (fun _ _ _ _ h => h) hS5 (by (intro w hSw; clear hSw; go_simp; try rfl)) ?_
  simp only [List.set_cons_zero, List.set_cons_succ]
  refine takeG (v := .pointer (some ⟨o1, 3, none⟩)) 39 136 rfl rfl (by rfl) (by kernel_rfl) (by kernel_rfl) (by kernel_rfl) (fun _ _ _ _ h => h) hS5 (by (intro w hSw; clear hSw; go_simp; try rfl)) ?_
  simp only [List.set_cons_zero, List.set_cons_succ]
  refine takeG (v := .int .i64 p3) 40 137 rfl rfl (by rfl) (by kernel_rfl) (by kernel_rfl) (by kernel_rfl) (fun _ _ _ _ h => h) hS5 (by (intro w hSw; have hc : w.cell? ⟨o1, 3, none⟩ = some (.int .i64 p3) := (congrArg w.cell? (by simp)).trans (hSw.1 3 _ Hp3.out); clear hSw; go_simp; try rfl)) ?_
  simp only [List.set_cons_zero, List.set_cons_succ]
  refine takeG (v := .pointer (some ⟨o2, 3, none⟩)) 41 138 rfl rfl (by rfl) (by kernel_rfl) (by kernel_rfl) (by kernel_rfl) (fun _ _ _ _ h => h) hS5 (by (intro w hSw; clear hSw; go_simp; try rfl)) ?_
  simp only [List.set_cons_zero, List.set_cons_succ]
  refine takeG (v := .int .i64 q3) 42 139 rfl rfl (by rfl) (by kernel_rfl) (by kernel_rfl) (by kernel_rfl) (fun _ _ _ _ h => h) hS5 (by (intro w hSw; have hc : w.cell? ⟨o2, 3, none⟩ = some (.int .i64 q3) := (congrArg w.cell? (by simp)).trans (hSw.2 3 _ Hq3.out); clear hSw; go_simp; try rfl)) ?_
  simp only [List.set_cons_zero, List.set_cons_succ]
  refine takeG (v := .int .i64 u3) 43 140 rfl rfl (by rfl) (by kernel_rfl) (by kernel_rfl) (by kernel_rfl) (fun _ _ _ _ h => h) hS5 (by (intro w hSw; clear hSw; have hw := Hw3.out; go_simp; try rfl)) ?_
  simp only [List.set_cons_zero, List.set_cons_succ]
  refine takeG 44 141 rfl rfl (by rfl) (by kernel_rfl) (by kernel_rfl) (by kernel_rfl) (fun _ _ _ _ h => h) hS5 (by (intro w hSw; clear hSw; go_simp; try rfl)) ?_
  simp only [List.set_cons_zero, List.set_cons_succ]
  refine wpAnyH_ready (rs := [45]) (by kernel_rfl) (by simp) (AllReadyH.cons rfl (fun K hK => ?_) AllReadyH.nil)
  go_simp
  have hsum := sum_below (R := lb3 ++ (lc2 ++ [(o1, .cells (i64s s1).toArray 38), (o2, .cells (i64s s2).toArray 38)])) v5 HLa2.out (HA3.out.below HD5.out)
  rw [← Hsue.out] at hsum
  refine hsum.mono ?_
  clear hsum
  unfold repVal
  rintro e v6 ⟨rfl, hBv6⟩
  have HV6 := Lib.hid (Below.next HV5.out hBv6)
  have hS6 : (fun W' : World => W'.rangeAt o1 0 (i64s s1) ∧ W'.rangeAt o2 0 (i64s s2)) v6 := ⟨range_below hS5.1 hBv6, range_below hS5.2 hBv6⟩
  have HD6 := Lib.hid (Below.next HD5.out hBv6)
  refine hK.out _ _ hS6 fun _ => ?_
  simp only [List.setIfInBounds_toArray, List.set_cons_zero, List.set_cons_succ]
  clear hK K
  clear hBv6 hS5 HD5
  refine takeG (v := .int .i64 u3) 46 143 rfl rfl (by rfl) (by kernel_rfl) (by kernel_rfl) (by kernel_rfl) (fun _ _ _ _ h => h) hS6 (fun w' _ => field_sum_at 3 (by omega) rfl su hsul rfl u3 Hu3.out) ?_
  simp only [List.set_cons_zero, List.set_cons_succ]
  refine takeG (v := .bool false) 47 144 rfl rfl (by rfl) (by kernel_rfl) (by kernel_rfl) (by kernel_rfl) (fun _ _ _ _ h => h) hS6 (by (intro w hSw; clear hSw; go_simp; try rfl)) ?_
  simp only [List.set_cons_zero, List.set_cons_succ]
  refine takeG (v := .bool false) 48 145 rfl rfl (by rfl) (by kernel_rfl) (by kernel_rfl) (by kernel_rfl) (fun _ _ _ _ h => h) hS6 (by (intro w hSw; clear hSw; go_simp; try rfl)) ?_
  simp only [List.set_cons_zero, List.set_cons_succ]
  refine takeG 49 146 rfl rfl (by rfl) (by kernel_rfl) (by kernel_rfl) (by kernel_rfl) (fun _ _ _ _ h => h) hS6 (by (intro w hSw; clear hSw; go_simp; try rfl)) ?_
  simp only [List.set_cons_zero, List.set_cons_succ]
  refine takeG (v := .pointer (some ⟨o1, 7, none⟩)) 50 147 rfl rfl (by rfl) (by kernel_rfl) (by kernel_rfl) (by kernel_rfl) (fun _ _ _ _ h => h) hS6 (by (intro w hSw; clear hSw; go_simp; try rfl)) ?_
  simp only [List.set_cons_zero, List.set_cons_succ]
  refine takeG (v := .int .i64 p7) 51 148 rfl rfl (by rfl) (by kernel_rfl) (by kernel_rfl) (by kernel_rfl) (fun _ _ _ _ h => h) hS6 (by (intro w hSw; have hc : w.cell? ⟨o1, 7, none⟩ = some (.int .i64 p7) := (congrArg w.cell? (by simp)).trans (hSw.1 7 _ Hp7.out); clear hSw; go_simp; try rfl)) ?_
  simp only [List.set_cons_zero, List.set_cons_succ]
  refine takeG (v := .pointer (some ⟨o2, 7, none⟩)) 52 149 rfl rfl (by rfl) (by kernel_rfl) (by kernel_rfl) (by kernel_rfl) (fun _ _ _ _ h => h) hS6 (by (intro w hSw; clear hSw; go_simp; try rfl)) ?_
  simp only [List.set_cons_zero, List.set_cons_succ]
  refine takeG (v := .int .i64 q7) 53 150 rfl rfl (by rfl) (by kernel_rfl) (by kernel_rfl) (by kernel_rfl) (fun _ _ _ _ h => h) hS6 (by (intro w hSw; have hc : w.cell? ⟨o2, 7, none⟩ = some (.int .i64 q7) := (congrArg w.cell? (by simp)).trans (hSw.2 7 _ Hq7.out); clear hSw; go_simp; try rfl)) ?_
  simp only [List.set_cons_zero, List.set_cons_succ]
  refine takeG (v := .int .i64 u7) 54 151 rfl rfl (by rfl) (by kernel_rfl) (by kernel_rfl) (by kernel_rfl) (fun _ _ _ _ h => h) hS6 (by (intro w hSw; clear hSw; have hw := Hw7.out; go_simp; try rfl)) ?_
  simp only [List.set_cons_zero, List.set_cons_succ]
  refine takeG 55 152 rfl rfl (by rfl) (by kernel_rfl) (by kernel_rfl) (by kernel_rfl) (fun _ _ _ _ h => h) hS6 (by (intro w hSw; clear hSw; go_simp; try rfl)) ?_
  simp only [List.set_cons_zero, List.set_cons_succ]
  refine wpAnyH_ready (rs := [56]) (by kernel_rfl) (by simp) (AllReadyH.cons rfl (fun K hK => ?_) AllReadyH.nil)
  go_simp
  have hsum := sum_below (R := lb3 ++ (lc2 ++ [(o1, .cells (i64s s1).toArray 38), (o2, .cells (i64s s2).toArray 38)])) v6 HLa2.out (HA3.out.below HD6.out)
  rw [← Hsue.out] at hsum
  refine hsum.mono ?_
  clear hsum
  unfold repVal
  rintro e v7 ⟨rfl, hBv7⟩
  have HV7 := Lib.hid (Below.next HV6.out hBv7)
  have hS7 : (fun W' : World => W'.rangeAt o1 0 (i64s s1) ∧ W'.rangeAt o2 0 (i64s s2)) v7 := ⟨range_below hS6.1 hBv7, range_below hS6.2 hBv7⟩
  have HD7 := Lib.hid (Below.next HD6.out hBv7)
  refine hK.out _ _ hS7 fun _ => ?_
  simp only [List.setIfInBounds_toArray, List.set_cons_zero, List.set_cons_succ]
  clear hK K
  clear hBv7 hS6 HD6
  refine takeG (v := .int .i64 u7) 57 154 rfl rfl (by rfl) (by kernel_rfl) (by kernel_rfl) (by kernel_rfl) (fun _ _ _ _ h => h) hS7 (fun w' _ => field_sum_at 7 (by omega) rfl su hsul rfl u7 Hu7.out) ?_
  simp only [List.set_cons_zero, List.set_cons_succ]
  refine takeG (v := .bool false) 58 155 rfl rfl (by rfl) (by kernel_rfl) (by kernel_rfl) (by kernel_rfl) (fun _ _ _ _ h => h) hS7 (by (intro w hSw; clear hSw; go_simp; try rfl)) ?_
  simp only [List.set_cons_zero, List.set_cons_succ]
  refine takeG (v := .bool false) 59 156 rfl rfl (by rfl) (by kernel_rfl) (by kernel_rfl) (by kernel_rfl) (fun _ _ _ _ h => h) hS7 (by (intro w hSw; clear hSw; go_simp; try rfl)) ?_
  simp only [List.set_cons_zero, List.set_cons_succ]
  refine wpAnyH_done (by kernel_rfl) ?_ _
  refine NoPanic.normal ?_
  have HBd := Lib.hid HV7.out
  clear hS7 HD7 HV1 HV2 HV3 HV4 HV5 HV6 HV7 HA3 HBb3 HLa2 HLb3 HLc2 HB3
  go_wp2_with fail
  go_loopw [18] (fun v18 wr => ∃ q : Nat, q ≤ n ∧ v18 = .int .i64 q ∧ Below w.heap.size w wr) (fun v18 _ => n - (intOf v18).toNat)
  case atStart => exact ⟨0, Nat.zero_le _, rfl, HBd.out⟩
  case round =>
    obtain ⟨q, hq, rfl, hB⟩ := hrel
    have HB := Lib.hid hB
    clear hB
    by_cases hlt : q < n
    · have hlt' : (q : Int) < (n : Int) := by omega
      obtain ⟨r, hr⟩ : ∃ r, xs[q]? = some r := ⟨xs[q]'(by have := Hxl.out; omega), List.getElem?_eq_getElem _⟩
      have hrok := Hx.out r (List.mem_of_getElem? hr)
      have hsw := Hsrc.out wr HB.out
      obtain ⟨bz, oz, rfl, -⟩ := hsw.form (by rw [reps_length Hx.out, Hxl.out]; omega)
      have hrg : wr.rangeAt bz (oz + q * 21) (i64s r) := hsw.rep Hx.out hr
      have hrl := hrok.len
      have Hrok := Lib.hid hrok
      have hszr := rep_size (n := (i64s r).length) (by rw [i64s_length]; exact hrl)
      have hszBr := rep_size (n := (i64s r).toArray.size) (by rw [List.size_toArray, i64s_length]; exact hrl)
      have honer := i64s_oneCell r
      have hlsz : (⟨(line r).toArray⟩ : ByteArray).size ≤ 4096 := by
        have h := line_short r hrok.2
        rw [hrl] at h
        show (line r).toArray.size ≤ 4096
        rw [List.size_toArray]
        omega
      have hrd : ∀ W, Env W → Calls Tryd.prog 8 #[.string ⟨(line r).toArray⟩] W fun e w' => e = .returned (.tuple #[.agg (i64s r).toArray, .int .i64 0]) ∧ Below W.heap.size W w' := fun W h => by
        have h1 := read_below W h ⟨(line r).toArray⟩ hlsz
        rw [show (⟨(line r).toArray⟩ : ByteArray).data.toList = line r from rfl, readF_line r hrl hrok.2] at h1
        exact h1
      have Hrd := Lib.hid hrd
      clear hrd hlsz hr hsw hrok
      go_wp2_with (first | (refine wpList_wp (by rfl) (wp_load_mid 25 _ rfl bz (oz + q * 21) rfl (i64s r) _ hrg Tryd.underlying25 rfl hszr ?_)) | fail)
      refine (line_below wr (HE.out.below HB.out) r Hrok.out).mono ?_
      rintro e wa ⟨rfl, hBa⟩
      have HBa := Lib.hid (Below.next HB.out hBa)
      have hrga := range_below hrg hBa
      clear hBa hrg HB
      go_wp2_with fail
      refine (Hrd.out wa (HE.out.below HBa.out)).mono ?_
      rintro e wb ⟨rfl, hBb⟩
      have hth1 := ((Turn.refl (Has.nil wb)).alloc (.cells (i64s zeros).toArray 25)).has.there (b := wb.heap.size) (c := (i64s zeros).toArray) (e := 25) (List.mem_cons_self ..) 0 (i64s r).toArray.size (by rw [List.size_toArray, i64s_length, hrl]; decide)
      obtain ⟨hl1, hr1⟩ := laid_rep wb r hrl
      have HBb := Lib.hid (Below.next (Below.next HBa.out hBb) hl1)
      have Hrgb := Lib.hid (range_below (range_below hrga hBb) hl1)
      have Hr1b := Lib.hid hr1
      clear hBb hrga HBa hl1 hr1 Hrd
      go_upto_region 21 with (first | (refine wpList_store_mid rfl 25 _ _ rfl _ 0 (i64s r).toArray rfl rfl hth1 hszBr honer ?_) | fail)
      refine Code.wp_world (fun W => Below w.heap.size w W ∧ (fun W' : World => W'.rangeAt wb.heap.size 0 (i64s r) ∧ W'.rangeAt bz (oz + q * 21) (i64s r)) W.drew) ⟨HBb.out, Hr1b.out, Hrgb.out⟩ fun W4 hW4 => ?_
      obtain ⟨hB4, hS⟩ := hW4
      have HB4 := Lib.hid hB4
      clear hB4 HBb Hr1b Hrgb hth1 honer hszBr
      refine wp_region_noPanic ?_
      refine wp_region_listed (S := (fun W' : World => W'.rangeAt wb.heap.size 0 (i64s r) ∧ W'.rangeAt bz (oz + q * 21) (i64s r))) 10 [false, false, false, false, false, false, false, false, false, false] rfl rfl (by kernel_rfl) ?_
      refine takeG 0 172 rfl rfl (by rfl) (by kernel_rfl) (by kernel_rfl) (by kernel_rfl) (fun _ _ _ _ h => h) hS (by (intro w hSw; clear hSw; go_simp; try rfl)) ?_
      simp only [List.set_cons_zero, List.set_cons_succ]
      refine takeG 1 173 rfl rfl (by rfl) (by kernel_rfl) (by kernel_rfl) (by kernel_rfl) (fun _ _ _ _ h => h) hS (by (intro w hSw; clear hSw; go_simp; try rfl)) ?_
      simp only [List.set_cons_zero, List.set_cons_succ]
      refine takeG 2 174 rfl rfl (by rfl) (by kernel_rfl) (by kernel_rfl) (by kernel_rfl) (fun _ _ _ _ h => h) hS (by (intro w hSw; clear hSw; go_simp; try rfl)) ?_
      simp only [List.set_cons_zero, List.set_cons_succ]
      refine takeG 3 175 rfl rfl (by rfl) (by kernel_rfl) (by kernel_rfl) (by kernel_rfl) (fun _ _ _ _ h => h) hS (fun w' hSw => load_mid_run 25 _ rfl wb.heap.size 0 rfl (i64s r) _ hSw.1 Tryd.underlying25 rfl hszr) ?_
      simp only [List.set_cons_zero, List.set_cons_succ]
      refine takeG 4 176 rfl rfl (by rfl) (by kernel_rfl) (by kernel_rfl) (by kernel_rfl) (fun _ _ _ _ h => h) hS (by (intro w hSw; clear hSw; go_simp; try rfl)) ?_
      simp only [List.set_cons_zero, List.set_cons_succ]
      refine takeG 5 177 rfl rfl (by rfl) (by kernel_rfl) (by kernel_rfl) (by kernel_rfl) (fun _ _ _ _ h => h) hS (by (intro w hSw; clear hSw; go_simp; try rfl)) ?_
      simp only [List.set_cons_zero, List.set_cons_succ]
      refine takeG 6 178 rfl rfl (by rfl) (by kernel_rfl) (by kernel_rfl) (by kernel_rfl) (fun _ _ _ _ h => h) hS (by (intro w hSw; clear hSw; go_simp; try rfl)) ?_
      simp only [List.set_cons_zero, List.set_cons_succ]
      refine takeG 7 179 rfl rfl (by rfl) (by kernel_rfl) (by kernel_rfl) (by kernel_rfl) (fun _ _ _ _ h => h) hS (fun w' hSw => load_mid_run 25 _ rfl bz (oz + q * 21) rfl (i64s r) _ hSw.2 Tryd.underlying25 rfl hszr) ?_
      simp only [List.set_cons_zero, List.set_cons_succ]
      refine takeG (v := .bool false) 8 180 rfl rfl (by rfl) (by kernel_rfl) (by kernel_rfl) (by kernel_rfl) (fun _ _ _ _ h => h) hS (fun w' _ => (neq_rep_run rfl r r hrl hrl rfl rfl).trans (by rw [beq_self_eq_true]; rfl)) ?_
      simp only [List.set_cons_zero, List.set_cons_succ]
      refine takeG 9 181 rfl rfl (by rfl) (by kernel_rfl) (by kernel_rfl) (by kernel_rfl) (fun _ _ _ _ h => h) hS (by (intro w hSw; clear hSw; go_simp; try rfl)) ?_
      simp only [List.set_cons_zero, List.set_cons_succ]
      refine wpAnyH_done (by kernel_rfl) ?_ _
      refine NoPanic.normal ?_
      have HB5 := Lib.hid (show Below w.heap.size w W4.drew from HB4.out.drew)
      clear hS HB4
      go_wp2_with fail
      go_roundw
      case rel => exact ⟨q + 1, by omega, by go_num, HB5.out⟩
      case measure => simp [intOf]; omega
    · obtain rfl : q = n := by omega
      have hlt' : ¬ (q : Int) < (q : Int) := by omega
      obtain ⟨x, Hxe⟩ : ∃ x : List Int, Hid (x = (readF s.data.toList).getD zeros) := ⟨_, Lib.hid rfl⟩
      have hx := readF_len Hxe.out
      have hszBx := rep_size (n := (i64s x).toArray.size) (by rw [List.size_toArray, i64s_length]; exact hx)
      have hszx := rep_size (n := (i64s x).length) (by rw [i64s_length]; exact hx)
      have honex := i64s_oneCell x
      have hrd : ∀ W, Env W → Calls Tryd.prog 8 #[.string s] W fun e w' => e = .returned (.tuple #[.agg (i64s x).toArray, .int .i64 (if (readF s.data.toList).isSome then 0 else 7)]) ∧ Below W.heap.size W w' := fun W h => by
        have h1 := read_below W h s (by omega)
        rw [← Hxe.out] at h1
        exact h1
      have Hrd := Lib.hid hrd
      clear hrd
      cases hrf : readF s.data.toList with
      | some y =>
        have hxy : x = y := by rw [Hxe.out, hrf]; rfl
        obtain ⟨hy1, -, hy2, -, -⟩ := readF_back hrf
        rw [← hxy] at hy1 hy2
        have Hxok := Lib.hid (show RepOk x from ⟨hx, hy2⟩)
        have hln : ∀ W, Env W → Calls Tryd.prog 10 #[.agg (i64s x).toArray] W fun e w' => e = .returned (.string s) ∧ Below W.heap.size W w' := fun W h => by
          have h1 := line_below W h x Hxok.out
          rw [hy1] at h1
          exact h1
        have Hln := Lib.hid hln
        rw [hrf] at Hrd
        have Hrd2 := Lib.hid (show ∀ W, Env W → Calls Tryd.prog 8 #[.string s] W fun e w' => e = .returned (.tuple #[.agg (i64s x).toArray, .int .i64 0]) ∧ Below W.heap.size W w' from Hrd.out)
        clear hln hy1 hy2 hxy hrf Hrd
        go_wp2_with fail
        refine (Hrd2.out wr (HE.out.below HB.out)).mono ?_
        rintro e wb ⟨rfl, hBb⟩
        have hth1 := ((Turn.refl (Has.nil wb)).alloc (.cells (i64s zeros).toArray 25)).has.there (b := wb.heap.size) (c := (i64s zeros).toArray) (e := 25) (List.mem_cons_self ..) 0 (i64s x).toArray.size (by rw [List.size_toArray, i64s_length, hx]; decide)
        obtain ⟨hl1, hr1⟩ := laid_rep wb x hx
        have HBb := Lib.hid (Below.next (Below.next HB.out hBb) hl1)
        have hrb := hr1
        clear hBb HB hl1 hr1 Hrd2
        go_upto_region 24 with (first | (refine wpList_store_mid rfl 25 _ _ rfl _ 0 (i64s x).toArray rfl rfl hth1 hszBx honex ?_) | fail)
        refine Code.wp_world (fun W => Below w.heap.size w W ∧ W.rangeAt wb.heap.size 0 (i64s x)) ⟨HBb.out, hrb⟩ fun W4 hW4 => ?_
        obtain ⟨hB4, hr4⟩ := hW4
        have HB4 := Lib.hid hB4
        clear hB4 HBb hrb hth1 honex hszBx
        go_wp2_with (first
          | (refine wpList_wp (by rfl) (wp_load_mid 25 _ rfl wb.heap.size 0 rfl (i64s x) _ hr4 Tryd.underlying25 rfl hszx ?_))
          | (go_at_call 10; refine (Hln.out W4 (HE.out.below HB4.out)).mono ?_; rintro e w5 ⟨rfl, hB5⟩; have HB5 := Lib.hid (Below.next HB4.out hB5); clear hB5)
          | (go_at_call 7; refine (alive34 w5 (HE.out.below HB5.out)).mono ?_; rintro e w6 ⟨rfl, hB6⟩)
          | fail)
        go_ret
        exact ⟨rfl, Below.next HB5.out hB6⟩
      | none =>
        have hx0 : x = zeros := by rw [Hxe.out, hrf]; rfl
        have Hx0 := Lib.hid hx0
        rw [hrf] at Hrd
        have Hrd2 := Lib.hid (show ∀ W, Env W → Calls Tryd.prog 8 #[.string s] W fun e w' => e = .returned (.tuple #[.agg (i64s x).toArray, .int .i64 7]) ∧ Below W.heap.size W w' from Hrd.out)
        clear hx0 hrf Hrd
        go_wp2_with fail
        refine (Hrd2.out wr (HE.out.below HB.out)).mono ?_
        rintro e wb ⟨rfl, hBb⟩
        have hth1 := ((Turn.refl (Has.nil wb)).alloc (.cells (i64s zeros).toArray 25)).has.there (b := wb.heap.size) (c := (i64s zeros).toArray) (e := 25) (List.mem_cons_self ..) 0 (i64s x).toArray.size (by rw [List.size_toArray, i64s_length, hx]; decide)
        obtain ⟨hl1, hr1⟩ := laid_rep wb x hx
        have HBb := Lib.hid (Below.next (Below.next HB.out hBb) hl1)
        have hrb := hr1
        clear hBb HB hl1 hr1 Hrd2
        go_upto_region 24 with (first | (refine wpList_store_mid rfl 25 _ _ rfl _ 0 (i64s x).toArray rfl rfl hth1 hszBx honex ?_) | fail)
        refine Code.wp_world (fun W => Below w.heap.size w W ∧ W.rangeAt wb.heap.size 0 (i64s x)) ⟨HBb.out, hrb⟩ fun W4 hW4 => ?_
        obtain ⟨hB4, hr4⟩ := hW4
        have HB4 := Lib.hid hB4
        clear hB4 HBb hrb hth1 honex hszBx
        go_wp2_with (first
          | (refine wpList_wp (by rfl) (wp_load_mid 25 _ rfl wb.heap.size 0 rfl (i64s x) _ hr4 Tryd.underlying25 rfl hszx ?_))
          | (refine wpList_wp (by rfl) (wp_val ((eql_rep_run rfl x zeros hx rfl rfl rfl).trans (by rw [Hx0.out, beq_self_eq_true])) ?_))
          | (go_at_call 7; refine (alive34 W4 (HE.out.below HB4.out)).mono ?_; rintro e w6 ⟨rfl, hB6⟩)
          | fail)
        go_ret
        exact ⟨rfl, Below.next HB4.out hB6⟩

end Go.Proofs.YtpnpnajheaijaaaDoor
