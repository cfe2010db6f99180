/-
  The law LogTells, as a walk: true, and nothing that was there has turned.
  Conditions: the library's variables hold what the program's text lays; the arguments' cells can be read.
-/
import Derived.Test.YtpnpnajheaijaaaDoorLg26
namespace Go.Proofs.YtpnpnajheaijaaaDoor
open Go Go.RowKit Go.IntWalk

/-- Bytes that can be read. -/
structure U8s (w : World) (ao : Option Addr) (n cap : Nat) (zs : List Int) : Prop where
  len : zs.length = n
  nil : ao = none → n = 0
  ok : ∀ z ∈ zs, 0 ≤ z ∧ z ≤ 255
  at_ : ∀ ad, ao = some ad → ∀ (j : Nat) (z : Int), zs[j]? = some z → w.cell? (ad.add j) = some (.int .u8 z)

theorem U8s.form {w : World} {ao : Option Addr} {n cap : Nat} {zs : List Int} (h : U8s w ao n cap zs) (hn : 0 < n) : ∃ b off, ao = some ⟨b, off, none⟩ ∧ ∀ (j : Nat) (z : Int), zs[j]? = some z → w.cell? ⟨b, off + j, none⟩ = some (.int .u8 z) := by
  cases ao with
  | none => have := h.nil rfl; omega
  | some ad =>
    have h0 := h.at_ ad rfl 0 (zs[0]'(by have := h.len; omega)) (List.getElem?_eq_getElem _)
    have h0' : ad.add 0 = ad := by unfold Addr.add; simp
    rw [h0'] at h0
    have hs := spot_of_cell h0
    obtain ⟨b, off, spot⟩ := ad
    obtain rfl : spot = none := hs
    exact ⟨b, off, rfl, fun j z hz => by rw [← add_lit]; exact h.at_ _ rfl j z hz⟩

theorem Turn.belowR {w w' : World} {L : List Blk} (T : Turn [] w L w') : Below w.heap.size w w' := T.below

/-- The arguments of the law. -/
abbrev tellsArgs (m : Int) (ao : Option Addr) (n cap : Nat) (so : Option Addr) (sn sc : Nat) (i : Int) : Array Value := #[.int .i64 m, .slice ao n cap, .slice so sn sc, .int .i64 i]

set_option maxRecDepth 100000 in
theorem logTells_long (w : World) (hE : Env w) (m i : Int) (ao so : Option Addr) (n cap sn sc : Nat) (h : 200 < n ∨ 60 < sn) : Calls Tryd.prog 5 (tellsArgs m ao n cap so sn sc i) w fun e w' => e = .returned (.bool true) ∧ Below w.heap.size w w' := by
  have HE := Lib.hid hE
  clear hE
  by_cases h1 : 200 < n
  · have h1' : (200 : Int) < (n : Int) := by omega
    clear h
    go_enter Tryd.func5, Tryd.ntmps5
    go_wp2_with fail
    refine (alive34 _ HE.out).mono ?_
    rintro e w2 ⟨rfl, hB2⟩
    go_wp2
    go_ret
    exact ⟨rfl, hB2⟩
  · have h1' : ¬ (200 : Int) < (n : Int) := by omega
    have h2' : (60 : Int) < (sn : Int) := by omega
    clear h
    go_enter Tryd.func5, Tryd.ntmps5
    go_wp2_with fail
    refine (alive34 _ HE.out).mono ?_
    rintro e w2 ⟨rfl, hB2⟩
    go_wp2
    go_ret
    exact ⟨rfl, hB2⟩

set_option maxRecDepth 100000 in
theorem logTells_bad (w : World) (hE : Env w) (m i : Int) (ao so : Option Addr) (n cap sn sc : Nat) (hn : n ≤ 200) (hsn : sn ≤ 60) (hm : m < 1 ∨ 1024 < m) : Calls Tryd.prog 5 (tellsArgs m ao n cap so sn sc i) w fun e w' => e = .returned (.bool true) ∧ Below w.heap.size w w' := by
  have HE := Lib.hid hE
  clear hE
  have h1' : ¬ (200 : Int) < (n : Int) := by omega
  have h2' : ¬ (60 : Int) < (sn : Int) := by omega
  have Hm := Lib.hid hm
  by_cases h3 : m < 1
  · clear hm
    go_enter Tryd.func5, Tryd.ntmps5
    go_wp2_with fail
    refine (new_bad w m Hm.out).mono ?_
    rintro e w' ⟨rfl, hw⟩
    rw [hw]
    clear hw w'
    go_wp2_with (go_at_call 7; refine (alive34 _ HE.out).mono ?_; rintro e w2 ⟨rfl, hB2⟩)
    go_ret
    exact ⟨rfl, hB2⟩
  · have h4 : 1024 < m := by omega
    clear hm
    go_enter Tryd.func5, Tryd.ntmps5
    go_wp2_with fail
    refine (new_bad w m Hm.out).mono ?_
    rintro e w' ⟨rfl, hw⟩
    rw [hw]
    clear hw w'
    go_wp2_with (go_at_call 7; refine (alive34 _ HE.out).mono ?_; rintro e w2 ⟨rfl, hB2⟩)
    go_ret
    exact ⟨rfl, hB2⟩

theorem take_part {α : Type} (xs : List α) {k k' : Nat} (h : k ≤ k') : xs.take k ++ (xs.drop k).take (k' - k) = xs.take k' := by
  rw [← List.take_add, show k + (k' - k) = k' by omega]


set_option maxRecDepth 100000 in
set_option maxHeartbeats 6400000 in
theorem logTells_any (w : World) (hE : Env w) (mm : Nat) (h0 : 1 ≤ mm) (hm2 : mm ≤ 1024) (i : Int) (ao so : Option Addr) (n cap sn sc : Nat) (hn : n ≤ 200) (hsn : sn ≤ 60) (hnc : n ≤ cap) (xs : List (List Int)) (hx : ∀ r ∈ xs, RepOk r) (hs : Src w ao n cap 21 (reps xs)) (zs : List Int) (hz : U8s w so sn sc zs) :
    Calls Tryd.prog 5 (tellsArgs mm ao n cap so sn sc i) w fun e w' => e = .returned (.bool true) ∧ Below w.heap.size w w' := by
  have HE := Lib.hid hE
  have Hx := Lib.hid hx
  have hxl : xs.length = n := by have := hs.len; rw [reps_length hx] at this; omega
  have Hxl := Lib.hid hxl
  have hsrc : ∀ W, Below w.heap.size w W → Src W ao n cap 21 (reps xs) := fun W hB => hs.below hB
  have Hsrc := Lib.hid hsrc
  have hzc : ∀ W, Below w.heap.size w W → ∀ j z, zs[j]? = some z → ∃ bz oz, so = some ⟨bz, oz, none⟩ ∧ W.cell? ⟨bz, oz + j, none⟩ = some (.int .u8 z) ∧ 0 ≤ z ∧ z ≤ 255 := fun W hB j z hj => by
    have hlt := (List.getElem?_eq_some_iff.1 hj).1
    obtain ⟨bz, oz, ho, hc⟩ := hz.form (by have := hz.len; omega)
    have h1 := hc j z hj
    have h2 := hz.ok z (List.mem_of_getElem? hj)
    exact ⟨bz, oz, ho, (hB.cell (p := ⟨bz, oz + j, none⟩) (World.block_lt_of_cell? w _ h1)).trans h1, h2.1, h2.2⟩
  have Hzc := Lib.hid hzc
  have hzl := hz.len
  have h1' : ¬ (200 : Int) < (n : Int) := by omega
  have h2' : ¬ (60 : Int) < (sn : Int) := by omega
  have h3' : ¬ (mm : Int) < 1 := by omega
  have h4' : ¬ (1024 : Int) < (mm : Int) := by omega
  clear hE hx hs hsrc hzc hz hxl
  go_enter Tryd.func5, Tryd.ntmps5
  go_wp2_with fail
  refine (new_any w mm h0 hm2 (Has.nil w)).mono ?_
  rintro e w1 ⟨b, l0, rfl, L0, T0⟩
  have HL0 := Lib.hid L0
  have HT0 := Lib.hid (show Turn [] w l0 w1 by have := T0; rwa [List.append_nil] at this)
  clear L0 T0
  go_wp2_with fail
  go_loopw [11, 12] (fun v11 v12 wr => ∃ (i k : Nat) (lk : List Blk), i ≤ sn + 1 ∧ v12 = .int .i64 i ∧ v11 = .int .i64 k ∧ k ≤ n ∧ (i = sn + 1 → k = n) ∧ LogIs b mm (xs.take k) lk ∧ Turn [] w lk wr) (fun _ v12 _ => sn + 2 - (intOf v12).toNat)
  case atStart => exact ⟨0, 0, l0, by omega, rfl, rfl, Nat.zero_le _, by omega, HL0.out, HT0.out⟩
  case round =>
    obtain ⟨q, k, lk, hq, rfl, rfl, hk, hqk, hL, hT⟩ := hrel
    have HLk := Lib.hid hL
    have HT := Lib.hid hT
    by_cases hlt : q ≤ sn
    · have hlt' : (q : Int) ≤ (sn : Int) := by omega
      obtain ⟨k', hkk, hk'n, hk'e, hstep⟩ : ∃ k' : Nat, k ≤ k' ∧ k' ≤ n ∧ (q = sn → k' = n) ∧ (q < sn → ∃ z bz oz, so = some ⟨bz, oz, none⟩ ∧ wr.cell? ⟨bz, oz + q, none⟩ = some (.int .u8 z) ∧ 0 ≤ z ∧ z ≤ 255 ∧ k' = min n (k + (z.tmod 5).toNat)) := by
        by_cases hqs : q < sn
        · obtain ⟨z, hzq⟩ : ∃ z, zs[q]? = some z := ⟨zs[q]'(by omega), List.getElem?_eq_getElem _⟩
          obtain ⟨bz, oz, ho, hc, z0, z1⟩ := Hzc.out wr hT.below q z hzq
          exact ⟨min n (k + (z.tmod 5).toNat), by omega, by omega, by omega, fun _ => ⟨z, bz, oz, ho, hc, z0, z1, rfl⟩⟩
        · exact ⟨n, hk, Nat.le_refl _, fun _ => rfl, fun h => absurd h hqs⟩
      obtain ⟨ak, hrk, hsk⟩ := slice_hi_ex (ao := ao) Hx.out hnc hk'n
      obtain ⟨a1, d1, c1, hd1, hdc, hcc, hr1, hs1⟩ := slice_lohi_ex (ao := ao) Hx.out hnc hkk hk'n
      have Hrk := Lib.hid hrk
      have Hr1 := Lib.hid hr1
      have Hsk := Lib.hid hsk
      have hok' : ∀ r ∈ xs.take k', RepOk r := fun r hr => Hx.out r (List.mem_of_mem_take hr)
      have hKk : ∀ W l', LogIs b mm (xs.take k') l' → Has W l' → KeptAt W.heap.size W (some ⟨b, 0, none⟩) (min k' mm) (keptOf mm (xs.take k')) := fun W l' h1 h2 => by
        have h3 := h1.kept (R := []) h0 hm2 hok' (by rw [List.append_nil]; exact h2)
        rw [List.length_take, Hxl.out, Nat.min_eq_left hk'n] at h3
        exact h3
      have HKk := Lib.hid hKk
      have Hs1 := Lib.hid (hs1 wr.drew (Hsrc.out wr hT.below).draws)
      have Hone := Lib.hid (show ∀ u ∈ reps ((xs.drop k).take d1), u.oneCell' = true from fun u hu => by
        obtain ⟨r, -, hr⟩ := List.mem_flatMap.1 hu
        obtain ⟨v, -, rfl⟩ := List.mem_map.1 hr
        rfl)
      have h63 : 0 + d1 ≤ maxLen := by unfold maxLen; omega
      have hby : (0 + d1) * 168 ≤ 140737488355328 := by omega
      have HTd := Lib.hid (show Turn [] w ([] ++ lk) wr.drew from hT.drew)
      clear hL hT hKk hok' hqk hrk hr1 hsk hs1
      go_upto_if 62 with fail
      go_cut [13] (fun v13 wc => v13 = .int .i64 k' ∧ wc = wr)
      case first =>
        by_cases hqs : q < sn
        · have hqs' : (q : Int) < (sn : Int) := by omega
          obtain ⟨z, bz, oz, rfl, hc, z0, z1, hkz⟩ := hstep hqs
          clear hstep hk'e
          obtain ⟨t, ht, ht4⟩ : ∃ t : Nat, z.tmod 5 = (t : Int) ∧ t ≤ 4 := ⟨(z.tmod 5).toNat, by rw [Int.tmod_eq_emod_of_nonneg z0]; omega, by rw [Int.tmod_eq_emod_of_nonneg z0]; omega⟩
          have ht2 : z % 5 = (t : Int) := by rw [← Int.tmod_eq_emod_of_nonneg z0]; exact ht
          have hw1 : IntKind.i64.wrap (t : Int) = (t : Int) := i64_in _ (by omega)
          have hw2 : IntKind.i64.wrap ((k : Int) + (t : Int)) = (k : Int) + (t : Int) := i64_in _ (by omega)
          rw [ht, Int.toNat_natCast] at hkz
          have Hkz := Lib.hid hkz
          clear hkz
          go_wp2
          go_meet
          exact ⟨congrArg (Value.int .i64) (by rw [Hkz.out]; omega), rfl⟩
        · have hqs' : ¬ (q : Int) < (sn : Int) := by omega
          have hkn : k' = n := hk'e (by omega)
          clear hstep hk'e
          subst hkn
          go_wp2
          go_meet
          exact ⟨rfl, rfl⟩
      case rest =>
        obtain ⟨rfl, rfl⟩ := hcut
        clear hstep
        go_wp2_with fail
        refine wp_region_noPanic ?_
        refine wp_region_listed (S := fun _ => True) 27 [false, false, false, false, false, false, false, false, false, false, false, false, false, false, false, false, false, false, false, false, false, false, false, false, false, false, false] rfl rfl (by kernel_rfl) ?_
        refine takeG 0 73 rfl rfl (by rfl) (by kernel_rfl) (by kernel_rfl) (by kernel_rfl) (fun _ _ _ _ h => h) trivial (by (intro w hSw; clear hSw; go_simp; try rfl)) ?_
        simp only [List.set_cons_zero, List.set_cons_succ]
        refine takeG 1 74 rfl rfl (by rfl) (by kernel_rfl) (by kernel_rfl) (by kernel_rfl) (fun _ _ _ _ h => h) trivial (by (intro w hSw; clear hSw; go_simp; try rfl)) ?_
        simp only [List.set_cons_zero, List.set_cons_succ]
        refine takeG 2 75 rfl rfl (by rfl) (by kernel_rfl) (by kernel_rfl) (by kernel_rfl) (fun _ _ _ _ h => h) trivial (by (intro w hSw; clear hSw; go_simp; try rfl)) ?_
        simp only [List.set_cons_zero, List.set_cons_succ]
        refine takeG 3 76 rfl rfl (by rfl) (by kernel_rfl) (by kernel_rfl) (by kernel_rfl) (fun _ _ _ _ h => h) trivial (by (intro w hSw; clear hSw; go_simp; try rfl)) ?_
        simp only [List.set_cons_zero, List.set_cons_succ]
        refine takeG 4 77 rfl rfl (by rfl) (by kernel_rfl) (by kernel_rfl) (by kernel_rfl) (fun _ _ _ _ h => h) trivial (fun w' _ => Hr1.out _ _ w' _ _ _ rfl rfl rfl rfl) ?_
        simp only [List.set_cons_zero, List.set_cons_succ]
        refine wpAnyH_ready (rs := [5]) (by kernel_rfl) (by simp) (AllReadyH.cons rfl (fun K hK => ?_) AllReadyH.nil)
        rw [if_pos (by rfl)]
        refine wp_append_src _ _ rfl el_rep rfl rfl (Row.nil _ _) (R := lk) HTd.out.has Hs1.out Hone.out h63 hby ?_
        intro a5 c5 l5 w5 r5 T5
        have Hr5 := Lib.hid (show Row 25 21 a5 d1 c5 (reps ((xs.drop k).take d1)) l5 by have h := r5; simp only [Nat.zero_add, List.nil_append] at h; exact h)
        have HT5 := Lib.hid (HTd.out.trans T5)
        clear r5 T5
        rw [Nat.zero_add]
        refine hK.out _ _ trivial fun _ => ?_
        simp only [List.setIfInBounds_toArray, List.set_cons_zero, List.set_cons_succ]
        clear hK K
        refine wpAnyH_ready (rs := [6]) (by kernel_rfl) (by simp) (AllReadyH.cons rfl (fun K hK => ?_) AllReadyH.nil)
        go_simp
        refine (lAdd_any (R := l5) w5 HLk.out h0 hm2 (HT5.out.has.perm (perm_of fun c => by simp; omega)) a5 d1 c5 (by omega) ((xs.drop k).take d1) (fun r hr => Hx.out r (List.mem_of_mem_drop (List.mem_of_mem_take hr)))
          (fun W' l' T => Hr5.out.src (R := l') (T.has.perm (perm_of fun c => by simp; omega)))).mono ?_
        rintro e w6 ⟨rfl, l6, L6, T6⟩
        have HL6 := Lib.hid (show LogIs b mm (xs.take k') l6 by have h := take_part xs hkk; rw [show k' - k = d1 by omega] at h; rw [← h]; exact L6)
        have HT6 := Lib.hid (((HT5.out.perm (l2 := lk ++ l5) (perm_of fun c => by simp; omega)).trans T6).sub (List.sublist_append_left l6 l5))
        clear L6 T6
        refine hK.out _ _ trivial fun _ => ?_
        simp only [List.setIfInBounds_toArray, List.set_cons_zero, List.set_cons_succ]
        clear hK K
        refine takeG 7 80 rfl rfl (by rfl) (by kernel_rfl) (by kernel_rfl) (by kernel_rfl) (fun _ _ _ _ h => h) trivial (by (intro w hSw; clear hSw; go_simp; try rfl)) ?_
        simp only [List.set_cons_zero, List.set_cons_succ]
        refine takeG 8 81 rfl rfl (by rfl) (by kernel_rfl) (by kernel_rfl) (by kernel_rfl) (fun _ _ _ _ h => h) trivial (by (intro w hSw; clear hSw; go_simp; try rfl)) ?_
        simp only [List.set_cons_zero, List.set_cons_succ]
        refine takeG 9 82 rfl rfl (by rfl) (by kernel_rfl) (by kernel_rfl) (by kernel_rfl) (fun _ _ _ _ h => h) trivial (by (intro w hSw; clear hSw; go_simp; try rfl)) ?_
        simp only [List.set_cons_zero, List.set_cons_succ]
        refine takeG 10 83 rfl rfl (by rfl) (by kernel_rfl) (by kernel_rfl) (by kernel_rfl) (fun _ _ _ _ h => h) trivial (by (intro w hSw; clear hSw; go_simp; try rfl)) ?_
        simp only [List.set_cons_zero, List.set_cons_succ]
        refine takeG 11 84 rfl rfl (by rfl) (by kernel_rfl) (by kernel_rfl) (by kernel_rfl) (fun _ _ _ _ h => h) trivial (by (intro w hSw; clear hSw; go_simp; try rfl)) ?_
        simp only [List.set_cons_zero, List.set_cons_succ]
        refine takeG 12 85 rfl rfl (by rfl) (by kernel_rfl) (by kernel_rfl) (by kernel_rfl) (fun _ _ _ _ h => h) trivial (fun w' _ => Hrk.out _ _ w' _ _ rfl rfl rfl) ?_
        simp only [List.set_cons_zero, List.set_cons_succ]
        refine takeG 13 86 rfl rfl (by rfl) (by kernel_rfl) (by kernel_rfl) (by kernel_rfl) (fun _ _ _ _ h => h) trivial (by (intro w hSw; clear hSw; go_simp; try rfl)) ?_
        simp only [List.set_cons_zero, List.set_cons_succ]
        refine wpAnyH_ready (rs := [14]) (by kernel_rfl) (by simp) (AllReadyH.cons rfl (fun K hK => ?_) AllReadyH.nil)
        go_simp
        refine (rkept_any w6 ak k' cap mm h0 (by omega) (by omega) (xs.take k') (fun r hr => Hx.out r (List.mem_of_mem_take hr)) (Hsk.out w6 (Hsrc.out w6 HT6.out.below))).mono ?_
        rintro e w7 ⟨a7, c7, rfl, hs7, hw7⟩
        rw [hw7]
        have Hs7 := Lib.hid hs7
        clear hs7 hw7 w7
        refine hK.out _ _ trivial fun _ => ?_
        simp only [List.setIfInBounds_toArray, List.set_cons_zero, List.set_cons_succ]
        clear hK K
        refine wpAnyH_ready (rs := [15]) (by kernel_rfl) (by simp) (AllReadyH.cons rfl (fun K hK => ?_) AllReadyH.nil)
        go_simp
        refine (same_any (some ⟨b, 0, none⟩) (min k' mm) (keptOf mm (xs.take k')) w6 (HE.out.below HT6.out.below) (HKk.out w6 l6 HL6.out HT6.out.has) a7 c7 Hs7.out).mono ?_
        rintro e w8 ⟨rfl, hB8⟩
        have HT8 := Lib.hid (HT6.out.trans (Turn.of_below HT6.out.has hB8))
        clear hB8
        refine hK.out _ _ trivial fun _ => ?_
        simp only [List.setIfInBounds_toArray, List.set_cons_zero, List.set_cons_succ]
        clear hK K
        refine takeG 16 89 rfl rfl (by rfl) (by kernel_rfl) (by kernel_rfl) (by kernel_rfl) (fun _ _ _ _ h => h) trivial (by (intro w hSw; clear hSw; go_simp; try rfl)) ?_
        simp only [List.set_cons_zero, List.set_cons_succ]
        refine takeG 17 90 rfl rfl (by rfl) (by kernel_rfl) (by kernel_rfl) (by kernel_rfl) (fun _ _ _ _ h => h) trivial (by (intro w hSw; clear hSw; go_simp; try rfl)) ?_
        simp only [List.set_cons_zero, List.set_cons_succ]
        refine takeG 18 91 rfl rfl (by rfl) (by kernel_rfl) (by kernel_rfl) (by kernel_rfl) (fun _ _ _ _ h => h) trivial (by (intro w hSw; clear hSw; go_simp; try rfl)) ?_
        simp only [List.set_cons_zero, List.set_cons_succ]
        refine takeG 19 92 rfl rfl (by rfl) (by kernel_rfl) (by kernel_rfl) (by kernel_rfl) (fun _ _ _ _ h => h) trivial (by (intro w hSw; clear hSw; go_simp; try rfl)) ?_
        simp only [List.set_cons_zero, List.set_cons_succ]
        refine takeG 21 94 rfl rfl (by rfl) (by kernel_rfl) (by kernel_rfl) (by kernel_rfl) (fun _ _ _ _ h => h) trivial (by (intro w hSw; clear hSw; go_simp; try rfl)) ?_
        simp only [List.set_cons_zero, List.set_cons_succ]
        refine takeG 22 95 rfl rfl (by rfl) (by kernel_rfl) (by kernel_rfl) (by kernel_rfl) (fun _ _ _ _ h => h) trivial (by (intro w hSw; clear hSw; go_simp; try rfl)) ?_
        simp only [List.set_cons_zero, List.set_cons_succ]
        refine takeG 23 96 rfl rfl (by rfl) (by kernel_rfl) (by kernel_rfl) (by kernel_rfl) (fun _ _ _ _ h => h) trivial (fun w' _ => Hrk.out _ _ w' _ _ rfl rfl rfl) ?_
        simp only [List.set_cons_zero, List.set_cons_succ]
        refine wpAnyH_ready (rs := [20]) (by kernel_rfl) (by simp) (AllReadyH.cons rfl (fun K hK => ?_) AllReadyH.nil)
        go_simp
        refine (sum_below (R := []) w8 HL6.out (by rw [List.append_nil]; exact HT8.out.has)).mono ?_
        rintro e w9 ⟨rfl, hB9⟩
        have HT9 := Lib.hid (HT8.out.trans (Turn.of_below HT8.out.has hB9))
        clear hB9
        refine hK.out _ _ trivial fun _ => ?_
        simp only [List.setIfInBounds_toArray, List.set_cons_zero, List.set_cons_succ]
        clear hK K
        refine wpAnyH_ready (rs := [24]) (by kernel_rfl) (by simp) (AllReadyH.cons rfl (fun K hK => ?_) AllReadyH.nil)
        go_simp
        refine (rsum_any (R := l6) w9 HT9.out.has ak k' cap (by omega) (xs.take k') (fun r hr => Hx.out r (List.mem_of_mem_take hr)) (fun W' l' T => Hsk.out W' (Hsrc.out W' (HT9.out.trans T).below))).mono ?_
        rintro e w10 ⟨rfl, T10⟩
        have HT10 := Lib.hid (HT9.out.trans T10)
        clear T10
        refine hK.out _ _ trivial fun _ => ?_
        simp only [List.setIfInBounds_toArray, List.set_cons_zero, List.set_cons_succ]
        clear hK K
        refine takeG 25 98 rfl rfl (by rfl) (by kernel_rfl) (by kernel_rfl) (by kernel_rfl) (fun _ _ _ _ h => h) trivial (fun w' _ => (neq_sum_run rfl (sumOf (xs.take k')) (sumOf (xs.take k')) (sumOf_length _) (sumOf_length _) rfl rfl).trans (by rw [beq_self_eq_true])) ?_
        simp only [List.set_cons_zero, List.set_cons_succ]
        refine takeG 26 99 rfl rfl (by rfl) (by kernel_rfl) (by kernel_rfl) (by kernel_rfl) (fun _ _ _ _ h => h) trivial (by (intro w hSw; clear hSw; go_simp; try rfl)) ?_
        simp only [List.set_cons_zero, List.set_cons_succ]
        refine wpAnyH_done (by kernel_rfl) ?_ _
        refine NoPanic.normal ?_
        go_wp2_with fail
        go_roundw
        case rel => exact ⟨q + 1, k', l6, by omega, by go_num, rfl, hk'n, (fun h => hk'e (by omega)), HL6.out, HT10.out⟩
        case measure => simp [intOf]; omega
    · obtain rfl : q = sn + 1 := by omega
      obtain rfl : k = n := hqk rfl
      have hlt' : ¬ (((sn + 1 : Nat) : Int)) ≤ (sn : Int) := by omega
      have hxk : xs.take k = xs := List.take_of_length_le (by rw [Hxl.out]; exact Nat.le_refl _)
      rw [hxk] at hL
      have hK := hL.kept (R := []) h0 hm2 Hx.out (by rw [List.append_nil]; exact hT.has)
      rw [Hxl.out] at hK
      have HK := Lib.hid hK
      have Hlen := Lib.hid (show (keptOf mm xs).length = min k mm by rw [keptOf_length, Hxl.out])
      clear hL hT hK hxk HLk
      go_wp2_with fail
      refine (lAt_any (some ⟨b, 0, none⟩) (min k mm) (keptOf mm xs) i wr HK.out).mono ?_
      rintro e w2 ⟨rfl, hB2⟩
      obtain ⟨y, Hy⟩ : ∃ y : List Int, Hid (y = (atOf (keptOf mm xs) i).getD zeros) := ⟨_, Lib.hid rfl⟩
      have hy : y.length = 21 := by
        rw [Hy.out]
        cases hat : atOf (keptOf mm xs) i with
        | none => rfl
        | some r =>
          unfold atOf at hat
          split at hat
          · exact (Hx.out r (List.mem_of_mem_drop (List.mem_of_getElem? hat))).len
          · cases hat
      have hiso : (atOf (keptOf mm xs) i).isSome = decide (0 ≤ i ∧ i < ((min k mm : Nat) : Int)) := by
        unfold atOf
        by_cases hi : 0 ≤ i
        · rw [if_pos hi]
          by_cases hi2 : i < ((min k mm : Nat) : Int)
          · rw [List.getElem?_eq_getElem (by rw [Hlen.out]; omega), decide_eq_true ⟨hi, hi2⟩]; rfl
          · rw [List.getElem?_eq_none (by rw [Hlen.out]; omega), decide_eq_false (fun h => hi2 h.2)]; rfl
        · rw [if_neg hi, decide_eq_false (fun h => hi h.1)]; rfl
      rw [← Hy.out, hiso]
      unfold repVal
      have hth := ((Turn.refl (Has.nil w2)).alloc (.cells (i64s zeros).toArray 25)).has.there (b := w2.heap.size) (c := (i64s zeros).toArray) (e := 25) (List.mem_cons_self ..) 0 (i64s y).toArray.size (by rw [List.size_toArray, i64s_length, hy]; decide)
      have hsz2 := rep_size (n := (i64s y).toArray.size) (by rw [List.size_toArray, i64s_length]; exact hy)
      have hone := i64s_oneCell y
      have HB2 := Lib.hid (Below.next HT.out.below (Below.next hB2 (laid_rep w2 y hy).1))
      clear hB2 hiso
      by_cases hi : 0 ≤ i
      · by_cases hi2 : i < ((min k mm : Nat) : Int)
        · rw [decide_eq_true ⟨hi, hi2⟩]
          have hi3 : i < min (k : Int) (mm : Int) := by omega
          have hi4 : ¬ i < 0 := by omega
          go_wp2_with (first
            | (refine wpList_store_mid rfl 25 _ _ rfl _ 0 (i64s y).toArray rfl rfl hth hsz2 hone ?_)
            | (go_at_call 7; refine (alive34 _ (HE.out.below HB2.out)).mono ?_; rintro e w3 ⟨rfl, hB3⟩)
            | fail)
          go_ret
          exact ⟨rfl, Below.next HB2.out hB3⟩
        · rw [decide_eq_false (fun h => hi2 h.2)]
          have hi3 : ¬ i < min (k : Int) (mm : Int) := by omega
          have hi5 : decide (i < min (k : Int) (mm : Int)) = false := decide_eq_false hi3
          have hi4 : ¬ i < 0 := by omega
          go_wp2_with (first
            | (refine wpList_store_mid rfl 25 _ _ rfl _ 0 (i64s y).toArray rfl rfl hth hsz2 hone ?_)
            | (go_at_call 7; refine (alive34 _ (HE.out.below HB2.out)).mono ?_; rintro e w3 ⟨rfl, hB3⟩)
            | fail)
          go_ret
          exact ⟨rfl, Below.next HB2.out hB3⟩
      · rw [decide_eq_false (fun h => hi h.1)]
        go_wp2_with (first
          | (refine wpList_store_mid rfl 25 _ _ rfl _ 0 (i64s y).toArray rfl rfl hth hsz2 hone ?_)
          | (go_at_call 7; refine (alive34 _ (HE.out.below HB2.out)).mono ?_; rintro e w3 ⟨rfl, hB3⟩)
          | fail)
        go_ret
        exact ⟨rfl, Below.next HB2.out hB3⟩
end Go.Proofs.YtpnpnajheaijaaaDoor
