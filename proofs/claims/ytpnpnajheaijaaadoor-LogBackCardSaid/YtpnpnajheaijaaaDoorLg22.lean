/-
  The law: same, where it is the same.
  Conditions: a log, or none; the library's variables hold what the program's text lays.
-/
import Derived.Test.YtpnpnajheaijaaaDoorLg21
namespace Go.Proofs.YtpnpnajheaijaaaDoor
open Go Go.RowKit Go.IntWalk

section
variable {P : Program} {ops : Array Oper} {md : Region.Mode} {Q : Exit → Act → World → Prop}
/-- An operation that is wanted and yields its value in every world that meets S is taken first. -/
theorem takeG {S : World → Prop} {fuel : Nat} {w : World} (i d : Nat) {oi : Oper} {v : Value} {L : List Bool} {ts : List Value} {ds : List Deferred} (hi : ops[i]? = some oi) (hdst : oi.dst = some d) (hw : Region.wanted oi (yielded ops ts.toArray) = true)
    (hs : Region.noSelect ops = true) (hf : Region.free md ops L.toArray i = true) (hr : (Region.ready md ops L.toArray).contains i = true)
    (hQ : ∀ c (a : Act) v w, Q (.panic c) (a.put (some d) v) w → Q (.panic c) a w) (hS : S w)
    (hy : ∀ w, S w → (execOp (Act.eval { tmps := ts.toArray, defers := ds }) oi).run P w = .ok (.value v) w)
    (h : wpAnyH P md ops Q S fuel (L.set i true).toArray { tmps := (ts.set d v).toArray, defers := ds } w) : wpAnyH P md ops Q S (fuel + 1) L.toArray { tmps := ts.toArray, defers := ds } w := by
  refine wpAnyH_take hi hs hf hr (fun c a w h => hQ c a v w (by rw [← hdst]; exact h)) (Or.inl ⟨hw, hy⟩) hS ?_
  simpa [Act.put, hdst] using h
end

theorem KeptAt.later {n₀ : Nat} {A B : World} {p : Option Addr} {nn : Nat} {ks : List (List Int)} (h : KeptAt n₀ A p nn ks) (hk : Below n₀ A B) {n₁ : Nat} (hn : n₀ ≤ n₁) : KeptAt n₁ B p nn ks := by
  rcases h.below hk with h | ⟨b, g, m, at_, h1, h2, h3, h4⟩
  · exact .inl h
  · exact .inr ⟨b, g, m, at_, h1, Nat.lt_of_lt_of_le h2 hn, Nat.lt_of_lt_of_le h3 hn, h4⟩

theorem len_kept {n₀ : Nat} {p : Option Addr} {nn : Nat} {ks : List (List Int)} (w : World) (h : KeptAt n₀ w p nn ks) : Calls Tryd.prog 19 #[.pointer p] w fun e w' => e = .returned (.int .i64 nn) ∧ w' = w := by
  rcases h with ⟨rfl, rfl, -⟩ | ⟨b, g, m, at_, rfl, -, -, h4⟩
  · exact len_nil w
  · exact len_cells w h4.c9

theorem at_kept {p : Option Addr} {nn : Nat} {ks : List (List Int)} (w : World) (h : KeptAt w.heap.size w p nn ks) (k : Nat) (r : List Int) (hr : ks[k]? = some r) :
    Calls Tryd.prog 18 #[.pointer p, .int .i64 k] w fun e W' => e = .returned (.tuple #[.agg (i64s r).toArray, .bool true]) ∧ Below w.heap.size w W' := by
  have h1 := lAt_any p nn ks k w h
  have h2 : atOf ks (k : Int) = some r := by
    unfold atOf
    rw [if_pos (by omega), Int.toNat_natCast, hr]
  rw [h2] at h1
  exact h1
theorem at_out {p : Option Addr} {nn : Nat} {ks : List (List Int)} (w : World) (h : KeptAt w.heap.size w p nn ks) (i : Int) (hi : i < 0 ∨ (nn : Int) ≤ i) :
    Calls Tryd.prog 18 #[.pointer p, .int .i64 i] w fun e W' => ∃ z : List Int, z.length = 21 ∧ e = .returned (.tuple #[.agg (i64s z).toArray, .bool false]) ∧ Below w.heap.size w W' := by
  have h1 := lAt_any p nn ks i w h
  have h2 : atOf ks i = none := by
    unfold atOf
    split
    · exact List.getElem?_eq_none (by have := h.len; omega)
    · rfl
  rw [h2] at h1
  exact h1.mono fun e W' ⟨he, hb⟩ => ⟨zeros, rfl, he, hb⟩

theorem rline_below (W : World) (hE : Env W) (r : List Int) (hr : RepOk r) : Calls Tryd.prog 11 #[repVal r] W fun e w' => e = .returned (.string ⟨(line r).toArray⟩) ∧ Below W.heap.size W w' :=
  (rline_any hE (Turn.refl (Has.nil W)) r hr).mono fun _ _ ⟨h1, h2⟩ => ⟨h1, h2.below⟩

theorem Env.below {w w' : World} (h : Env w) (hk : Below w.heap.size w w') : Env w' := h.later fun b hb => hk.block b hb
theorem Src.below {w w' : World} {ao : Option Addr} {n cap size : Nat} {xs : List Value} (h : Src w ao n cap size xs) (hk : Below w.heap.size w w') : Src w' ao n cap size xs := h.later fun b hb => hk.block b hb
theorem Below.next {w w1 w2 : World} (h : Below w.heap.size w w1) (k : Below w1.heap.size w1 w2) : Below w.heap.size w w2 := h.trans (k.mono h.size)
theorem range_below {w w' : World} {b o : Nat} {cs : List Value} (h : w.rangeAt b o cs) (hk : Below w.heap.size w w') : w'.rangeAt b o cs := fun j v hv => by
  have h1 := h j v hv
  exact (hk.cell (p := ⟨b, o + j, none⟩) (World.block_lt_of_cell? w _ h1)).trans h1

/-- A report laid into a block of its own. -/
theorem laid_rep (W : World) (r : List Int) (hr : r.length = 21) : let W' := (W.alloc (.cells (i64s zeros).toArray 25)).setCells W.heap.size 0 (i64s r)
    Below W.heap.size W W' ∧ W'.rangeAt W.heap.size 0 (i64s r) := by
  have T2 := ((Turn.refl (Has.nil W)).alloc (.cells (i64s zeros).toArray 25)).setCells (i64s r) 0
  rw [laidOver_all _ _ (by rw [i64s_length, hr]; rfl)] at T2
  exact ⟨T2.below, range_of_has T2.has (List.mem_cons_self ..)⟩

set_option maxRecDepth 100000 in
set_option maxHeartbeats 3200000 in
theorem same_any (p : Option Addr) (nn : Nat) (ks : List (List Int)) (w : World) (hE : Env w) (hP : KeptAt w.heap.size w p nn ks) (ao : Option Addr) (cap : Nat) (hs : Src w ao nn cap 21 (reps ks)) :
    Calls Tryd.prog 15 #[.pointer p, .slice ao nn cap] w fun e w' => e = .returned (.bool true) ∧ Below w.heap.size w w' := by
  have HP := Lib.hid hP
  have HE := Lib.hid hE
  have Hs := Lib.hid hs
  have hok := hP.ok
  have hl := hP.len
  have hsm := hP.small
  have Hok := Lib.hid hok
  clear hE hs hP hok
  go_enter Tryd.func15, Tryd.ntmps15
  go_wp2_with fail
  refine (lLines_any p nn ks w HE.out HP.out).mono ?_
  rintro e W1 ⟨la, lcap, lr, rfl, hrow, T1⟩
  have hlx := hrow.src (T1.has.perm (l' := lr ++ []) (perm_of fun c => by simp))
  have Hlx := Lib.hid hlx
  have HB1 := Lib.hid T1.below
  have HP1 := Lib.hid (HP.out.later T1.below T1.size)
  have HE1 := Lib.hid (HE.out.below T1.below)
  have Hs1 := Lib.hid (Hs.out.below T1.below)
  have hnn : ((nn : Int) != (nn : Int)) = false := by simp
  clear hrow T1 hlx HE Hs HP
  go_wp2_with (first
    | (go_at_call 19; refine (len_kept W1 HP1.out).mono ?_; rintro e w' ⟨rfl, hw⟩; rw [hw]; clear hw w')
    | fail)
  go_loopw [6] (fun v6 wr => ∃ k : Nat, k ≤ nn ∧ v6 = .int .i64 k ∧ Below W1.heap.size W1 wr) (fun v6 _ => nn - (intOf v6).toNat)
  case atStart => exact ⟨0, Nat.zero_le _, rfl, Below.refl _ _⟩
  case round =>
    obtain ⟨k, hk, rfl, hB⟩ := hrel
    have HB := Lib.hid hB
    by_cases hlt : k < nn
    · have hlt' : (k : Int) < (nn : Int) := by omega
      obtain ⟨r, hr⟩ : ∃ r, ks[k]? = some r := ⟨ks[k]'(by omega), List.getElem?_eq_getElem _⟩
      have hrok := Hok.out r (List.mem_of_getElem? hr)
      obtain ⟨bb, off, rfl, -⟩ := Hs1.out.form (by rw [reps_length Hok.out]; omega)
      obtain ⟨lb, loff, rfl, -⟩ := Hlx.out.form (by simp [linesOf, strs]; omega)
      have hat := at_kept wr (HP1.out.later hB hB.size) k r hr
      have Hat := Lib.hid hat
      have Hr := Lib.hid hr
      have Hrok := Lib.hid hrok
      have hrl := hrok.len
      have hone := i64s_oneCell r
      have hsz := rep_size (n := (i64s r).length) (by rw [i64s_length]; exact hrl)
      have hsz2 := rep_size (n := (i64s r).toArray.size) (by rw [List.size_toArray, i64s_length]; exact hrl)
      clear hB hat hr hrok
      go_wp2_with fail
      refine Hat.out.mono ?_
      rintro e w2 ⟨rfl, hB2⟩
      have HB2 := Lib.hid (Below.next HB.out (hB2.mono (Nat.le_refl _)))
      have hth := ((Turn.refl (Has.nil w2)).alloc (.cells (i64s zeros).toArray 25)).has.there (b := w2.heap.size) (c := (i64s zeros).toArray) (e := 25) (List.mem_cons_self ..) 0 (i64s r).toArray.size (by rw [List.size_toArray, i64s_length, hrl]; decide)
      clear hB2 Hat
      go_wp2_with (first
        | (refine wpList_store_mid rfl 25 _ _ rfl _ 0 (i64s r).toArray rfl rfl hth hsz2 hone ?_)
        | fail)
      obtain ⟨hB3, hr3⟩ := laid_rep w2 r hrl
      have hcl : W1.cell? ⟨lb, loff + k, none⟩ = some (.string ⟨(line r).toArray⟩) := by
        have h1 := Hlx.out.at_ _ rfl k (.string ⟨(line r).toArray⟩) (by simp [linesOf, strs, Hr.out])
        rwa [add_lit] at h1
      have hS1 : W1.rangeAt bb (off + k * 21) (i64s r) := Hs1.out.rep Hok.out Hr.out
      have hS : (fun W' => W'.rangeAt w2.heap.size 0 (i64s r) ∧ W'.rangeAt bb (off + k * 21) (i64s r) ∧ W'.cell? ⟨lb, loff + k, none⟩ = some (.string ⟨(line r).toArray⟩)) ((w2.alloc (.cells (i64s zeros).toArray 25)).setCells w2.heap.size 0 (i64s r)).drew := ⟨hr3, keepr_drew (range_below hS1 (Below.next HB2.out hB3)), ((Below.next HB2.out hB3).cell (p := ⟨lb, loff + k, none⟩) (World.block_lt_of_cell? _ _ hcl)).trans hcl⟩
      have HS := Lib.hid hS
      refine Code.wp_world (fun W => Below W1.heap.size W1 W ∧ (fun W' => W'.rangeAt w2.heap.size 0 (i64s r) ∧ W'.rangeAt bb (off + k * 21) (i64s r) ∧ W'.cell? ⟨lb, loff + k, none⟩ = some (.string ⟨(line r).toArray⟩)) W.drew) ⟨Below.next HB2.out hB3, HS.out⟩ fun W3 hW3 => ?_
      obtain ⟨hB3', hS3⟩ := hW3
      clear hS HS hth hsz2 hone hr3 hB3
      have hS := hS3
      have HB3 := Lib.hid hB3'
      have hln := rline_below W3.drew ((HE1.out.below hB3').later (fun b hb => rfl)) r Hrok.out
      have Hln := Lib.hid hln
      clear hB3' hS3 hln hcl hS1
      refine wp_region_noPanic ?_
      refine wp_region_listed (S := (fun W' => W'.rangeAt w2.heap.size 0 (i64s r) ∧ W'.rangeAt bb (off + k * 21) (i64s r) ∧ W'.cell? ⟨lb, loff + k, none⟩ = some (.string ⟨(line r).toArray⟩))) 22 [false, false, false, false, false, false, false, false, false, false, false, false, false, false, false, false, false, false, false, false, false, false] rfl rfl (by kernel_rfl) ?_
      refine takeG 0 39 rfl rfl (by rfl) (by kernel_rfl) (by kernel_rfl) (by kernel_rfl) (fun _ _ _ _ h => h) hS (by (intro w hSw; clear hSw; go_simp; try rfl)) ?_
      simp only [List.set_cons_zero, List.set_cons_succ]
      refine takeG 1 40 rfl rfl (by rfl) (by kernel_rfl) (by kernel_rfl) (by kernel_rfl) (fun _ _ _ _ h => h) hS (by (intro w hSw; clear hSw; go_simp; try rfl)) ?_
      simp only [List.set_cons_zero, List.set_cons_succ]
      refine takeG 2 41 rfl rfl (by rfl) (by kernel_rfl) (by kernel_rfl) (by kernel_rfl) (fun _ _ _ _ h => h) hS (by (intro w hSw; clear hSw; go_simp; try rfl)) ?_
      simp only [List.set_cons_zero, List.set_cons_succ]
      refine takeG 3 42 rfl rfl (by rfl) (by kernel_rfl) (by kernel_rfl) (by kernel_rfl) (fun _ _ _ _ h => h) hS (fun w' hSw => load_mid_run 25 _ rfl w2.heap.size 0 rfl (i64s r) _ hSw.1 Tryd.underlying25 rfl hsz) ?_
      simp only [List.set_cons_zero, List.set_cons_succ]
      refine takeG 4 43 rfl rfl (by rfl) (by kernel_rfl) (by kernel_rfl) (by kernel_rfl) (fun _ _ _ _ h => h) hS (by (intro w hSw; clear hSw; go_simp; try rfl)) ?_
      simp only [List.set_cons_zero, List.set_cons_succ]
      refine takeG 5 44 rfl rfl (by rfl) (by kernel_rfl) (by kernel_rfl) (by kernel_rfl) (fun _ _ _ _ h => h) hS (by (intro w hSw; clear hSw; go_simp; try rfl)) ?_
      simp only [List.set_cons_zero, List.set_cons_succ]
      refine takeG 6 45 rfl rfl (by rfl) (by kernel_rfl) (by kernel_rfl) (by kernel_rfl) (fun _ _ _ _ h => h) hS (by (intro w hSw; clear hSw; go_simp; try rfl)) ?_
      simp only [List.set_cons_zero, List.set_cons_succ]
      refine takeG 7 46 rfl rfl (by rfl) (by kernel_rfl) (by kernel_rfl) (by kernel_rfl) (fun _ _ _ _ h => h) hS (fun w' hSw => load_mid_run 25 _ rfl bb (off + k * 21) rfl (i64s r) _ hSw.2.1 Tryd.underlying25 rfl hsz) ?_
      simp only [List.set_cons_zero, List.set_cons_succ]
      refine takeG 8 47 rfl rfl (by rfl) (by kernel_rfl) (by kernel_rfl) (by kernel_rfl) (fun _ _ _ _ h => h) hS (fun w' _ => (neq_rep_run rfl r r hrl hrl rfl rfl).trans (by rw [beq_self_eq_true])) ?_
      simp only [List.set_cons_zero, List.set_cons_succ]
      refine takeG 9 48 rfl rfl (by rfl) (by kernel_rfl) (by kernel_rfl) (by kernel_rfl) (fun _ _ _ _ h => h) hS (by (intro w hSw; clear hSw; go_simp; try rfl)) ?_
      simp only [List.set_cons_zero, List.set_cons_succ]
      refine takeG 10 49 rfl rfl (by rfl) (by kernel_rfl) (by kernel_rfl) (by kernel_rfl) (fun _ _ _ _ h => h) hS (by (intro w hSw; clear hSw; go_simp; try rfl)) ?_
      simp only [List.set_cons_zero, List.set_cons_succ]
      refine takeG 11 50 rfl rfl (by rfl) (by kernel_rfl) (by kernel_rfl) (by kernel_rfl) (fun _ _ _ _ h => h) hS (by (intro w hSw; clear hSw; go_simp; try rfl)) ?_
      simp only [List.set_cons_zero, List.set_cons_succ]
      refine takeG 12 51 rfl rfl (by rfl) (by kernel_rfl) (by kernel_rfl) (by kernel_rfl) (fun _ _ _ _ h => h) hS (by (intro w hSw; clear hSw; go_simp; try rfl)) ?_
      simp only [List.set_cons_zero, List.set_cons_succ]
      refine takeG 13 52 rfl rfl (by rfl) (by kernel_rfl) (by kernel_rfl) (by kernel_rfl) (fun _ _ _ _ h => h) hS (by (intro w hSw; clear hSw; go_simp; try rfl)) ?_
      simp only [List.set_cons_zero, List.set_cons_succ]
      refine takeG 14 53 rfl rfl (by rfl) (by kernel_rfl) (by kernel_rfl) (by kernel_rfl) (fun _ _ _ _ h => h) hS (by (intro w hSw; have hSc := hSw.2.2; clear hSw; go_simp; try rfl)) ?_
      simp only [List.set_cons_zero, List.set_cons_succ]
      refine takeG 15 54 rfl rfl (by rfl) (by kernel_rfl) (by kernel_rfl) (by kernel_rfl) (fun _ _ _ _ h => h) hS (by (intro w hSw; clear hSw; go_simp; try rfl)) ?_
      simp only [List.set_cons_zero, List.set_cons_succ]
      refine takeG 16 55 rfl rfl (by rfl) (by kernel_rfl) (by kernel_rfl) (by kernel_rfl) (fun _ _ _ _ h => h) hS (by (intro w hSw; clear hSw; go_simp; try rfl)) ?_
      simp only [List.set_cons_zero, List.set_cons_succ]
      refine takeG 17 56 rfl rfl (by rfl) (by kernel_rfl) (by kernel_rfl) (by kernel_rfl) (fun _ _ _ _ h => h) hS (by (intro w hSw; clear hSw; go_simp; try rfl)) ?_
      simp only [List.set_cons_zero, List.set_cons_succ]
      refine takeG 18 57 rfl rfl (by rfl) (by kernel_rfl) (by kernel_rfl) (by kernel_rfl) (fun _ _ _ _ h => h) hS (fun w' hSw => load_mid_run 25 _ rfl bb (off + k * 21) rfl (i64s r) _ hSw.2.1 Tryd.underlying25 rfl hsz) ?_
      simp only [List.set_cons_zero, List.set_cons_succ]
      refine wpAnyH_ready (rs := [19]) (by kernel_rfl) (by simp) (AllReadyH.cons rfl (fun K hK => ?_) AllReadyH.nil)
      go_simp
      refine (Hln.out).mono ?_
      rintro e w4 ⟨rfl, hB4⟩
      have hS4 : (w4.rangeAt w2.heap.size 0 (i64s r) ∧ w4.rangeAt bb (off + k * 21) (i64s r) ∧ w4.cell? ⟨lb, loff + k, none⟩ = some (.string ⟨(line r).toArray⟩)) := ⟨range_below hS.1 hB4, range_below hS.2.1 hB4, (hB4.cell (p := ⟨lb, loff + k, none⟩) (World.block_lt_of_cell? W3.drew _ hS.2.2)).trans hS.2.2⟩
      refine hK.out _ _ hS4 fun _ => ?_
      simp only [List.setIfInBounds_toArray, List.set_cons_zero, List.set_cons_succ]
      refine takeG 20 59 rfl rfl (by rfl) (by kernel_rfl) (by kernel_rfl) (by kernel_rfl) (fun _ _ _ _ h => h) hS4 (by (intro w hSw; clear hSw; go_simp; try rfl)) ?_
      simp only [List.set_cons_zero, List.set_cons_succ]
      refine takeG 21 60 rfl rfl (by rfl) (by kernel_rfl) (by kernel_rfl) (by kernel_rfl) (fun _ _ _ _ h => h) hS4 (by (intro w hSw; clear hSw; go_simp; try rfl)) ?_
      simp only [List.set_cons_zero, List.set_cons_succ]
      refine wpAnyH_done (by kernel_rfl) ?_ _
      refine NoPanic.normal ?_
      have HB4 := Lib.hid ((Below.next HB3.out.drew hB4))
      clear hB4 hS4 hS hK K
      go_wp2_with fail
      go_roundw
      case rel => exact ⟨k + 1, by omega, by go_num, HB4.out⟩
      case measure => simp [intOf]; omega
    · obtain rfl : k = nn := by omega
      have hlt' : ¬ (k : Int) < (k : Int) := by omega
      clear hB
      go_wp2_with fail
      refine (at_out wr (HP1.out.later HB.out HB.out.size) k (.inr (Int.le_refl _))).mono ?_
      rintro e wa1 ⟨z1, hz1, rfl, hBa1⟩
      have hth1 := ((Turn.refl (Has.nil wa1)).alloc (.cells (i64s zeros).toArray 25)).has.there (b := wa1.heap.size) (c := (i64s zeros).toArray) (e := 25) (List.mem_cons_self ..) 0 (i64s z1).toArray.size (by rw [List.size_toArray, i64s_length, hz1]; decide)
      have hsz1 := rep_size (n := (i64s z1).toArray.size) (by rw [List.size_toArray, i64s_length]; exact hz1)
      have hone1 := i64s_oneCell z1
      have HC1 := Lib.hid (Below.next HB.out (Below.next hBa1 (laid_rep wa1 z1 hz1).1))
      clear hBa1
      go_wp2_with (first
        | (refine wpList_store_mid rfl 25 _ _ rfl _ 0 (i64s z1).toArray rfl rfl hth1 hsz1 hone1 ?_)
        | fail)
      refine (at_out _ (HP1.out.later HC1.out HC1.out.size) (-1) (.inl (by omega))).mono ?_
      rintro e wa2 ⟨z2, hz2, rfl, hBa2⟩
      have hth2 := ((Turn.refl (Has.nil wa2)).alloc (.cells (i64s zeros).toArray 25)).has.there (b := wa2.heap.size) (c := (i64s zeros).toArray) (e := 25) (List.mem_cons_self ..) 0 (i64s z2).toArray.size (by rw [List.size_toArray, i64s_length, hz2]; decide)
      have hsz2 := rep_size (n := (i64s z2).toArray.size) (by rw [List.size_toArray, i64s_length]; exact hz2)
      have hone2 := i64s_oneCell z2
      have HC2 := Lib.hid (Below.next HC1.out (Below.next hBa2 (laid_rep wa2 z2 hz2).1))
      clear hBa2
      go_wp2_with (first
        | (refine wpList_store_mid rfl 25 _ _ rfl _ 0 (i64s z2).toArray rfl rfl hth2 hsz2 hone2 ?_)
        | fail)
      go_ret
      exact ⟨rfl, Below.next HB1.out HC2.out⟩
end Go.Proofs.YtpnpnajheaijaaaDoor
