/-
  The log: kept, the iterator over those that it keeps.
  Conditions: a log below n₀; or none.
-/
import Derived.Test.YtpnpnajheaijaaaDoorLg16
import Derived.Test.YtpnpnajheaijaaaDoorStl
import Derived.RangeFuncNested
import Derived.RangeFuncBound
import Derived.RangeFuncLeaves
import Derived.RangeFuncBox
import Derived.Shelf.Abstract
import Derived.Shelf.RegionOpen
import Derived.OwnWalkIn
import Derived.TacticsInMore
import Derived.LoopNIn
import Derived.LoopIn
namespace Go.Proofs.YtpnpnajheaijaaaDoor
open Go Go.RowKit Go.Shelf Go.IntWalk

attribute [local go_sem] Oper.semAt_some

theorem cellb {n₀ : Nat} {W W' : World} (hk : Below n₀ W W') {b o : Nat} {v : Value} (hb : b < n₀) (h : W.cell? ⟨b, o, none⟩ = some v) : W'.cell? ⟨b, o, none⟩ = some v := (hk.cell (p := ⟨b, o, none⟩) hb).trans h

/-- What a log holds, to be read: the reports ks are kept. -/
structure LogHas (W : World) (b g m n at_ : Nat) (ks : List (List Int)) : Prop where
  c8 : W.cell? ⟨b, 8, none⟩ = some (.slice (some ⟨g, 0, none⟩) m m)
  c9 : W.cell? ⟨b, 9, none⟩ = some (.int .i64 n)
  c10 : W.cell? ⟨b, 10, none⟩ = some (.int .i64 at_)
  len : ks.length = n
  le : n ≤ m
  lt : at_ < m
  small : m ≤ 1024
  ok : ∀ r ∈ ks, RepOk r
  lies : ∀ k r, ks[k]? = some r → W.rangeAt g ((at_ + m - n + k) % m * 21) (i64s r)

theorem LogHas.below {W W' : World} {b g m n at_ n₀ : Nat} {ks : List (List Int)} (h : LogHas W b g m n at_ ks) (hb : b < n₀) (hg : g < n₀) (hk : Below n₀ W W') : LogHas W' b g m n at_ ks :=
  ⟨cellb hk hb h.c8, cellb hk hb h.c9, cellb hk hb h.c10, h.len, h.le, h.lt, h.small, h.ok, fun k r hr j v hv => cellb hk hg (h.lies k r hr j v hv)⟩

theorem LogIs.hasK {b m : Nat} {xs : List (List Int)} {l R : List Blk} {w : World} (h : LogIs b m xs l) (h0 : 1 ≤ m) (hm : m ≤ 1024) (hx : ∀ r ∈ xs, RepOk r) (hH : Has w (l ++ R)) :
    b < w.heap.size ∧ ∃ g, g < w.heap.size ∧ LogHas w b g m (min xs.length m) (xs.length % m) (keptOf m xs) := by
  obtain ⟨g, cur, c, rfl, hring, hcur, hc⟩ := h
  have hl : (i64s (sumOf xs)).length = 8 := by rw [i64s_length, sumOf_length]
  have hkm : ∀ r ∈ keptOf m xs, r ∈ xs := fun r hr => List.mem_of_mem_drop hr
  refine ⟨hH.lt (by simp), g, hH.lt (by simp), ?_, ?_, ?_, keptOf_length m xs, by omega, Nat.mod_lt _ h0, hm, fun r hr => hx r (hkm r hr), fun k r hr j v hv => ?_⟩
  · rw [hH.cell (b := b) (List.mem_cons_self ..), List.getElem?_toArray, List.getElem?_append_right (by omega), hl]; rfl
  · rw [hH.cell (b := b) (List.mem_cons_self ..), List.getElem?_toArray, List.getElem?_append_right (by omega), hl]; rfl
  · rw [hH.cell (b := b) (List.mem_cons_self ..), List.getElem?_toArray, List.getElem?_append_right (by omega), hl]; rfl
  · have hk : k < min xs.length m := by rw [← keptOf_length]; exact (List.getElem?_eq_some_iff.1 hr).1
    have hc1 := (hring.kept hk).trans hr
    rw [hH.cell (b := g) (c := cur) (List.mem_cons_of_mem _ (List.mem_cons_self ..)), ← Array.getElem?_toList, hcur]
    have hget : ∀ (l : List (List Int)), (∀ r ∈ l, r.length = 21) → ∀ i j, j < 21 → (l.flatMap i64s)[i * 21 + j]? = l[i]?.bind fun a => (i64s a)[j]? := by
      intro l
      induction l with
      | nil => intro _ i j _; simp
      | cons a l ih =>
        intro h i j hj
        have ha : (i64s a).length = 21 := by rw [i64s_length, h a (List.mem_cons_self ..)]
        rw [List.flatMap_cons]
        cases i with
        | zero =>
          rw [Nat.zero_mul, Nat.zero_add, List.getElem?_append_left (by omega)]
          rfl
        | succ i =>
          rw [show (i + 1) * 21 + j = 21 + (i * 21 + j) by omega, List.getElem?_append_right (by omega), ha, Nat.add_sub_cancel_left, ih (fun r hr => h r (List.mem_cons_of_mem _ hr)) i j hj]
          rfl
    have hj : j < 21 := by
      have := (List.getElem?_eq_some_iff.1 hv).1
      rw [i64s_length, hc r (List.mem_of_getElem? hc1)] at this
      exact this
    rw [hget c hc _ j hj, hc1]
    exact hv

set_option maxRecDepth 100000 in
theorem len_cells {b n : Nat} (w : World) (c9 : w.cell? ⟨b, 9, none⟩ = some (.int .i64 n)) :
    Calls Tryd.prog 19 #[.pointer (some ⟨b, 0, none⟩)] w fun e w' => e = .returned (.int .i64 n) ∧ w' = w := by
  go_enter Tryd.func19, Tryd.ntmps19
  go_wp2
  go_ret
  exact ⟨rfl, rfl⟩

set_option maxRecDepth 100000 in
theorem kept_in (n : Nat) (p : Option Addr) (w : World) :
    CallsIn Fence.wide n Tryd.prog 29 #[.pointer p] w fun e w' => e = .returned (.func (.func 39) #[] #[.pointer (some ⟨w.heap.size, 0, none⟩)]) ∧ w' = w.alloc (.cells #[.pointer p] 33) := by
  have hf : Fence.wide.fn 29 := trivial
  refine callsIn_of_wp Tryd.func29 rfl hf ?_ rfl
  simp only [Tryd.ntmps29, List.size_toArray, List.length_cons, List.length_nil, Nat.reduceAdd, Nat.reduceSub, Array.replicate_succ, Array.replicate_zero, List.push_toArray, List.append_toArray, List.nil_append, List.cons_append]
  gi_wp2
  go_ret
  exact ⟨rfl, rfl⟩

set_option maxRecDepth 100000 in
/-- .. of no log: no round. -/
theorem kept1_nil (n : Nat) (hn : 1 ≤ n) (l Bs : Nat) (J : List (List Int) → World → Prop) (W : World) (hBs : W.cell? ⟨Bs, 0, none⟩ = some (.pointer none)) (h0 : J [] W) :
    CallsIn Fence.wide n Tryd.prog 39 #[.func (.yield l) #[] #[], .pointer (some ⟨Bs, 0, none⟩)] W fun e W' => (∃ v, e = .returned v) ∧ J [] W' := by
  have hf : Fence.wide.fn 39 := trivial
  have hfl : Fence.wide.fn 19 := trivial
  refine callsIn_of_wp Tryd.func39 rfl hf ?_ rfl
  simp only [Tryd.ntmps39, List.size_toArray, List.length_cons, List.length_nil, Nat.reduceAdd, Nat.reduceSub, Array.replicate_succ, Array.replicate_zero, List.push_toArray, List.append_toArray, List.nil_append, List.cons_append]
  gi_wp2_with (gi_at_call 19; refine (callsIn_wide.2 (len_nil W)).mono ?_; rintro e w' ⟨rfl, rfl⟩)
  gi_loopw [6] (fun i wr => i = .int .i64 0 ∧ J [] wr) (fun i _ => 0)
  case atStart => exact ⟨rfl, h0⟩
  case round =>
    obtain ⟨rfl, hJ⟩ := hrel
    gi_wp2
    go_end0
    exact ⟨⟨_, rfl⟩, hJ⟩

/-- What a round keeps: what lies below n₀, and the box. -/
structure KpB (n₀ Bs : Nat) (A B : World) : Prop where
  below : Below n₀ A B
  box : B.cell? ⟨Bs, 0, none⟩ = A.cell? ⟨Bs, 0, none⟩
theorem KpB.t {n₀ Bs : Nat} {A B C : World} (h : KpB n₀ Bs A B) (k : KpB n₀ Bs B C) : KpB n₀ Bs A C := ⟨h.below.trans k.below, k.box.trans h.box⟩
theorem KpB.refl (n₀ Bs : Nat) (W : World) : KpB n₀ Bs W W := ⟨Below.refl _ _, rfl⟩
theorem KpB.drew {n₀ Bs : Nat} {A B : World} (h : KpB n₀ Bs A B) : KpB n₀ Bs A B.drew := ⟨h.below.drew, h.box⟩

set_option maxRecDepth 100000 in
set_option maxHeartbeats 3200000 in
theorem kept1_in (n : Nat) (hn : 2 ≤ n) (l Bs n₀ b g m nn at_ : Nat) (ks : List (List Int)) (hb : b < n₀) (hg : g < n₀) (J Jx : List (Nat × List Int) → World → Prop)
    (W : World) (hn₀ : n₀ ≤ W.heap.size) (hJ : AbidesFrom W.heap.size J)
    (hY : ∀ pre (k : Nat) (r : List Int) W, ks[k]? = some r → pre.length = k → J pre W → YieldAt Fence.wide (n - 1) Tryd.prog l #[.int .i64 (k : Nat), repVal r] W fun e W' =>
      (e = .returned (.bool true) ∧ J (pre ++ [(k, r)]) W' ∧ KpB n₀ Bs W W') ∨ (e = .returned (.bool false) ∧ Jx (pre ++ [(k, r)]) W'))
    (hBs : W.cell? ⟨Bs, 0, none⟩ = some (.pointer (some ⟨b, 0, none⟩))) (hc : LogHas W b g m nn at_ ks) (h0 : J [] W) :
    CallsIn Fence.wide n Tryd.prog 39 #[.func (.yield l) #[] #[], .pointer (some ⟨Bs, 0, none⟩)] W fun e W' => (∃ v, e = .returned v) ∧
      (J ((List.range nn).zip ks) W' ∨ (∃ k, k < nn ∧ Jx (((List.range nn).zip ks).take (k + 1)) W')) := by
  have hf : Fence.wide.fn 39 := trivial
  have hfl : Fence.wide.fn 19 := trivial
  refine callsIn_of_wp Tryd.func39 rfl hf ?_ rfl
  simp only [Tryd.ntmps39, List.size_toArray, List.length_cons, List.length_nil, Nat.reduceAdd, Nat.reduceSub, Array.replicate_succ, Array.replicate_zero, List.push_toArray, List.append_toArray, List.nil_append, List.cons_append]
  have h1 : 1 ≤ n := by omega
  have h2 : 1 ≤ n - 1 := by omega
  have Hc := Lib.hid hc
  have HY := Lib.hid hY
  have HJ := Lib.hid hJ
  have c9 := hc.c9
  clear hc hY hJ
  gi_wp2_with (gi_at_call 19; refine (callsIn_wide.2 (len_cells W c9)).mono ?_; rintro e w' ⟨rfl, hw⟩; rw [hw]; clear hw w')
  clear c9
  have hzl : ((List.range nn).zip ks).length = nn := by rw [List.length_zip, List.length_range, Hc.out.len, Nat.min_self]
  have Hzl := Lib.hid hzl
  clear hzl
  gi_loopw [6] (fun i wr => ∃ k : Nat, k ≤ nn ∧ i = .int .i64 k ∧ J (((List.range nn).zip ks).take k) wr ∧ KpB n₀ Bs W wr)
    (fun i _ => nn - (intOf i).toNat)
  case atStart => exact ⟨0, Nat.zero_le _, rfl, h0, KpB.refl _ _ _⟩
  case round =>
    obtain ⟨k, hk, rfl, hJs, hnx⟩ := hrel
    by_cases hlt : k < nn
    · have hlt' : (k : Int) < (nn : Int) := by omega
      have hlen := Hc.out.len
      obtain ⟨r, hr⟩ : ∃ r, ks[k]? = some r := ⟨ks[k]'(by omega), List.getElem?_eq_getElem _⟩
      have hrok := Hc.out.ok r (List.mem_of_getElem? hr)
      have hcs := Hc.out.below hb hg hnx.below
      have d8 := hcs.c8
      have d9 := hcs.c9
      have d10 := hcs.c10
      have dB := hnx.box.trans hBs
      have hrg : wr.drew.rangeAt g ((at_ + m - nn + k) % m * 21) (i64s r) := hcs.lies k r hr
      have hle := Hc.out.le
      have hat := Hc.out.lt
      have hsm := Hc.out.small
      have w1 : IntKind.i64.wrap ((at_ : Int) - (nn : Int)) = (at_ : Int) - (nn : Int) := i64_in _ (by omega)
      have w2 : IntKind.i64.wrap ((at_ : Int) - (nn : Int) + (k : Int)) = (at_ : Int) - (nn : Int) + (k : Int) := i64_in _ (by omega)
      have w3 : IntKind.i64.wrap ((at_ : Int) - (nn : Int) + (k : Int) + (m : Int)) = ((at_ + m - nn + k : Nat) : Int) := (i64_in _ (by omega)).trans (by omega)
      have hjl : (at_ + m - nn + k) % m < m := Nat.mod_lt _ (by omega)
      have hmod : (((at_ + m - nn + k : Nat) : Int)).tmod (m : Int) = (((at_ + m - nn + k) % m : Nat) : Int) := by rw [Int.tmod_eq_emod_of_nonneg (by omega), Int.natCast_emod]
      generalize (at_ + m - nn + k) % m = j at *
      generalize at_ + m - nn + k = q at *
      have hjl' : (j : Int) < (m : Int) := by omega
      have hm0 : ¬ (m : Int) = 0 := by omega
      have hm1 : ¬ m = 0 := by omega
      have hsz := rep_size (n := (i64s r).length) (by rw [i64s_length]; exact hrok.len)
      have hJd := HJ.out _ _ wr.drew none hJs ⟨rfl, rfl, rfl, Nat.le_refl _, fun _ _ _ => rfl⟩ (fun r e => by cases e)
      have hpl : (((List.range nn).zip ks).take k).length = k := by rw [List.length_take, Hzl.out]; omega
      have hsnoc : ((List.range nn).zip ks).take (k + 1) = ((List.range nn).zip ks).take k ++ [(k, r)] := by
        rw [List.take_add_one]
        congr 1
        rw [(List.getElem?_zip_eq_some (z := (k, r))).2 ⟨List.getElem?_range hlt, hr⟩]
        rfl
      obtain ⟨fn, tmps, assign, body, hy, hR⟩ := HY.out _ k r _ hr hpl hJd
      have HR := Lib.hid hR
      have Hsnoc := Lib.hid hsnoc
      have Hr := Lib.hid hr
      unfold repVal at hy
      clear hR hJs hJd hcs hsnoc hr hpl
      gi_wp2_with fail
      refine wpIn_region_still_tail (follows_wide _ _) 31 (by kernel_rfl) (by kernel_rfl) (by kernel_rfl) ?_
      simp only [List.take_succ_cons, List.take_zero, List.drop_succ_cons, List.drop_zero]
      iterate 30 still_step
      refine wpStill_load_mid rfl 25 _ rfl g (j * 21) rfl (i64s r) _ hrg Tryd.underlying25 rfl hsz ?_
      refine wpStill_nil ?_
      clear w1 w2 w3 hmod hm0 hm1 hsz hrg d8 d9 d10 dB
      gi_wp2
      refine HR.out.mono ?_
      rintro e W3 (⟨rfl, hJ3, hk3⟩ | ⟨rfl, hJx3⟩)
      · gi_wp2
        go_roundw
        case rel => exact ⟨k + 1, by omega, by go_num, by rw [Hsnoc.out]; exact hJ3, hnx.drew.t hk3⟩
        case measure => simp [intOf]; omega
      · gi_wp2
        refine bodyPost_ret (results_none rfl _ _ _) rfl ?_
        exact ⟨⟨_, rfl⟩, .inr ⟨k, hlt, by rw [Hsnoc.out]; exact hJx3⟩⟩
    · obtain rfl : k = nn := by omega
      have Hx := Lib.hid hJs
      have hlt' : ¬ (k : Int) < (k : Int) := by omega
      clear hJs
      gi_wp2
      go_end0
      exact ⟨⟨_, rfl⟩, .inl (by have := Hx.out; rwa [List.take_of_length_le (by rw [Hzl.out]; exact Nat.le_refl _)] at this)⟩

/-- What the pointer points to: a log below n₀; or none, and nothing is kept. -/
def KeptAt (n₀ : Nat) (W : World) (p : Option Addr) (nn : Nat) (ks : List (List Int)) : Prop := (p = none ∧ nn = 0 ∧ ks = []) ∨ ∃ b g m at_, p = some ⟨b, 0, none⟩ ∧ b < n₀ ∧ g < n₀ ∧ LogHas W b g m nn at_ ks
theorem KeptAt.below {n₀ : Nat} {A B : World} {p : Option Addr} {nn : Nat} {ks : List (List Int)} (hk : Below n₀ A B) : KeptAt n₀ A p nn ks → KeptAt n₀ B p nn ks
  | .inl h => .inl h
  | .inr ⟨b, g, m, at_, h1, h2, h3, h4⟩ => .inr ⟨b, g, m, at_, h1, h2, h3, h4.below h2 h3 hk⟩
theorem KeptAt.len {n₀ : Nat} {A : World} {p : Option Addr} {nn : Nat} {ks : List (List Int)} : KeptAt n₀ A p nn ks → ks.length = nn
  | .inl ⟨_, h1, h2⟩ => by rw [h1, h2]; rfl
  | .inr ⟨_, _, _, _, _, _, _, h⟩ => h.len
theorem KeptAt.ok {n₀ : Nat} {A : World} {p : Option Addr} {nn : Nat} {ks : List (List Int)} : KeptAt n₀ A p nn ks → ∀ r ∈ ks, RepOk r
  | .inl ⟨_, _, h2⟩ => by rw [h2]; intro r hr; cases hr
  | .inr ⟨_, _, _, _, _, _, _, h⟩ => h.ok
theorem KeptAt.small {n₀ : Nat} {A : World} {p : Option Addr} {nn : Nat} {ks : List (List Int)} : KeptAt n₀ A p nn ks → nn ≤ 1024
  | .inl ⟨_, h1, _⟩ => by rw [h1]; exact Nat.zero_le _
  | .inr ⟨_, _, _, _, _, _, _, h⟩ => Nat.le_trans h.le h.small

/-- A place and the report that is kept there. -/
abbrev Kel (ks : List (List Int)) : Type := { x : Nat × List Int // ks[x.1]? = some x.2 }
def kelArgs {ks : List (List Int)} (x : Kel ks) : Array Value := #[.int .i64 (x.val.1 : Nat), repVal x.val.2]

theorem kept_stops (n : Nat) (hn : 2 ≤ n) (Bs n₀ : Nat) (p : Option Addr) (nn : Nat) (ks : List (List Int)) (w : World) (hBs : Bs < w.heap.size) (hn₀ : n₀ ≤ w.heap.size)
    (hc : w.cell? ⟨Bs, 0, none⟩ = some (.pointer p)) (hP : KeptAt n₀ w p nn ks) :
    SeqStopsK Fence.wide n Tryd.prog 39 #[.pointer (some ⟨Bs, 0, none⟩)] (kelArgs (ks := ks)) (KpB n₀ Bs) (fun ys => ys.map Subtype.val = (List.range nn).zip ks) (fun _ => True) nn w := fun l J Jx W hW hJ hJx hY h0 => by
  have hc' := (hW.cell (p := ⟨Bs, 0, none⟩) hBs).trans hc
  have hlen := hP.len
  rcases hP.below (hW.mono hn₀) with ⟨rfl, rfl, rfl⟩ | ⟨b, g, m, at_, rfl, hb, hg, hcs⟩
  · exact (kept1_nil n (by omega) l Bs (fun _ W => J [] W) W hc' h0).mono fun e W' ⟨he, hj⟩ => ⟨he, .inl ⟨[], rfl, hj⟩⟩
  · refine (kept1_in n hn l Bs n₀ b g m nn at_ ks hb hg (fun q W => ∃ y : List (Kel ks), y.map Subtype.val = q ∧ J y W) (fun _ W => ∃ y, Jx y W) W (Nat.le_trans hn₀ hW.size) (fun q A B row ⟨y, hy, h⟩ h1 h2 => ⟨y, hy, hJ y A B row h h1 h2⟩) ?_ hc' hcs ⟨[], rfl, h0⟩).mono ?_
    · rintro pre k r W1 hk hl ⟨y, rfl, hj⟩
      have hkl : k < nn := by have := (List.getElem?_eq_some_iff.1 hk).1; omega
      exact (hY y ⟨(k, r), hk⟩ W1 hj (by rw [List.length_map] at hl; omega)).mono fun e W' h => h.imp (fun ⟨h1, h2, h3⟩ => ⟨h1, ⟨y ++ [⟨(k, r), hk⟩], by simp, h2⟩, h3⟩) (fun ⟨h1, h2⟩ => ⟨h1, _, h2⟩)
    · rintro e W' ⟨he, ⟨y, hy, hj⟩ | ⟨k, -, y, hj⟩⟩
      · exact ⟨he, .inl ⟨y, hy, hj⟩⟩
      · exact ⟨he, .inr ⟨y, trivial, hj⟩⟩
end Go.Proofs.YtpnpnajheaijaaaDoor
