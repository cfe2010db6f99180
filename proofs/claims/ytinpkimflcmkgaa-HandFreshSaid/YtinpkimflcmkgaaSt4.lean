/-
  The stack of layer 14: contracts of Pop, Get, Set, Enter, Leave and Copy.
  Conditions: none beyond what each contract states.
-/
import Derived.Test.YtinpkimflcmkgaaSt3
import Derived.Deep.DrawnRows
namespace Go.Proofs.Ytinpkimflcmkgaa
open Go Go.RowKit

section
variable {b : Nat} {ws : List Int} {fs : List Nat} {max : Nat} {l R : List Blk}

theorem u64s_at (ws : List Int) (k : Nat) (x : Int) (h : ws[k]? = some x) : (u64s ws)[k]? = some (.int .u64 x) := by simp [u64s, h]
theorem i64s_at (ws : List Nat) (k : Nat) (x : Nat) (h : ws[k]? = some x) : (i64s ws)[k]? = some (.int .i64 x) := by simp [i64s, h]

theorem le_base {fs : List Nat} (h : fs.Pairwise (· ≤ ·)) : ∀ x ∈ fs, x ≤ baseOf fs := by
  rcases List.eq_nil_or_concat fs with rfl | ⟨i, y, rfl⟩
  · intro x hx
    cases hx
  · intro x hx
    rw [List.concat_eq_append] at *
    rw [baseOf_snoc]
    rcases List.mem_append.1 hx with h1 | h1
    · exact (List.pairwise_append.1 h).2.2 x h1 y (by simp)
    · simp at h1
      omega
theorem StackOk.shorter {ws' : List Int} (h : StackOk ws fs max) (h1 : ws'.length ≤ ws.length) (h2 : baseOf fs ≤ ws'.length) : StackOk ws' fs max := by
  refine ⟨Nat.le_trans h1 h.len, h.max, h.deep, ?_⟩
  have hp := List.pairwise_append.1 h.up
  refine List.pairwise_append.2 ⟨hp.1, by simp, fun x hx y hy => ?_⟩
  obtain rfl : y = ws'.length := by simpa using hy
  exact Nat.le_trans (le_base hp.1 x hx) h2

/-- The cell of a word. -/
theorem word_cell {w : World} {aw : Option Addr} {cw : Nat} {lw lf : List Blk} {hd : Obj} (hw : Row 31 1 aw ws.length cw (u64s ws) lw) (hH : Has w ((b, hd) :: (lw ++ lf) ++ R)) (k : Nat) (x : Int) (hx : ws[k]? = some x) :
    ∃ g, aw = some ⟨g, 0, none⟩ ∧ w.cell? ⟨g, k, none⟩ = some (.int .u64 x) ∧ w.frozen? ⟨g, k, none⟩ = false := by
  have hk : k < ws.length := (List.getElem?_eq_some_iff.1 hx).1
  obtain ⟨g, cur, rfl, rfl, -, -⟩ := hw.some_of (by omega)
  have hH' := hH.perm (l' := [(g, Obj.cells cur 31 (0, 0))] ++ ((b, hd) :: (lf ++ R))) (perm_of fun c => by simp; omega)
  exact ⟨g, rfl, by rw [hw.cell hH' k (by omega), u64s_at ws k x hx], hw.free hH' k⟩

set_option maxRecDepth 100000 in
theorem pop_yes (w : World) (hS : StackIs b ws fs max l) (hH : Has w (l ++ R)) (v : Int) (ws' : List Int) (hws : ws = ws' ++ [v]) (hb : baseOf fs ≤ ws'.length) :
    Calls Try.prog 26 #[.pointer (some ⟨b, 0, none⟩)] w fun e w' => e = .returned (.tuple #[.int .u64 v, .int .i64 0]) ∧ ∃ l', StackIs b ws' fs max l' ∧ Turn (l ++ R) w (l' ++ R) w' := by
  have hS' := hS
  obtain ⟨hok, aw, cw, af, cf, lw, lf, rfl, hw, hf⟩ := hS
  obtain ⟨c0, c1, c2, f0, f1, hlt0⟩ := head_of hH
  have hlen : ws'.length + 1 = ws.length := by rw [hws]; simp
  have hl := hok.len
  have hm := hok.max
  obtain ⟨g, rfl, hc, hfz⟩ := word_cell hw hH ws'.length v (by rw [hws]; simp)
  have hi : IntKind.i64.wrap ((ws.length : Int) - 1) = (ws'.length : Int) := by rw [IntWalk.i64_in _ (by omega)]; omega
  have hnl : decide ((ws.length : Int) ≤ (baseOf fs : Int)) = false := by simp; omega
  have hlt : ws'.length < ws.length := by omega
  have hlt' : (ws'.length : Int) < (ws.length : Int) := by omega
  have hok' : StackOk ws' fs max := hok.shorter (by omega) hb
  have hcw := hw.2.1
  have hcm := hw.2.2.1
  have Hws := Lib.hid hws
  have Hlen := Lib.hid hlen
  clear hws hlen
  go_enter Try.func26, Try.ntmps26
  go_wp2
  go_quiet ((go_at_call 60; exact Calls.quiet_of (base_any _ hS' (hH.drewN _))))
  go_wp2
  go_quiet (fail)
  go_wp2_with (go_at_call 61; refine (cut_u64 _ _ _ 1 _ hcw hcm (by omega)).mono ?_; rintro e w' ⟨rfl, rfl⟩)
  go_ret2
  have hw' : Row 31 1 (some ⟨g, 0, none⟩) (ws.length - 1) (ws.length - 1) (u64s ws') lw := by
    have h1 := hw.take (ws.length - 1) (ws.length - 1) (by omega) (by omega) (by omega)
    have h2 : (u64s ws).take ((ws.length - 1) * 1) = u64s ws' := by
      have hlen := Hlen.out
      rw [show (ws.length - 1) * 1 = ws'.length from by omega, Hws.out]
      simp [u64s]
    rwa [h2] at h1
  refine ⟨rfl, _, StackIs.mk' (n := ws.length - 1) hok' (by have := Hlen.out; omega) rfl hw' hf, ?_⟩
  exact ((Turn.refl hH).drewN _).setCell 0 _

set_option maxRecDepth 100000 in
theorem pop_bare (w : World) (hS : StackIs b ws fs max l) (hH : Has w (l ++ R)) (hb : ws.length = baseOf fs) :
    Calls Try.prog 26 #[.pointer (some ⟨b, 0, none⟩)] w fun e w' => e = .returned (.tuple #[.int .u64 0, .int .i64 140]) ∧ ∃ n, w' = w.drewN n := by
  have hS' := hS
  obtain ⟨hok, aw, cw, af, cf, lw, lf, rfl, hw, hf⟩ := hS
  obtain ⟨c0, c1, c2, f0, f1, hlt0⟩ := head_of hH
  have hle : ws.length ≤ baseOf fs := by omega
  clear hb
  go_enter Try.func26, Try.ntmps26
  go_wp2
  go_quiet ((go_at_call 60; exact Calls.quiet_of (base_any _ hS' (hH.drewN _))))
  go_wp2
  go_ret2
  exact ⟨rfl, _, rfl⟩

/-- The i-th word from the top is there, at place k. -/
structure AtPlace (ws : List Int) (fs : List Nat) (i k : Nat) : Prop where
  sum : k + 1 + i = ws.length
  base : baseOf fs ≤ k

set_option maxRecDepth 100000 in
theorem at_yes (w : World) (hS : StackIs b ws fs max l) (hH : Has w (l ++ R)) (i k : Nat) (hk : AtPlace ws fs i k) :
    Calls Try.prog 59 #[.pointer (some ⟨b, 0, none⟩), .int .i64 i] w fun e w' => e = .returned (.tuple #[.int .i64 k, .int .i64 0]) ∧ ∃ n, w' = w.drewN n := by
  obtain ⟨hs, _hb⟩ := hk
  refine (at_any w hS hH i).mono ?_
  rintro e w' ⟨rfl, hw⟩
  refine ⟨?_, hw⟩
  rw [if_pos ⟨by omega, by omega⟩]
  rw [show (ws.length : Int) - 1 - (i : Int) = (k : Int) from by omega]

set_option maxRecDepth 100000 in
theorem at_no (w : World) (hS : StackIs b ws fs max l) (hH : Has w (l ++ R)) (i : Int) (hk : ¬ MayAt ws fs i) :
    Calls Try.prog 59 #[.pointer (some ⟨b, 0, none⟩), .int .i64 i] w fun e w' => e = .returned (.tuple #[.int .i64 0, .int .i64 2]) ∧ ∃ n, w' = w.drewN n := by
  refine (at_any w hS hH i).mono ?_
  rintro e w' ⟨rfl, hw⟩
  exact ⟨by rw [if_neg hk], hw⟩

theorem mayAt_iff (ws : List Int) (fs : List Nat) (i : Int) : MayAt ws fs i ↔ ∃ j k : Nat, i = j ∧ AtPlace ws fs j k := by
  constructor
  · rintro ⟨h1, h2⟩
    exact ⟨i.toNat, ws.length - 1 - i.toNat, by omega, by omega, by omega⟩
  · rintro ⟨j, k, rfl, h1, h2⟩
    exact ⟨by omega, by omega⟩

set_option maxRecDepth 100000 in
theorem get_yes (w : World) (hS : StackIs b ws fs max l) (hH : Has w (l ++ R)) (i k : Nat) (hk : AtPlace ws fs i k) (x : Int) (hx : ws[k]? = some x) :
    Calls Try.prog 25 #[.pointer (some ⟨b, 0, none⟩), .int .i64 i] w fun e w' => e = .returned (.tuple #[.int .u64 x, .int .i64 0]) ∧ ∃ n, w' = w.drewN n := by
  have hS' := hS
  obtain ⟨hok, aw, cw, af, cf, lw, lf, rfl, hw, hf⟩ := hS
  obtain ⟨c0, c1, c2, f0, f1, hlt0⟩ := head_of hH
  obtain ⟨g, rfl, hc, hfz⟩ := word_cell hw hH k x hx
  have hlt : k < ws.length := (List.getElem?_eq_some_iff.1 hx).1
  have hlt' : (k : Int) < (ws.length : Int) := by omega
  have Hx := Lib.hid hx
  clear hx
  go_enter Try.func25, Try.ntmps25
  go_wp2_with (go_at_call 59; refine (at_yes _ hS' hH i k hk).mono ?_; rintro e w' ⟨rfl, n, rfl⟩)
  go_ret2
  exact ⟨rfl, _, rfl⟩

set_option maxRecDepth 100000 in
theorem get_no (w : World) (hS : StackIs b ws fs max l) (hH : Has w (l ++ R)) (i : Int) (hk : ¬ MayAt ws fs i) :
    Calls Try.prog 25 #[.pointer (some ⟨b, 0, none⟩), .int .i64 i] w fun e w' => e = .returned (.tuple #[.int .u64 0, .int .i64 2]) ∧ ∃ n, w' = w.drewN n := by
  have Hk := Lib.hid hk
  clear hk
  go_enter Try.func25, Try.ntmps25
  go_wp2_with (go_at_call 59; refine (at_no _ hS hH i Hk.out).mono ?_; rintro e w' ⟨rfl, n, rfl⟩)
  go_ret2
  exact ⟨rfl, _, rfl⟩

set_option maxRecDepth 100000 in
theorem set_no (w : World) (hS : StackIs b ws fs max l) (hH : Has w (l ++ R)) (i : Int) (hk : ¬ MayAt ws fs i) (v : Int) :
    Calls Try.prog 48 #[.pointer (some ⟨b, 0, none⟩), .int .i64 i, .int .u64 v] w fun e w' => e = .returned (.int .i64 2) ∧ ∃ n, w' = w.drewN n := by
  have Hk := Lib.hid hk
  clear hk
  go_enter Try.func48, Try.ntmps48
  go_wp2_with (go_at_call 59; refine (at_no _ hS hH i Hk.out).mono ?_; rintro e w' ⟨rfl, n, rfl⟩)
  go_ret
  exact ⟨rfl, _, rfl⟩

theorem u64s_set (ws : List Int) (k : Nat) (v : Int) : u64s (ws.set k v) = (u64s ws).set k (.int .u64 v) := by simp [u64s, List.map_set]

set_option maxRecDepth 100000 in
theorem set_yes (w : World) (hS : StackIs b ws fs max l) (hH : Has w (l ++ R)) (i k : Nat) (hk : AtPlace ws fs i k) (v : Int) :
    Calls Try.prog 48 #[.pointer (some ⟨b, 0, none⟩), .int .i64 i, .int .u64 v] w fun e w' => e = .returned (.int .i64 0) ∧ ∃ l', StackIs b (ws.set k v) fs max l' ∧ Turn (l ++ R) w (l' ++ R) w' := by
  have hS' := hS
  obtain ⟨hok, aw, cw, af, cf, lw, lf, rfl, hw, hf⟩ := hS
  obtain ⟨c0, c1, c2, f0, f1, hlt0⟩ := head_of hH
  have hlt : k < ws.length := by have := hk.sum; omega
  obtain ⟨g, cur, rfl, rfl, -, -⟩ := hw.some_of (by omega)
  obtain ⟨g', hg, hc, hfz⟩ := word_cell hw hH k (ws[k]'hlt) (List.getElem?_eq_getElem hlt)
  obtain rfl : g = g' := by cases hg; rfl
  clear hg
  have hlt' : (k : Int) < (ws.length : Int) := by omega
  go_enter Try.func48, Try.ntmps48
  go_wp2_with (go_at_call 59; refine (at_yes _ hS' hH i k hk).mono ?_; rintro e w' ⟨rfl, n, rfl⟩)
  go_ret
  have hok' : StackOk (ws.set k v) fs max := hok.shorter (by simp) (by simpa using hok.base)
  have hw' : Row 31 1 (some ⟨g, 0, none⟩) ws.length cw (u64s (ws.set k v)) [(g, .cells (cur.setIfInBounds k (.int .u64 v)) 31 (0, 0))] := by
    rw [u64s_set]
    exact hw.set k _
  refine ⟨rfl, _, StackIs.mk' (n := ws.length) hok' (by simp) rfl hw' hf, ?_⟩
  have T1 := ((Turn.refl hH).drewN n).perm (l2 := (g, .cells cur 31 (0, 0)) :: ((b, .cells #[.slice (some ⟨g, 0, none⟩) ws.length cw, .slice af fs.length cf, .int .i64 max] 107) :: (lf ++ R))) (perm_of fun c => by simp; omega)
  exact (T1.setCell k (.int .u64 v)).perm (perm_of fun c => by simp; omega)
end
end Go.Proofs.Ytinpkimflcmkgaa
