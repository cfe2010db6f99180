/-
  The table of hands (package hand): how it lies, the handle of a slot, find, New.
  Conditions: a table of at most 4096 slots, each given less than 2^32 - 1 times.
-/
import Derived.Test.YtinpkimflcmkgaaWk2
namespace Go.Proofs.Ytinpkimflcmkgaa
open Go Go.RowKit

structure HSlot where
  given : Nat
  addr : Int
def HSlot.vals (s : HSlot) : List Value := [.int .u64 s.given, .int .u64 s.addr]
theorem HSlot.vals_length (s : HSlot) : s.vals.length = 2 := rfl
def zeroHSlot : HSlot := ⟨0, 0⟩

structure HdOk (S : List HSlot) : Prop where
  len : S.length ≤ 4096
  small : ∀ s ∈ S, s.given < 4294967295

/-- The table in block b, its slots in another. -/
def HandsIs (b : Nat) (S : List HSlot) (l : List Blk) : Prop :=
  HdOk S ∧ ∃ g cur, l = [(b, .cells #[.slice (some ⟨g, 0, none⟩) S.length S.length] 96), (g, .cells cur 100)] ∧ cur.toList = S.flatMap HSlot.vals

structure HCells (w : World) (b g : Nat) (S : List HSlot) : Prop where
  c0 : w.cell? ⟨b, 0, none⟩ = some (.slice (some ⟨g, 0, none⟩) S.length S.length)
  at_ : ∀ i s, S[i]? = some s → w.cell? ⟨g, i * 2, none⟩ = some (.int .u64 s.given) ∧ w.cell? ⟨g, i * 2 + 1, none⟩ = some (.int .u64 s.addr)
  free : ∀ i, w.frozen? ⟨g, i, none⟩ = false
  ne : g ≠ b

theorem hcells {w : World} {b g : Nat} {S : List HSlot} {cur : Array Value} {R : List Blk} (hc : cur.toList = S.flatMap HSlot.vals)
    (h : Has w ([(b, .cells #[.slice (some ⟨g, 0, none⟩) S.length S.length] 96), (g, .cells cur 100)] ++ R)) : HCells w b g S := by
  have hg : (g, Obj.cells cur 100 (0, 0)) ∈ [(b, Obj.cells #[.slice (some ⟨g, 0, none⟩) S.length S.length] 96 (0, 0)), (g, Obj.cells cur 100 (0, 0))] ++ R := by simp
  have hat : ∀ i s j, S[i]? = some s → j < 2 → w.cell? ⟨g, i * 2 + j, none⟩ = s.vals[j]? := by
    intro i s j hi hj
    rw [h.cell hg, ← Array.getElem?_toList, hc, flatMap_get HSlot.vals_length S i j hj, hi]
    rfl
  have hb : (b, Obj.cells #[.slice (some ⟨g, 0, none⟩) S.length S.length] 96 (0, 0)) ∈ [(b, Obj.cells #[.slice (some ⟨g, 0, none⟩) S.length S.length] 96 (0, 0)), (g, Obj.cells cur 100 (0, 0))] ++ R := by simp
  refine ⟨h.cell hb 0, fun i s hi => ⟨hat i s 0 hi (by omega), hat i s 1 hi (by omega)⟩, fun i => h.free hg i, ?_⟩
  have := h.nd
  intro e
  subst e
  simp at this

theorem hset_toList {cur : Array Value} {S : List HSlot} (hc : cur.toList = S.flatMap HSlot.vals) (i j : Nat) (hj : j < 2) (s s' : HSlot) (v : Value) (hi : S[i]? = some s) (hv : s'.vals = s.vals.set j v) :
    (cur.setIfInBounds (i * 2 + j) v).toList = (S.set i s').flatMap HSlot.vals := by
  rw [Array.toList_setIfInBounds, hc, flatMap_set HSlot.vals_length S i j hj s s' v hi hv]

section
variable {b : Nat} {S : List HSlot} {l R : List Blk}

set_option maxRecDepth 100000 in
theorem handle_any (w : World) (hS : HandsIs b S l) (hH : Has w (l ++ R)) (i : Nat) (s : HSlot) (hi : S[i]? = some s) :
    Calls Try.prog 55 #[.pointer (some ⟨b, 0, none⟩), .int .i64 i] w fun e w' => e = .returned (.int .u64 (wh i s.given)) ∧ w = w' := by
  obtain ⟨hok, g, cur, rfl, hc⟩ := hS
  have W := hcells hc hH
  have hlt : i < S.length := (List.getElem?_eq_some_iff.1 hi).1
  have hlt' : (i : Int) < (S.length : Int) := by omega
  obtain ⟨c0, at_, -, -⟩ := W
  obtain ⟨a0, a1⟩ := at_ i s hi
  have hsm := hok.small s (List.mem_of_getElem? hi)
  have hl := hok.len
  have hor := or_wh s.given i hsm (by omega)
  clear at_ hi
  go_enter Try.func55, Try.ntmps55
  go_wp2
  go_ret
  exact ⟨rfl, rfl⟩

theorem el_hslot : Elem Try.prog 94 100 2 16 (.agg #[.int .u64 0, .int .u64 0]) := Elem.of Try.underlying94 (by kernel_rfl) rfl

set_option maxRecDepth 100000 in
theorem hNew_any (w : World) (m : Nat) (hm : m ≤ 4096) (hH : Has w R) :
    Calls Try.prog 13 #[.int .i64 m] w fun e w' => ∃ b l', e = .returned (.tuple #[.pointer (some ⟨b, 0, none⟩), .int .i64 0]) ∧ HandsIs b (List.replicate m zeroHSlot) l' ∧ Turn R w (l' ++ R) w' := by
  obtain ⟨i, hi, hz, hsz, hby⟩ := el_hslot.info
  have hmk := fun W : World => run_make_rows (P := Try.prog) 94 100 i _ el_hslot.ht hi hz .i64 .i64 m (by rw [hby]; omega) (by omega) W
  rw [hsz] at hmk
  have hcells : (madeCells (Value.agg #[.int .u64 0, .int .u64 0]).cells (m * 2)).toList = (List.replicate m zeroHSlot).flatMap HSlot.vals := made_rows HSlot.vals_length (by omega) zeroHSlot m
  generalize madeCells (Value.agg #[.int .u64 0, .int .u64 0]).cells (m * 2) = cur at *
  have T := ((Turn.refl hH).alloc (.cells cur 100)).alloc (.cells #[.slice (some ⟨w.heap.size, 0, none⟩) m m] 96)
  have Hcells := Lib.hid hcells
  clear hi hz hsz hby hcells
  go_enter Try.func13, Try.ntmps13
  go_wp2
  go_ret2
  rw [World.size_alloc] at T
  have hok : HdOk (List.replicate m zeroHSlot) := ⟨by simpa using hm, fun s hs => by rw [List.eq_of_mem_replicate hs]; exact (by decide)⟩
  exact ⟨w.heap.size + 1, [(w.heap.size + 1, .cells #[.slice (some ⟨w.heap.size, 0, none⟩) m m] 96), (w.heap.size, .cells cur 100)], rfl, ⟨hok, w.heap.size, cur, by simp, Hcells.out⟩, T⟩

theorem HandsIs.mk' {g : Nat} {cur : Array Value} {n : Nat} (hok : HdOk S) (hn : n = S.length) (hc : cur.toList = S.flatMap HSlot.vals) :
    HandsIs b S [(b, .cells #[.slice (some ⟨g, 0, none⟩) n n] 96), (g, .cells cur 100)] := by
  subst hn
  exact ⟨hok, g, cur, rfl, hc⟩
theorem HdOk.set (h : HdOk S) (i : Nat) (s : HSlot) (h1 : s.given < 4294967295) : HdOk (S.set i s) :=
  ⟨by simpa using h.len, fun x hx => by rcases List.mem_or_eq_of_mem_set hx with hm | rfl; exact h.small x hm; exact h1⟩

def NoHand (S : List HSlot) (x : Nat) : Prop := ∀ i s, S[i]? = some s → s.addr ≠ 0 → (x : Int) ≠ wh i s.given

set_option maxRecDepth 100000 in
theorem hFind_yes (w : World) (hS : HandsIs b S l) (hH : Has w (l ++ R)) (i : Nat) (s : HSlot) (hi : S[i]? = some s) (hst : s.addr ≠ 0) :
    Calls Try.prog 56 #[.pointer (some ⟨b, 0, none⟩), .int .u64 (wh i s.given)] w fun e w' => e = .returned (.tuple #[.int .i64 i, .int .i64 0]) ∧ ∃ n, w' = w.drewN n := by
  have hS' := hS
  obtain ⟨hok, g, cur, rfl, hc⟩ := hS
  have W := hcells hc hH
  have hlt : i < S.length := (List.getElem?_eq_some_iff.1 hi).1
  have hlt' : (i : Int) < (S.length : Int) := by omega
  obtain ⟨c0, at_, -, -⟩ := W
  obtain ⟨a0, a1⟩ := at_ i s hi
  have hsm := hok.small s (List.mem_of_getElem? hi)
  have hl := hok.len
  have hand := and_low (s.given * 4294967296 + i) (by omega)
  rw [wh_low i s.given (by omega)] at hand
  have hb0 : (s.addr != 0) = true := by simpa using hst
  have hmin : min (i : Int) ((S.length : Int) - 1) = i := by omega
  have hwr : IntKind.i64.wrap ((S.length : Int) - 1) = (S.length : Int) - 1 := IntWalk.i64_in _ (by omega)
  have hw : ∀ n : Nat, Calls Try.prog 55 #[.pointer (some ⟨b, 0, none⟩), .int .i64 i] (w.drewN n) fun e w' => e = .returned (.int .u64 (wh i s.given)) ∧ w.drewN n = w' := fun n => handle_any _ hS' (hH.drewN n) i s hi
  have Hw := Lib.hid hw
  have hwh : wh i s.given = ((s.given * 4294967296 + i : Nat) : Int) := rfl
  clear at_ hi hw hst
  rw [hwh] at Hw
  rw [hwh]
  generalize s.given * 4294967296 + i = x at *
  clear hwh
  go_enter Try.func56, Try.ntmps56
  go_wp2_with fail
  go_quiet (fail)
  go_wp2_with (go_at_call 55; refine (Hw.out _).mono ?_; rintro e w' ⟨rfl, rfl⟩)
  go_ret2
  exact ⟨rfl, _, rfl⟩
end
end Go.Proofs.Ytinpkimflcmkgaa
