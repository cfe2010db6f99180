/-
  The table of weak handles of layer 16 as it lies in memory.
  Conditions: none; plain lemmas.
-/
import Derived.Test.YtinpkimflcmkgaaKit2
import Derived.Test.YtinpkimflcmkgaaProg
import Derived.Deep.QuietTactic
import Derived.BigQuiet
import Derived.WalkSpells
import Derived.Shelf.Abstract
namespace Go.Proofs.Ytinpkimflcmkgaa
open Go Go.RowKit

theorem flatMap_get {α β : Type} {f : α → List β} {sz : Nat} (hf : ∀ a, (f a).length = sz) (S : List α) (i j : Nat) (hj : j < sz) : (S.flatMap f)[i * sz + j]? = S[i]?.bind fun a => (f a)[j]? := by
  induction S generalizing i with
  | nil => simp
  | cons a S ih =>
    rw [List.flatMap_cons]
    cases i with
    | zero =>
      rw [Nat.zero_mul, Nat.zero_add, List.getElem?_append_left (by rw [hf]; exact hj)]
      rfl
    | succ i =>
      have e : (i + 1) * sz + j = sz + (i * sz + j) := by rw [Nat.add_mul]; omega
      rw [e, List.getElem?_append_right (by rw [hf]; omega), hf, Nat.add_sub_cancel_left, ih]
      rfl

theorem flatMap_set {α β : Type} {f : α → List β} {sz : Nat} (hf : ∀ a, (f a).length = sz) (S : List α) (i j : Nat) (hj : j < sz) (a a' : α) (v : β) (h : S[i]? = some a) (ha : f a' = (f a).set j v) :
    (S.flatMap f).set (i * sz + j) v = (S.set i a').flatMap f := by
  induction S generalizing i with
  | nil => simp at h
  | cons b S ih =>
    rw [List.flatMap_cons]
    cases i with
    | zero =>
      have hb : b = a := by simpa using h
      subst hb
      rw [Nat.zero_mul, Nat.zero_add, List.set_append_left _ _ (by rw [hf]; exact hj), List.set_cons_zero, List.flatMap_cons, ha]
    | succ i =>
      have e : (i + 1) * sz + j = sz + (i * sz + j) := by rw [Nat.add_mul]; omega
      rw [e, List.set_append_right _ _ (by rw [hf]; omega), hf, Nat.add_sub_cancel_left, ih i (by simpa using h), List.set_cons_succ, List.flatMap_cons]

theorem flatMap_length {α β : Type} {f : α → List β} {sz : Nat} (hf : ∀ a, (f a).length = sz) (S : List α) : (S.flatMap f).length = S.length * sz := by
  induction S with
  | nil => simp
  | cons a S ih => rw [List.flatMap_cons, List.length_append, hf, ih, List.length_cons, Nat.add_mul]; omega

/-- A slot: its state (0 free, 1 full, 2 gone), its address, how often it was given. -/
structure Slot where
  st : Nat
  addr : Int
  given : Nat
def Slot.vals (s : Slot) : List Value := [.int .i64 s.st, .int .u64 s.addr, .int .u64 s.given]
theorem Slot.vals_length (s : Slot) : s.vals.length = 3 := rfl

structure WkOk (S : List Slot) : Prop where
  len : S.length ≤ 4096
  small : ∀ s ∈ S, s.given < 4294967295
  states : ∀ s ∈ S, s.st ≤ 2

/-- The table in block b, its slots in block g. -/
def WeaksIs (b : Nat) (S : List Slot) (l : List Blk) : Prop :=
  WkOk S ∧ ∃ g cur, l = [(b, .cells #[.slice (some ⟨g, 0, none⟩) S.length S.length] 113), (g, .cells cur 116)] ∧ cur.toList = S.flatMap Slot.vals

structure WCells (w : World) (b g : Nat) (S : List Slot) : Prop where
  c0 : w.cell? ⟨b, 0, none⟩ = some (.slice (some ⟨g, 0, none⟩) S.length S.length)
  at_ : ∀ i s, S[i]? = some s → w.cell? ⟨g, i * 3, none⟩ = some (.int .i64 s.st) ∧ w.cell? ⟨g, i * 3 + 1, none⟩ = some (.int .u64 s.addr) ∧ w.cell? ⟨g, i * 3 + 2, none⟩ = some (.int .u64 s.given)
  free : ∀ i, w.frozen? ⟨g, i, none⟩ = false
  ne : g ≠ b

theorem wcells {w : World} {b g : Nat} {S : List Slot} {cur : Array Value} {R : List Blk} (hc : cur.toList = S.flatMap Slot.vals)
    (h : Has w ([(b, .cells #[.slice (some ⟨g, 0, none⟩) S.length S.length] 113), (g, .cells cur 116)] ++ R)) : WCells w b g S := by
  have hg : (g, Obj.cells cur 116 (0, 0)) ∈ [(b, Obj.cells #[.slice (some ⟨g, 0, none⟩) S.length S.length] 113 (0, 0)), (g, Obj.cells cur 116 (0, 0))] ++ R := by simp
  have hat : ∀ i s j, S[i]? = some s → j < 3 → w.cell? ⟨g, i * 3 + j, none⟩ = s.vals[j]? := by
    intro i s j hi hj
    rw [h.cell hg, ← Array.getElem?_toList, hc, flatMap_get Slot.vals_length S i j hj, hi]
    rfl
  have hb : (b, Obj.cells #[.slice (some ⟨g, 0, none⟩) S.length S.length] 113 (0, 0)) ∈ [(b, Obj.cells #[.slice (some ⟨g, 0, none⟩) S.length S.length] 113 (0, 0)), (g, Obj.cells cur 116 (0, 0))] ++ R := by simp
  refine ⟨h.cell hb 0, fun i s hi => ⟨hat i s 0 hi (by omega), hat i s 1 hi (by omega), hat i s 2 hi (by omega)⟩, fun i => h.free hg i, ?_⟩
  have := h.nd
  intro e
  subst e
  simp at this

theorem set_toList {cur : Array Value} {S : List Slot} (hc : cur.toList = S.flatMap Slot.vals) (i j : Nat) (hj : j < 3) (s s' : Slot) (v : Value) (hi : S[i]? = some s) (hv : s'.vals = s.vals.set j v) :
    (cur.setIfInBounds (i * 3 + j) v).toList = (S.set i s').flatMap Slot.vals := by
  rw [Array.toList_setIfInBounds, hc, flatMap_set Slot.vals_length S i j hj s s' v hi hv]

/-- The handle of a slot. -/
def wh (i given : Nat) : Int := ((given * 4294967296 + i : Nat) : Int)

theorem or_handle (g i : Nat) (hi : i < 4294967296) : (g * 4294967296) ||| i = g * 4294967296 + i := by
  have h := Nat.two_pow_add_eq_or_of_lt (i := 32) (b := i) (by simpa using hi) g
  rw [show (2 ^ 32 : Nat) = 4294967296 from rfl, Nat.mul_comm] at h
  exact h.symm

theorem or_wh (g i : Nat) (hg : g < 4294967295) (hi : i < 4294967296) : bits .or .u64 ((g : Int) * 4294967296) (i : Int) = wh i g := by
  have h := u64_or_nat (g * 4294967296) i (by omega) (by omega)
  rw [Int.natCast_mul] at h
  rw [show ((4294967296 : Nat) : Int) = 4294967296 from rfl] at h
  rw [h, or_handle g i hi]
  rfl

theorem and_low (x : Nat) (hx : x < 18446744073709551616) : bits .and .u64 (x : Int) 4294967295 = ((x % 4294967296 : Nat) : Int) := by
  have h := u64_and_nat x 4294967295 hx (by omega)
  rw [show ((4294967295 : Nat) : Int) = 4294967295 from rfl] at h
  rw [h]
  have h2 := Nat.and_two_pow_sub_one_eq_mod x 32
  rw [show (2 ^ 32 - 1 : Nat) = 4294967295 from rfl, show (2 ^ 32 : Nat) = 4294967296 from rfl] at h2
  rw [h2]

theorem wh_low (i g : Nat) (hi : i < 4294967296) : (g * 4294967296 + i) % 4294967296 = i := by omega

section
variable {b : Nat} {S : List Slot} {l R : List Blk}

set_option maxRecDepth 100000 in
theorem weak_any (w : World) (hS : WeaksIs b S l) (hH : Has w (l ++ R)) (i : Nat) (s : Slot) (hi : S[i]? = some s) :
    Calls Try.prog 64 #[.pointer (some ⟨b, 0, none⟩), .int .i64 i] w fun e w' => e = .returned (.int .u64 (wh i s.given)) ∧ w = w' := by
  obtain ⟨hok, g, cur, rfl, hc⟩ := hS
  have W := wcells hc hH
  have hlt : i < S.length := (List.getElem?_eq_some_iff.1 hi).1
  have hlt' : (i : Int) < (S.length : Int) := by omega
  obtain ⟨c0, at_, -, -⟩ := W
  obtain ⟨a0, a1, a2⟩ := at_ i s hi
  have hsm := hok.small s (List.mem_of_getElem? hi)
  have hl := hok.len
  have hor := or_wh s.given i hsm (by omega)
  clear at_ hi
  go_enter Try.func64, Try.ntmps64
  go_wp2
  go_ret
  exact ⟨rfl, rfl⟩

set_option maxRecDepth 100000 in
theorem find_yes (w : World) (hS : WeaksIs b S l) (hH : Has w (l ++ R)) (i : Nat) (s : Slot) (hi : S[i]? = some s) (hst : s.st ≠ 0) :
    Calls Try.prog 65 #[.pointer (some ⟨b, 0, none⟩), .int .u64 (wh i s.given)] w fun e w' => e = .returned (.tuple #[.int .i64 i, .int .i64 0]) ∧ w = w' := by
  have hS' := hS
  obtain ⟨hok, g, cur, rfl, hc⟩ := hS
  have W := wcells hc hH
  have hlt : i < S.length := (List.getElem?_eq_some_iff.1 hi).1
  have hlt' : (i : Int) < (S.length : Int) := by omega
  obtain ⟨c0, at_, -, -⟩ := W
  obtain ⟨a0, a1, a2⟩ := at_ i s hi
  have hsm := hok.small s (List.mem_of_getElem? hi)
  have hl := hok.len
  have hand := and_low (s.given * 4294967296 + i) (by omega)
  rw [wh_low i s.given (by omega)] at hand
  have hb0 : ((s.st : Int) == 0) = false := by rw [beq_eq_false_iff_ne]; omega
  have hw : ∀ W : World, Has W ([(b, .cells #[.slice (some ⟨g, 0, none⟩) S.length S.length] 113), (g, .cells cur 116)] ++ R) → Calls Try.prog 64 #[.pointer (some ⟨b, 0, none⟩), .int .i64 i] W fun e w' => e = .returned (.int .u64 (wh i s.given)) ∧ W = w' := fun W hW => weak_any W hS' hW i s hi
  have Hw := Lib.hid hw
  have hwh : wh i s.given = ((s.given * 4294967296 + i : Nat) : Int) := rfl
  clear at_ hi hw
  rw [hwh] at Hw
  rw [hwh]
  generalize s.given * 4294967296 + i = x at *
  clear hwh
  go_enter Try.func65, Try.ntmps65
  go_wp2_with (go_at_call 64; refine (Hw.out _ hH).mono ?_; rintro e w' ⟨rfl, rfl⟩)
  go_ret2
  exact ⟨rfl, rfl⟩

set_option maxRecDepth 100000 in
theorem find_no (w : World) (hS : WeaksIs b S l) (hH : Has w (l ++ R)) (x : Nat) (hx : x < 18446744073709551616) (hno : ∀ i s, S[i]? = some s → s.st ≠ 0 → (x : Int) ≠ wh i s.given) :
    Calls Try.prog 65 #[.pointer (some ⟨b, 0, none⟩), .int .u64 x] w fun e w' => e = .returned (.tuple #[.int .i64 0, .int .i64 3]) ∧ w = w' := by
  have hS' := hS
  obtain ⟨hok, g, cur, rfl, hc⟩ := hS
  have W := wcells hc hH
  obtain ⟨c0, at_, -, -⟩ := W
  have hand := and_low x hx
  have hl := hok.len
  have hxm : x % 4294967296 < 4294967296 := Nat.mod_lt _ (by omega)
  generalize hi : x % 4294967296 = i at hand hxm
  have Hand := Lib.hid hand
  by_cases hlt : i < S.length
  · obtain ⟨s, hs⟩ : ∃ s, S[i]? = some s := ⟨S[i]'hlt, List.getElem?_eq_getElem _⟩
    obtain ⟨a0, a1, a2⟩ := at_ i s hs
    have hlt' : (i : Int) < (S.length : Int) := by omega
    by_cases hst : s.st = 0
    · rw [hst] at a0
      clear at_ hno hst hs hi
      go_enter Try.func65, Try.ntmps65
      go_wp2
      go_ret2
      exact ⟨rfl, rfl⟩
    · have hne := hno i s hs hst
      have hb0 : ((s.st : Int) == 0) = false := by rw [beq_eq_false_iff_ne]; omega
      have hb1 : (wh i s.given != (x : Int)) = true := by rw [bne_iff_ne]; exact Ne.symm hne
      have hw : ∀ W : World, Has W ([(b, .cells #[.slice (some ⟨g, 0, none⟩) S.length S.length] 113), (g, .cells cur 116)] ++ R) → Calls Try.prog 64 #[.pointer (some ⟨b, 0, none⟩), .int .i64 i] W fun e w' => e = .returned (.int .u64 (wh i s.given)) ∧ W = w' := fun W hW => weak_any W hS' hW i s hs
      have Hw := Lib.hid hw
      generalize wh i s.given = y at *
      clear at_ hno hst hs hi hw hne
      go_enter Try.func65, Try.ntmps65
      go_wp2_with (go_at_call 64; refine (Hw.out _ hH).mono ?_; rintro e w' ⟨rfl, rfl⟩)
      go_ret2
      exact ⟨rfl, rfl⟩
  · clear at_ hno hi
    go_enter Try.func65, Try.ntmps65
    go_wp2
    go_ret2
    exact ⟨rfl, rfl⟩
end
end Go.Proofs.Ytinpkimflcmkgaa
