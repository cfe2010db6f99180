/-
  The stack of layer 14 as it lies in memory, and contracts of its functions that only read.
  Conditions: none beyond what each contract states.
-/
import Derived.Test.YtinpkimflcmkgaaKit
import Derived.Test.YtinpkimflcmkgaaProg
import Derived.Deep.QuietTactic
import Derived.BigQuiet
import Derived.WalkSpells
namespace Go.Proofs.Ytinpkimflcmkgaa
open Go Go.RowKit

def u64s (ws : List Int) : List Value := ws.map (Value.int .u64)
def i64s (fs : List Nat) : List Value := fs.map fun (k : Nat) => Value.int .i64 (k : Int)
@[simp] theorem u64s_length (ws : List Int) : (u64s ws).length = ws.length := by simp [u64s]
@[simp] theorem i64s_length (fs : List Nat) : (i64s fs).length = fs.length := by simp [i64s]

/-- What a stack's numbers meet. -/
structure StackOk (ws : List Int) (fs : List Nat) (max : Nat) : Prop where
  len : ws.length ≤ max
  max : max ≤ 4096
  deep : fs.length ≤ 256
  up : (fs ++ [ws.length]).Pairwise (· ≤ ·)

/-- A stack in memory: its head in block b, its words, its frames. -/
def StackIs (b : Nat) (ws : List Int) (fs : List Nat) (max : Nat) (l : List Blk) : Prop :=
  StackOk ws fs max ∧ ∃ aw cw af cf lw lf, l = (b, .cells #[.slice aw ws.length cw, .slice af fs.length cf, .int .i64 max] 107) :: (lw ++ lf) ∧
    Row 31 1 aw ws.length cw (u64s ws) lw ∧ Row 3 1 af fs.length cf (i64s fs) lf

/-- The head's cells. -/
structure Head (w : World) (b : Nat) (n m max : Nat) (aw : Option Addr) (cw : Nat) (af : Option Addr) (cf : Nat) : Prop where
  c0 : w.cell? ⟨b, 0, none⟩ = some (.slice aw n cw)
  c1 : w.cell? ⟨b, 1, none⟩ = some (.slice af m cf)
  c2 : w.cell? ⟨b, 2, none⟩ = some (.int .i64 max)
  f0 : w.frozen? ⟨b, 0, none⟩ = false
  f1 : w.frozen? ⟨b, 1, none⟩ = false
  lt : b < w.heap.size

theorem head_of {w : World} {b : Nat} {max n m : Nat} {aw : Option Addr} {cw : Nat} {af : Option Addr} {cf : Nat} {l : List Blk} {T : Nat}
    (h : Has w ((b, .cells #[.slice aw n cw, .slice af m cf, .int .i64 max] T) :: l)) : Head w b n m max aw cw af cf := by
  have hm : (b, Obj.cells #[.slice aw n cw, .slice af m cf, .int .i64 max] T (0, 0)) ∈ (b, Obj.cells #[.slice aw n cw, .slice af m cf, .int .i64 max] T (0, 0)) :: l := List.mem_cons_self ..
  exact ⟨h.cell hm 0, h.cell hm 1, h.cell hm 2, h.free hm 0, h.free hm 1, h.lt (by simp)⟩

def baseOf (fs : List Nat) : Nat := fs.getLast?.getD 0
theorem baseOf_nil : baseOf [] = 0 := rfl
theorem baseOf_snoc (fs : List Nat) (x : Nat) : baseOf (fs ++ [x]) = x := by simp [baseOf]
theorem baseOf_last (fs : List Nat) (h : 0 < fs.length) : fs[fs.length - 1]? = some (baseOf fs) := by
  rw [baseOf, List.getLast?_eq_getElem?]
  have : fs.length - 1 < fs.length := by omega
  rw [List.getElem?_eq_getElem this]
  rfl
theorem StackOk.base {ws : List Int} {fs : List Nat} {max : Nat} (h : StackOk ws fs max) : baseOf fs ≤ ws.length := by
  rcases Nat.eq_zero_or_pos fs.length with h0 | h0
  · rw [List.eq_nil_of_length_eq_zero h0]
    exact Nat.zero_le _
  · have hp := List.pairwise_append.1 h.up
    exact hp.2.2 _ (List.mem_of_getElem? (baseOf_last fs h0)) _ (by simp)

set_option maxRecDepth 100000 in
theorem new_any (m : Int) (w : World) (h0 : 0 ≤ m) (h1 : m ≤ 4096) : Calls Try.prog 21 #[.int .i64 m] w fun e w' => e = .returned (.tuple #[.pointer (some ⟨w.heap.size, 0, none⟩), .int .i64 0]) ∧
    w.alloc (.cells #[.slice none 0 0, .slice none 0 0, .int .i64 m] 107) = w' := by
  go_enter Try.func21, Try.ntmps21
  go_wp2
  go_ret2
  exact ⟨rfl, rfl⟩

set_option maxRecDepth 100000 in
theorem base_any {b : Nat} {ws : List Int} {fs : List Nat} {max : Nat} {l R : List Blk} (w : World) (hS : StackIs b ws fs max l) (hH : Has w (l ++ R)) :
    Calls Try.prog 60 #[.pointer (some ⟨b, 0, none⟩)] w fun e w' => e = .returned (.int .i64 (baseOf fs)) ∧ ∃ n, w' = w.drewN n := by
  obtain ⟨hok, aw, cw, af, cf, lw, lf, rfl, hw, hf⟩ := hS
  obtain ⟨c0, c1, c2, f0, f1, hlt⟩ := head_of hH
  rcases Nat.eq_zero_or_pos fs.length with h0 | h0
  · obtain rfl := List.eq_nil_of_length_eq_zero h0
    go_enter Try.func60, Try.ntmps60
    go_wp2
    go_ret
    exact ⟨rfl, 0, rfl⟩
  · have hd := hok.deep
    obtain ⟨g, cur, rfl, rfl, -, -⟩ := hf.some_of h0
    have hc : w.cell? ⟨g, fs.length - 1, none⟩ = some (.int .i64 (baseOf fs)) := by
      rw [hf.cell (R := (b, Obj.cells #[.slice aw ws.length cw, .slice (some ⟨g, 0, none⟩) fs.length cf, .int .i64 max] 107) :: lw ++ R) (hH.perm (perm_of fun c => by simp; omega)) (fs.length - 1) (by omega)]
      rw [i64s, List.getElem?_map, baseOf_last fs h0]
      rfl
    have hne : ((fs.length : Int) == 0) = false := by rw [beq_eq_false_iff_ne]; omega
    have hi : IntKind.i64.wrap ((fs.length : Int) - 1) = (fs.length : Int) - 1 := IntWalk.i64_in _ (by omega)
    have hi0 : 0 ≤ (fs.length : Int) - 1 := by omega
    have hi2 : ((fs.length : Int) - 1).toNat = fs.length - 1 := by omega
    go_enter Try.func60, Try.ntmps60
    go_wp2
    go_quiet (fail)
    go_wp2
    go_ret
    exact ⟨rfl, _, rfl⟩

set_option maxRecDepth 100000 in
theorem may_any {b : Nat} {ws : List Int} {fs : List Nat} {max : Nat} {l R : List Blk} (w : World) (hS : StackIs b ws fs max l) (hH : Has w (l ++ R)) (i : Int) :
    Calls Try.prog 86 #[.pointer (some ⟨b, 0, none⟩), .int .i64 i] w fun e w' => e = .returned (.bool (decide (0 ≤ i ∧ i < ws.length - baseOf fs))) ∧ ∃ n, w' = w.drewN n := by
  have hS' := hS
  obtain ⟨hok, aw, cw, af, cf, lw, lf, rfl, hw, hf⟩ := hS
  obtain ⟨c0, c1, c2, f0, f1, hlt⟩ := head_of hH
  have hb := hok.base
  have hl := hok.len
  have hm := hok.max
  by_cases h0 : 0 ≤ i
  · have hw1 : IntKind.i64.wrap ((ws.length : Int) - (baseOf fs : Int)) = (ws.length : Int) - (baseOf fs : Int) := IntWalk.i64_in _ (by omega)
    have hfin : Value.bool (decide (i < (ws.length : Int) - (baseOf fs : Int))) = .bool (decide (0 ≤ i ∧ i < ws.length - baseOf fs)) := by simp [h0]
    have Hfin := Lib.hid hfin
    clear hfin
    go_enter Try.func86, Try.ntmps86
    go_wp2
    go_quiet ((go_at_call 60; exact Calls.quiet_of (base_any _ hS' (hH.drewN _))))
    go_wp2
    go_ret
    exact ⟨by rw [Hfin.out]; rfl, _, rfl⟩
  · have hd : decide (0 ≤ i) = false := by simpa using h0
    have hfin : Value.bool (decide (0 ≤ i ∧ i < ws.length - baseOf fs)) = .bool false := by simp [h0]
    have Hfin := Lib.hid hfin
    clear hfin
    go_enter Try.func86, Try.ntmps86
    go_wp2
    go_quiet (fail)
    go_wp2
    go_ret
    exact ⟨by rw [Hfin.out]; rfl, _, rfl⟩

set_option maxRecDepth 100000 in
theorem len_any {b : Nat} {ws : List Int} {fs : List Nat} {max : Nat} {l R : List Blk} (w : World) (hS : StackIs b ws fs max l) (hH : Has w (l ++ R)) :
    Calls Try.prog 27 #[.pointer (some ⟨b, 0, none⟩)] w fun e w' => e = .returned (.int .i64 ws.length) ∧ w = w' := by
  obtain ⟨hok, aw, cw, af, cf, lw, lf, rfl, hw, hf⟩ := hS
  obtain ⟨c0, c1, c2, f0, f1, hlt⟩ := head_of hH
  go_enter Try.func27, Try.ntmps27
  go_wp2
  go_ret
  exact ⟨rfl, rfl⟩

set_option maxRecDepth 100000 in
theorem depth_any {b : Nat} {ws : List Int} {fs : List Nat} {max : Nat} {l R : List Blk} (w : World) (hS : StackIs b ws fs max l) (hH : Has w (l ++ R)) :
    Calls Try.prog 39 #[.pointer (some ⟨b, 0, none⟩)] w fun e w' => e = .returned (.int .i64 fs.length) ∧ w = w' := by
  obtain ⟨hok, aw, cw, af, cf, lw, lf, rfl, hw, hf⟩ := hS
  obtain ⟨c0, c1, c2, f0, f1, hlt⟩ := head_of hH
  go_enter Try.func39, Try.ntmps39
  go_wp2
  go_ret
  exact ⟨rfl, rfl⟩

/-- The place of the i-th word from the top. -/
def MayAt (ws : List Int) (fs : List Nat) (i : Int) : Prop := 0 ≤ i ∧ i < ws.length - baseOf fs
instance (ws : List Int) (fs : List Nat) (i : Int) : Decidable (MayAt ws fs i) := by unfold MayAt; infer_instance

set_option maxRecDepth 100000 in
theorem at_any {b : Nat} {ws : List Int} {fs : List Nat} {max : Nat} {l R : List Blk} (w : World) (hS : StackIs b ws fs max l) (hH : Has w (l ++ R)) (i : Int) :
    Calls Try.prog 59 #[.pointer (some ⟨b, 0, none⟩), .int .i64 i] w fun e w' =>
      e = .returned (if MayAt ws fs i then .tuple #[.int .i64 (ws.length - 1 - i), .int .i64 0] else .tuple #[.int .i64 0, .int .i64 2]) ∧ ∃ n, w' = w.drewN n := by
  have hS' := hS
  obtain ⟨hok, aw, cw, af, cf, lw, lf, rfl, hw, hf⟩ := hS
  obtain ⟨c0, c1, c2, f0, f1, hlt⟩ := head_of hH
  have hb := hok.base
  have hl := hok.len
  have hm := hok.max
  by_cases h0 : MayAt ws fs i
  · have hi := h0
    obtain ⟨hi0, hi1⟩ := hi
    have hd : decide (0 ≤ i ∧ i < ws.length - baseOf fs) = true := by simp [hi0, hi1]
    rw [if_pos h0]
    clear h0
    go_enter Try.func59, Try.ntmps59
    go_wp2_with (go_at_call 86; refine (may_any _ hS' hH i).mono ?_; rintro e w' ⟨rfl, n, rfl⟩; rw [hd])
    go_ret2
    exact ⟨rfl, _, rfl⟩
  · have hd : decide (0 ≤ i ∧ i < ws.length - baseOf fs) = false := by simpa [MayAt] using h0
    rw [if_neg h0]
    clear h0
    go_enter Try.func59, Try.ntmps59
    go_wp2_with (go_at_call 86; refine (may_any _ hS' hH i).mono ?_; rintro e w' ⟨rfl, n, rfl⟩; rw [hd])
    go_ret2
    exact ⟨rfl, _, rfl⟩

end Go.Proofs.Ytinpkimflcmkgaa
