/-
  The table of hands: living, the iterator over the slots that have an address.
  Conditions: a table below n₀.
-/
import Derived.Test.YtinpkimflcmkgaaHd6
import Derived.RangeFuncNested
import Derived.RangeFuncBound
import Derived.RangeFuncCalls
import Derived.RangeFuncLeaves
import Derived.RangeFuncBox
import Derived.Shelf.Abstract
import Derived.Shelf.RegionOpen
import Derived.WalkKit
import Derived.OwnWalkIn
import Derived.TacticsInMore
import Derived.LoopNIn
import Derived.LoopIn
namespace Go.Proofs.Ytinpkimflcmkgaa
open Go Go.RowKit Go.Shelf

attribute [local go_sem] Oper.semAt_some

/-- The slots among the first k that have an address. -/
def livingOf (S : List HSlot) (k : Nat) : List Nat := (List.range k).filter fun i => (S[i]?.map fun s => s.addr != 0).getD false
theorem livingOf_yes {S : List HSlot} {k : Nat} {s : HSlot} (h : S[k]? = some s) (ha : s.addr ≠ 0) : livingOf S (k + 1) = livingOf S k ++ [k] := by
  simp [livingOf, List.range_succ, List.filter_append, h, ha]
theorem livingOf_no {S : List HSlot} {k : Nat} {s : HSlot} (h : S[k]? = some s) (ha : s.addr = 0) : livingOf S (k + 1) = livingOf S k := by
  simp [livingOf, List.range_succ, List.filter_append, h, ha]

set_option maxRecDepth 100000 in
theorem living_in (F : Fence) (n : Nat) (hf : F.fn 57) (hro : F.round = none) (p : Option Addr) (w : World) :
    CallsIn F n Try.prog 57 #[.pointer p] w fun e w' => e = .returned (.func (.func 85) #[] #[.pointer (some ⟨w.heap.size, 0, none⟩)]) ∧ w' = w.alloc (.cells #[.pointer p] 25) := by
  refine callsIn_of_wp Try.func57 rfl hf ?_ hro
  simp only [Try.ntmps57, List.size_toArray, List.length_cons, List.length_nil, Nat.reduceAdd, Nat.reduceSub, Array.replicate_succ, Array.replicate_zero, List.push_toArray, List.append_toArray, List.nil_append, List.cons_append]
  gi_wp2
  go_ret
  exact ⟨rfl, rfl⟩

set_option maxRecDepth 100000 in
/-- .. at no table: no round. -/
theorem living1_nil (F : Fence) (n : Nat) (hf : F.fn 85) (hro : F.round = none) (l Bs : Nat) (J : List Nat → World → Prop) (W : World) (hBs : W.cell? ⟨Bs, 0, none⟩ = some (.pointer none)) (h0 : J [] W) :
    CallsIn F n Try.prog 85 #[.func (.yield l) #[] #[], .pointer (some ⟨Bs, 0, none⟩)] W fun e W' => (∃ v, e = .returned v) ∧ J [] W' := by
  refine callsIn_of_wp Try.func85 rfl hf ?_ hro
  simp only [Try.ntmps85, List.size_toArray, List.length_cons, List.length_nil, Nat.reduceAdd, Nat.reduceSub, Array.replicate_succ, Array.replicate_zero, List.push_toArray, List.append_toArray, List.nil_append, List.cons_append]
  gi_wp2
  refine bodyPost_ret (results_none rfl _ _ _) rfl ?_
  exact ⟨⟨_, rfl⟩, h0⟩

theorem livingOf_length (S : List HSlot) (k : Nat) : (livingOf S k).length ≤ k := by
  unfold livingOf
  exact Nat.le_trans (List.length_filter_le _ _) (by simp)

theorem HCells.below {W W' : World} {b g n₀ : Nat} {S : List HSlot} (h : HCells W b g S) (hb : b < n₀) (hg : g < n₀) (hk : Below n₀ W W') : HCells W' b g S :=
  ⟨(hk.cell (p := ⟨b, 0, none⟩) hb).trans h.c0, fun i s hi => ⟨(hk.cell (p := ⟨g, i * 2, none⟩) hg).trans (h.at_ i s hi).1, (hk.cell (p := ⟨g, i * 2 + 1, none⟩) hg).trans (h.at_ i s hi).2⟩,
    fun i => by have := h.free i; unfold World.frozen? at this ⊢; rw [hk.block g hg]; exact this, h.ne⟩

set_option maxRecDepth 100000 in
set_option maxHeartbeats 2000000 in
theorem living1_in (F : Fence) (n : Nat) (hf : F.fn 85) (hro : F.round = none) (hn : 1 ≤ n) (l Bs n₀ b g : Nat) (S : List HSlot) (hlen : S.length ≤ 4096) (hb : b < n₀) (hg : g < n₀) (J Jx : List Nat → World → Prop)
    (W : World) (hn₀ : n₀ ≤ W.heap.size) (hJ : AbidesFrom W.heap.size J)
    (hY : ∀ pre (x : Nat) W, x < S.length → J pre W → pre.length < S.length → YieldAt F (n - 1) Try.prog l #[.int .i64 (x : Nat)] W fun e W' =>
      (e = .returned (.bool true) ∧ J (pre ++ [x]) W' ∧ Below n₀ W W') ∨ (e = .returned (.bool false) ∧ Jx (pre ++ [x]) W'))
    (hBs : W.cell? ⟨Bs, 0, none⟩ = some (.pointer (some ⟨b, 0, none⟩))) (hc : HCells W b g S) (h0 : J [] W) :
    CallsIn F n Try.prog 85 #[.func (.yield l) #[] #[], .pointer (some ⟨Bs, 0, none⟩)] W fun e W' => (∃ v, e = .returned v) ∧
      ((∃ ys, ys = livingOf S S.length ∧ J ys W') ∨ (∃ pre, (∃ k, k ≤ S.length ∧ pre = livingOf S k) ∧ Jx pre W')) := by
  have c0 := hc.c0
  refine callsIn_of_wp Try.func85 rfl hf ?_ hro
  simp only [Try.ntmps85, List.size_toArray, List.length_cons, List.length_nil, Nat.reduceAdd, Nat.reduceSub, Array.replicate_succ, Array.replicate_zero, List.push_toArray, List.append_toArray, List.nil_append, List.cons_append]
  gi_wp2
  gi_loopw [12] (fun i wr => ∃ k : Nat, k ≤ S.length ∧ i = .int .i64 k ∧ J (livingOf S k) wr ∧ Below n₀ W wr)
    (fun i _ => S.length - (intOf i).toNat)
  case atStart => exact ⟨0, Nat.zero_le _, rfl, h0, Below.refl _ _⟩
  case round =>
    obtain ⟨k, hk, rfl, hJs, hnx⟩ := hrel
    by_cases hlt : k < S.length
    · have hlt' : (k : Int) < (S.length : Int) := by omega
      obtain ⟨s, hs⟩ : ∃ s, S[k]? = some s := ⟨S[k]'hlt, List.getElem?_eq_getElem _⟩
      obtain ⟨a0, a1⟩ := (hc.below hb hg hnx).at_ k s hs
      have hsz := hnx.size
      have hJ2 : J (livingOf S k) (wr.alloc (.cells #[.int .u64 s.given, .int .u64 s.addr] 100)) := hJ _ _ _ none hJs (World.grownBy_alloc wr _ none) (fun r e => by cases e)
      have hB2 : Below n₀ W (wr.alloc (.cells #[.int .u64 s.given, .int .u64 s.addr] 100)) := hnx.alloc (by omega) _
      have Hs := Lib.hid hs
      clear hs
      by_cases hz : s.addr = 0
      · have hl2 := livingOf_no Hs.out hz
        rw [hz] at a1 hJ2 hB2
        gi_wp2
        refine ⟨fun _ h => (by cases h), ?_⟩
        gi_wp2
        go_roundw
        case rel => exact ⟨k + 1, by omega, by simp, by rw [hl2]; exact hJ2, hB2⟩
        case measure => simp [intOf]; omega
      · have hl2 := livingOf_yes Hs.out hz
        have hb1 : (s.addr != 0) = true := by simpa using hz
        obtain ⟨fn, tmps, assign, body, hy, hR⟩ := hY _ k _ hlt hJ2 (Nat.lt_of_le_of_lt (livingOf_length S k) hlt)
        gi_wp2
        refine hR.mono ?_
        rintro e W3 (⟨rfl, hJ3, hk3⟩ | ⟨rfl, hJx3⟩)
        · gi_wp2
          go_roundw
          case rel => exact ⟨k + 1, by omega, by simp, by rw [hl2]; exact hJ3, hB2.trans hk3⟩
          case measure => simp [intOf]; omega
        · gi_wp2
          refine bodyPost_ret (results_none rfl _ _ _) rfl ?_
          exact ⟨⟨_, rfl⟩, .inr ⟨_, ⟨k + 1, by omega, hl2.symm⟩, hJx3⟩⟩
    · obtain rfl : k = S.length := by omega
      gi_wp2
      go_end0
      exact ⟨⟨_, rfl⟩, .inl ⟨_, rfl, hJs⟩⟩
end Go.Proofs.Ytinpkimflcmkgaa
