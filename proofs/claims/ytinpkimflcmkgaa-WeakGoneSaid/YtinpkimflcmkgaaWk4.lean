/-
  The table of weak handles of layer 16: each, by whatever function; Len and Refs.
  Conditions: none beyond what each contract states.
-/
import Derived.Test.YtinpkimflcmkgaaWk3
namespace Go.Proofs.Ytinpkimflcmkgaa
open Go Go.RowKit

def EachPost (I : Nat → Nat → World → Prop) (N : Nat) (e : Ending) (w' : World) : Prop := e = .returned (.tuple #[]) ∧ ∃ k, k ≤ N ∧ I N k w'

section
variable {b : Nat} {S : List Slot} {l R : List Blk}

set_option maxRecDepth 100000 in
theorem each_gen (f : FuncId) (ef : ∀ args w, (callFunc f args).run Try.prog w = .ok (.enter f args) w) (caps : Array Value) (b g N : Nat) (hN : N ≤ 4096) (I : Nat → Nat → World → Prop)
    (hread : ∀ i k W, I i k W → W.cell? ⟨b, 0, none⟩ = some (.slice (some ⟨g, 0, none⟩) N N))
    (hst : ∀ i k W, i < N → I i k W → ∃ st : Nat, W.cell? ⟨g, i * 3, none⟩ = some (.int .i64 st) ∧ (st = 0 → I (i + 1) k W) ∧
      (st ≠ 0 → k ≤ i → Calls Try.prog f (#[.int .i64 k, .int .i64 i, .pointer (some ⟨g, i * 3, none⟩)] ++ caps) W fun e W' => e = .returned (.tuple #[]) ∧ I (i + 1) (k + 1) W'))
    (w : World) (h0 : I 0 0 w) :
    Calls Try.prog 66 #[.pointer (some ⟨b, 0, none⟩), .func (.func f) #[] caps] w (EachPost I N) := by
  have Hread := Lib.hid hread
  have Hst := Lib.hid hst
  have c0 := hread 0 0 w h0
  clear hread hst
  go_enter Try.func66, Try.ntmps66
  go_wp2_with fail
  go_loopw [4, 13] (fun kv iv wr => ∃ k i : Nat, k ≤ i ∧ i ≤ N ∧ iv = .int .i64 i ∧ kv = .int .i64 k ∧ I i k wr) (fun _ iv _ => N - (intOf iv).toNat)
  case atStart => exact ⟨0, 0, Nat.le_refl _, Nat.zero_le _, rfl, rfl, h0⟩
  case round =>
    clear c0 h0
    obtain ⟨k, i, hki, hiN, rfl, rfl, hI⟩ := hrel
    by_cases hlt : i < N
    · have hlt' : (i : Int) < (N : Int) := by omega
      have c0 := Hread.out i k wr hI
      obtain ⟨st, hc, hz, hnz⟩ := Hst.out i k wr hlt hI
      have Hz := Lib.hid hz
      have Hnz := Lib.hid hnz
      clear hz hnz hI
      by_cases hs : st = 0
      · have Hs := Lib.hid hs
        rw [hs] at hc
        clear hs
        go_wp2
        go_roundw
        case rel => exact ⟨k, i + 1, by omega, by omega, by go_num, rfl, Hz.out Hs.out⟩
        case measure => simp [intOf]; omega
      · have hb : ((st : Int) == 0) = false := by rw [beq_eq_false_iff_ne]; omega
        have hb2 : ((st : Int) != 0) = true := by rw [bne_iff_ne]; omega
        have Hs := Lib.hid hs
        clear hs
        go_wp2_with (go_at_fn f; refine (Hnz.out Hs.out hki).mono ?_; rintro e w' ⟨rfl, hI'⟩)
        go_roundw
        case rel => exact ⟨k + 1, i + 1, by omega, by omega, by go_num, by go_num, hI'⟩
        case measure => simp [intOf]; omega
    · obtain rfl : i = N := by omega
      go_wp2
      go_end0
      exact ⟨rfl, k, hki, hI⟩

/-- How many slots are given. -/
def cnt (S : List Slot) : Nat := (S.filter fun s => s.st != 0).length
theorem cnt_take_zero {k : Nat} {s : Slot} (h : S[k]? = some s) (hs : s.st = 0) : cnt (S.take (k + 1)) = cnt (S.take k) := by
  rw [cnt, List.take_add_one, h]
  simp [cnt, hs]
theorem cnt_take_more {k : Nat} {s : Slot} (h : S[k]? = some s) (hs : s.st ≠ 0) : cnt (S.take (k + 1)) = cnt (S.take k) + 1 := by
  rw [cnt, List.take_add_one, h]
  simp [cnt, hs]
theorem cnt_le (S : List Slot) : cnt S ≤ S.length := List.length_filter_le _ _

set_option maxRecDepth 100000 in
theorem wCount_any (w : World) (B : Nat) (n : Int) (x y : Int) (p : Value) (hn : 0 ≤ n) (hn2 : n ≤ 100000) (hc : w.cell? ⟨B, 0, none⟩ = some (.int .i64 n)) (hf : w.frozen? ⟨B, 0, none⟩ = false) :
    Calls Try.prog 76 #[.int .i64 x, .int .i64 y, p, .pointer (some ⟨B, 0, none⟩)] w fun e w' => e = .returned (.tuple #[]) ∧ w.setCell ⟨B, 0, none⟩ (.int .i64 (n + 1)) = w' := by
  go_enter Try.func76, Try.ntmps76
  go_wp2
  go_end0
  exact ⟨rfl, rfl⟩

set_option maxRecDepth 100000 in
theorem wLen_any (w : World) (hS : WeaksIs b S l) (hH : Has w (l ++ R)) :
    Calls Try.prog 43 #[.pointer (some ⟨b, 0, none⟩)] w fun e w' => e = .returned (.int .i64 (cnt S)) ∧ Turn (l ++ R) w (l ++ R) w' := by
  obtain ⟨hok, g, cur, rfl, hc⟩ := hS
  have hl := hok.len
  have T0 := (Turn.refl hH).alloc (.cells #[.int .i64 0] 3)
  have ef := enters_of Try.func76 (by kernel_rfl) rfl
  generalize hL : [(b, Obj.cells #[.slice (some ⟨g, 0, none⟩) S.length S.length] 113 (0, 0)), (g, Obj.cells cur 116 (0, 0))] ++ R = L at *
  have HL := Lib.hid hL
  clear hL
  have heach : ∀ W : World, Turn L w ((w.heap.size, .cells #[.int .i64 0] 3) :: L) W → Calls Try.prog 66 #[.pointer (some ⟨b, 0, none⟩), .func (.func 76) #[] #[.pointer (some ⟨w.heap.size, 0, none⟩)]] W
      (EachPost (fun i k W => k = cnt (S.take i) ∧ Turn L w ((w.heap.size, .cells #[.int .i64 k] 3) :: L) W) S.length) := by
    intro W T
    refine each_gen _ ef #[.pointer (some ⟨w.heap.size, 0, none⟩)] b g S.length hl _ ?_ ?_ W ⟨rfl, T⟩
    · rintro i k W ⟨-, T⟩
      exact (wcells (b := b) (g := g) (R := R) hc (by rw [HL.out]; exact T.tail.has)).c0
    · rintro i k W hi ⟨hk, T⟩
      obtain ⟨s, hs⟩ : ∃ s, S[i]? = some s := ⟨S[i]'hi, List.getElem?_eq_getElem _⟩
      have Wc := wcells (b := b) (g := g) (R := R) hc (by rw [HL.out]; exact T.tail.has)
      refine ⟨s.st, (Wc.at_ i s hs).1, fun h0 => ⟨by rw [cnt_take_zero hs h0]; exact hk, T⟩, fun h0 hki => ?_⟩
      have hm : (w.heap.size, Obj.cells #[.int .i64 k] 3 (0, 0)) ∈ (w.heap.size, Obj.cells #[.int .i64 k] 3 (0, 0)) :: L := List.mem_cons_self ..
      refine (wCount_any W w.heap.size k k i _ (by omega) (by omega) (T.has.cell hm 0) (T.has.free hm 0)).mono ?_
      rintro e w' ⟨rfl, rfl⟩
      refine ⟨rfl, by rw [cnt_take_more hs h0, hk], ?_⟩
      exact T.setCell 0 _
  have Heach := Lib.hid heach
  clear heach ef
  go_enter Try.func43, Try.ntmps43
  go_wp2_with fail
  refine (Heach.out _ T0).mono ?_
  rintro e w1 ⟨rfl, k, hk, hkc, T1⟩
  rw [List.take_of_length_le (Nat.le_refl _)] at hkc
  have hm : (w.heap.size, Obj.cells #[.int .i64 k] 3 (0, 0)) ∈ (w.heap.size, Obj.cells #[.int .i64 k] 3 (0, 0)) :: L := List.mem_cons_self ..
  have hc1 := T1.has.cell hm 0
  have hf1 := T1.has.free hm 0
  have T2 := (T1.setCell 0 (.int .i64 k)).tail
  have Hkc := Lib.hid hkc
  clear hkc T1 hm
  go_wp2
  refine bodyPost_ret (v := .int .i64 k) ?_ rfl ?_
  · simp [results, Try.results43, go_sem, hc1]
  · exact ⟨by rw [Hkc.out], T2⟩
end
end Go.Proofs.Ytinpkimflcmkgaa
