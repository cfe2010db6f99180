/-
  The table of weak handles of layer 16: contract of Refs.
  Conditions: none beyond what each contract states.
-/
import Derived.Test.YtinpkimflcmkgaaWk4
import Derived.Deep.DrawnRows
namespace Go.Proofs.Ytinpkimflcmkgaa
open Go Go.RowKit

def w64s (ws : List Int) : List Value := ws.map (Value.int .u64)
theorem w64s_snoc (ws : List Int) (v : Int) : w64s (ws ++ [v]) = w64s ws ++ [.int .u64 v] := by simp [w64s]
theorem el_w64 : Elem Try.prog 30 31 1 8 (.int .u64 0) := Elem.of Try.underlying30 (by kernel_rfl) rfl

/-- The addresses of the slots that are given. -/
def addrs (S : List Slot) : List Int := (S.filter fun s => s.st != 0).map Slot.addr
theorem addrs_length (S : List Slot) : (addrs S).length = cnt S := by simp [addrs, cnt]
theorem addrs_take_zero {S : List Slot} {k : Nat} {s : Slot} (h : S[k]? = some s) (hs : s.st = 0) : addrs (S.take (k + 1)) = addrs (S.take k) := by
  rw [addrs, List.take_add_one, h]
  simp [addrs, hs]
theorem addrs_take_more {S : List Slot} {k : Nat} {s : Slot} (h : S[k]? = some s) (hs : s.st ≠ 0) : addrs (S.take (k + 1)) = addrs (S.take k) ++ [s.addr] := by
  rw [addrs, List.take_add_one, h]
  simp [addrs, hs]

section
variable {b : Nat} {S : List Slot} {l R : List Blk}

/-- A variable that holds a slice, and the slice. -/
abbrev varBlk (B : Nat) (a : Option Addr) (n p : Nat) : Blk := (B, .cells #[.slice a n p] 30)

def CollectPost (B : Nat) (n : Nat) (xs : List Int) (v : Int) (L : List Blk) (w0 : World) (e : Ending) (w' : World) : Prop :=
  e = .returned (.tuple #[]) ∧ ∃ a p lr, Row 31 1 a (n + 1) p (w64s (xs ++ [v])) lr ∧ Turn L w0 (varBlk B a (n + 1) p :: (lr ++ L)) w'

set_option maxRecDepth 100000 in
theorem wCollect_any (w0 w : World) (L : List Blk) (B : Nat) (a : Option Addr) (n p : Nat) (xs : List Int) (lr : List Blk) (v : Int) (x y : Int) (g i : Nat) (hr : Row 31 1 a n p (w64s xs) lr) (T : Turn L w0 (varBlk B a n p :: (lr ++ L)) w)
    (hn : n ≤ 100000) (ha : w.cell? ⟨g, i * 3 + 1, none⟩ = some (.int .u64 v)) :
    Calls Try.prog 69 #[.int .i64 x, .int .i64 y, .pointer (some ⟨g, i * 3, none⟩), .pointer (some ⟨B, 0, none⟩)] w (CollectPost B n xs v L w0) := by
  have hm : varBlk B a n p ∈ varBlk B a n p :: (lr ++ L) := List.mem_cons_self ..
  have c0 := T.has.cell hm 0
  have f0 := T.has.free hm 0
  have hlt := T.has.lt (b := B) (by simp)
  have hne := World.new_ne w ⟨B, 0, none⟩ c0
  have hne1 := World.new_ne w ⟨g, i * 3 + 1, none⟩ ha
  have T0 := ((T.alloc (.cells #[.int .u64 v] 31)).drew).perm (l2 := lr ++ ((w.heap.size, .cells #[.int .u64 v] 31) :: varBlk B a n p :: L)) (perm_of fun c => by simp; omega)
  have h63 : n + 1 ≤ maxLen := by unfold maxLen; omega
  have hby : (n + 1) * 8 ≤ 140737488355328 := by omega
  clear hm
  go_enter Try.func69, Try.ntmps69
  go_wp2
  go_region_law ((refine step_append_row (by rfl) _ _ (by rfl) el_w64 (by rfl) hr T0.has (by rfl) (news := [.int .u64 v]) (by rfl) (news_of (heap_alloc_new _ _)) (by simp [Value.oneCell']) h63 hby ?_; intro a' p' l' w1 hr1 T1 hno; have V1 := (T0.trans T1).perm (l2 := varBlk B a n p :: ((w.heap.size, .cells #[.int .u64 v] 31) :: (l' ++ L))) (perm_of fun c => by simp; omega); have d0 := V1.has.cell (b := B) (List.mem_cons_self ..) 0; have e0 := V1.has.free (b := B) (List.mem_cons_self ..) 0))
  all_goals go_wp2
  all_goals
    go_end0
    refine ⟨rfl, a', p', l', by rw [w64s_snoc]; exact hr1, ?_⟩
    exact (((V1.setCell 0 (.slice a' (n + 1) p')).perm (l2 := (w.heap.size, .cells #[.int .u64 v] 31) :: (varBlk B a' (n + 1) p' :: (l' ++ L))) (perm_of fun c => by simp [varBlk]; omega)).tail)

def RefsPost (S : List Slot) (L : List Blk) (w : World) (e : Ending) (w' : World) : Prop :=
  ∃ a p lr, e = .returned (.slice a (cnt S) p) ∧ Row 31 1 a (cnt S) p (w64s (addrs S)) lr ∧ Turn L w (lr ++ L) w'

set_option maxRecDepth 100000 in
theorem wRefs_any (w : World) (hS : WeaksIs b S l) (hH : Has w (l ++ R)) :
    Calls Try.prog 35 #[.pointer (some ⟨b, 0, none⟩)] w (RefsPost S (l ++ R) w) := by
  obtain ⟨hok, g, cur, rfl, hc⟩ := hS
  have hl := hok.len
  have T0 := (Turn.refl hH).alloc (.cells #[.slice none 0 0] 30)
  have ef := enters_of Try.func69 (by kernel_rfl) rfl
  generalize hL : [(b, Obj.cells #[.slice (some ⟨g, 0, none⟩) S.length S.length] 113 (0, 0)), (g, Obj.cells cur 116 (0, 0))] ++ R = L at *
  have HL := Lib.hid hL
  clear hL
  have heach : ∀ W : World, Turn L w (varBlk w.heap.size none 0 0 :: L) W → Calls Try.prog 66 #[.pointer (some ⟨b, 0, none⟩), .func (.func 69) #[] #[.pointer (some ⟨w.heap.size, 0, none⟩)]] W
      (EachPost (fun i k W => k = cnt (S.take i) ∧ ∃ a p lr, Row 31 1 a k p (w64s (addrs (S.take i))) lr ∧ Turn L w (varBlk w.heap.size a k p :: (lr ++ L)) W) S.length) := by
    intro W T
    refine each_gen _ ef #[.pointer (some ⟨w.heap.size, 0, none⟩)] b g S.length hl _ ?_ ?_ W ⟨rfl, none, 0, [], Row.nil _ _, T⟩
    · rintro i k W ⟨-, a, p, lr, -, T⟩
      exact (wcells (b := b) (g := g) (R := R) hc (by rw [HL.out]; exact T.tail.drop.has)).c0
    · rintro i k W hi ⟨hk, a, p, lr, hr, T⟩
      obtain ⟨s, hs⟩ : ∃ s, S[i]? = some s := ⟨S[i]'hi, List.getElem?_eq_getElem _⟩
      have Wc := wcells (b := b) (g := g) (R := R) hc (by rw [HL.out]; exact T.tail.drop.has)
      obtain ⟨a0, a1, a2⟩ := Wc.at_ i s hs
      refine ⟨s.st, a0, fun h0 => ⟨by rw [cnt_take_zero hs h0]; exact hk, a, p, lr, by rw [addrs_take_zero hs h0]; exact hr, T⟩, fun h0 hki => ?_⟩
      refine (wCollect_any w W L w.heap.size a k p (addrs (S.take i)) lr s.addr k i g i hr T (by omega) a1).mono ?_
      rintro e w' ⟨rfl, a', p', lr', hr', T'⟩
      refine ⟨rfl, by rw [cnt_take_more hs h0, hk], a', p', lr', by rw [addrs_take_more hs h0]; exact hr', T'⟩
  have Heach := Lib.hid heach
  clear heach ef
  go_enter Try.func35, Try.ntmps35
  go_wp2_with fail
  refine (Heach.out _ T0).mono ?_
  rintro e w1 ⟨rfl, k, hk, hkc, a, p, lr, hr, T1⟩
  rw [List.take_of_length_le (Nat.le_refl _)] at hkc hr
  have hc1 := T1.has.cell (b := w.heap.size) (List.mem_cons_self ..) 0
  have hf1 := T1.has.free (b := w.heap.size) (List.mem_cons_self ..) 0
  have T2 := (T1.setCell 0 (.slice a k p)).tail
  have Hkc := Lib.hid hkc
  clear hkc T1
  go_wp2
  refine bodyPost_ret (v := .slice a k p) ?_ rfl ?_
  · simp [results, Try.results35, go_sem, hc1]
  · refine ⟨a, p, lr, by rw [Hkc.out], ?_, T2⟩
    rw [← Hkc.out]
    exact hr
end
end Go.Proofs.Ytinpkimflcmkgaa
