/-
  The table of weak handles of layer 16: contract of Add.
  Conditions: none beyond what each contract states.
-/
import Derived.Test.YtinpkimflcmkgaaWk2
namespace Go.Proofs.Ytinpkimflcmkgaa
open Go Go.RowKit

section
variable {b : Nat} {S : List Slot} {l R : List Blk}

set_option maxRecDepth 100000 in
theorem wFree_any (w : World) (hH : Has w R) (s : Slot) :
    Calls Try.prog 63 #[.agg #[.int .i64 s.st, .int .u64 s.addr, .int .u64 s.given]] w fun e w' => e = .returned (.bool (decide (s.st = 0))) ∧ Turn R w R w' := by
  have T := ((Turn.refl hH).alloc (.cells #[.int .i64 s.st, .int .u64 s.addr, .int .u64 s.given] 116)).tail
  by_cases h : s.st = 0
  · have hd : decide (s.st = 0) = true := by simpa using h
    rw [hd, h]
    rw [h] at T
    clear h hd
    go_enter Try.func63, Try.ntmps63
    go_wp2
    go_ret
    exact ⟨rfl, T⟩
  · have hd : decide (s.st = 0) = false := by simpa using h
    have hb : ((s.st : Int) == 0) = false := by rw [beq_eq_false_iff_ne]; omega
    rw [hd]
    clear h hd
    go_enter Try.func63, Try.ntmps63
    go_wp2
    go_ret
    exact ⟨rfl, T⟩

/-- The first free slot; none: -1. -/
def IsFirst (S : List Slot) (r : Int) : Prop :=
  (∃ i s, r = (i : Nat) ∧ S[i]? = some s ∧ s.st = 0 ∧ ∀ (j : Nat) (t : Slot), j < i → S[j]? = some t → t.st ≠ 0) ∨ (r = -1 ∧ ∀ (j : Nat) (t : Slot), S[j]? = some t → t.st ≠ 0)

def FirstPost (S : List Slot) (L : List Blk) (w : World) (e : Ending) (w' : World) : Prop := ∃ r, e = .returned (.int .i64 r) ∧ IsFirst S r ∧ Turn L w L w'

set_option maxRecDepth 100000 in
theorem wIndex_any (w : World) {g : Nat} {cur : Array Value} (hl : S.length ≤ 4096) (hc : cur.toList = S.flatMap Slot.vals)
    (hH : Has w ([(b, .cells #[.slice (some ⟨g, 0, none⟩) S.length S.length] 113), (g, .cells cur 116)] ++ R)) :
    Calls Try.prog 62 #[.slice (some ⟨g, 0, none⟩) S.length S.length, .func (.func 63) #[] #[]] w (FirstPost S ([(b, .cells #[.slice (some ⟨g, 0, none⟩) S.length S.length] 113), (g, .cells cur 116)] ++ R) w) := by
  generalize hL : [(b, Obj.cells #[.slice (some ⟨g, 0, none⟩) S.length S.length] 113 (0, 0)), (g, Obj.cells cur 116 (0, 0))] ++ R = L at *
  have HL := Lib.hid hL
  clear hL
  go_enter Try.func62, Try.ntmps62
  go_wp2_with fail
  go_loopw [8] (fun i wr => ∃ k : Nat, k ≤ S.length ∧ i = .int .i64 k ∧ (∀ (j : Nat) (t : Slot), j < k → S[j]? = some t → t.st ≠ 0) ∧ Turn L w L wr) (fun i _ => S.length - (intOf i).toNat)
  case atStart => exact ⟨0, Nat.zero_le _, rfl, fun j t hj => absurd hj (Nat.not_lt_zero _), Turn.refl hH⟩
  case round =>
    obtain ⟨k, hk, rfl, hb, T⟩ := hrel
    have Hb := Lib.hid hb
    clear hb
    by_cases hlt : k < S.length
    · have hlt' : (k : Int) < (S.length : Int) := by omega
      obtain ⟨s, hs⟩ : ∃ s, S[k]? = some s := ⟨S[k]'hlt, List.getElem?_eq_getElem _⟩
      have W := wcells (b := b) (g := g) (R := R) hc (by rw [HL.out]; exact T.has)
      obtain ⟨c0, at_, fr, ne⟩ := W
      obtain ⟨a0, a1, a2⟩ := at_ k s hs
      have Hs := Lib.hid hs
      clear at_ fr hs c0
      by_cases hst : s.st = 0
      · have hd : decide (s.st = 0) = true := by simpa using hst
        have Hd := Lib.hid hd
        have Hst := Lib.hid hst
        clear hd hst
        go_wp2_with (go_at_call 63; refine (wFree_any _ T.has s).mono ?_; rintro e w1 ⟨rfl, T1⟩; rw [Hd.out])
        go_ret
        exact ⟨_, rfl, Or.inl ⟨k, s, rfl, Hs.out, Hst.out, Hb.out⟩, T.trans T1⟩
      · have hd : decide (s.st = 0) = false := by simpa using hst
        have Hd := Lib.hid hd
        have Hst := Lib.hid hst
        clear hd hst
        go_wp2_with (go_at_call 63; refine (wFree_any _ T.has s).mono ?_; rintro e w1 ⟨rfl, T1⟩; rw [Hd.out])
        go_roundw
        case rel =>
          refine ⟨k + 1, by omega, by go_num, fun j t hj ht => ?_, T.trans T1⟩
          by_cases hjk : j = k
          · subst hjk
            have := Hs.out.symm.trans ht
            cases this
            exact Hst.out
          · exact Hb.out j t (by omega) ht
        case measure => simp [intOf]; omega
    · have hall : ∀ (j : Nat) (t : Slot), S[j]? = some t → t.st ≠ 0 := fun j t ht => Hb.out j t (by have := (List.getElem?_eq_some_iff.1 ht).1; omega) ht
      have Hall := Lib.hid hall
      clear hall
      go_wp2
      go_ret
      exact ⟨_, rfl, Or.inr ⟨rfl, Hall.out⟩, T⟩

set_option maxRecDepth 100000 in
theorem wAdd_zero (w : World) : Calls Try.prog 31 #[.pointer (some ⟨b, 0, none⟩), .int .u64 0] w fun e w' => e = .returned (.tuple #[.int .u64 0, .int .i64 2]) ∧ w = w' := by
  go_enter Try.func31, Try.ntmps31
  go_wp2
  go_ret2
  exact ⟨rfl, rfl⟩

theorem set3_toList {cur : Array Value} (hc : cur.toList = S.flatMap Slot.vals) (i : Nat) (s : Slot) (hi : S[i]? = some s) (st : Nat) (a : Int) (g : Nat) :
    (((cur.setIfInBounds (i * 3) (.int .i64 st)).setIfInBounds (i * 3 + 1) (.int .u64 a)).setIfInBounds (i * 3 + 2) (.int .u64 g)).toList = (S.set i ⟨st, a, g⟩).flatMap Slot.vals := by
  have hlt : i < S.length := (List.getElem?_eq_some_iff.1 hi).1
  have h1 := set_toList hc i 0 (by omega) s { s with st := st } (.int .i64 st) hi rfl
  have h2 := set_toList h1 i 1 (by omega) { s with st := st } { s with st := st, addr := a } (.int .u64 a) (List.getElem?_set_self hlt) rfl
  rw [List.set_set] at h2
  have h3 := set_toList h2 i 2 (by omega) { s with st := st, addr := a } ⟨st, a, g⟩ (.int .u64 g) (List.getElem?_set_self hlt) rfl
  rw [List.set_set] at h3
  exact h3

def AddPost (b : Nat) (S : List Slot) (a : Int) (l R : List Blk) (w : World) (e : Ending) (w' : World) : Prop :=
  (∃ i s l', S[i]? = some s ∧ s.st = 0 ∧ (∀ (j : Nat) (t : Slot), j < i → S[j]? = some t → t.st ≠ 0) ∧ e = .returned (.tuple #[.int .u64 (wh i (s.given + 1)), .int .i64 0]) ∧ WeaksIs b (S.set i ⟨1, a, s.given + 1⟩) l' ∧ Turn (l ++ R) w (l' ++ R) w') ∨
  ((∀ (j : Nat) (t : Slot), S[j]? = some t → t.st ≠ 0) ∧ e = .returned (.tuple #[.int .u64 0, .int .i64 4]) ∧ Turn (l ++ R) w (l ++ R) w')

set_option maxRecDepth 100000 in
theorem wAdd_any (w : World) (hS : WeaksIs b S l) (hH : Has w (l ++ R)) (a : Int) (ha : a ≠ 0) (hsm : ∀ s ∈ S, s.given < 4294967294) :
    Calls Try.prog 31 #[.pointer (some ⟨b, 0, none⟩), .int .u64 a] w (AddPost b S a l R w) := by
  obtain ⟨hok, g, cur, rfl, hc⟩ := hS
  have hl := hok.len
  have hb0 : (a == 0) = false := by rw [beq_eq_false_iff_ne]; exact ha
  have W := wcells hc hH
  obtain ⟨c0, -, -, hne⟩ := W
  have hidx := wIndex_any w hl hc hH
  generalize hL : [(b, Obj.cells #[.slice (some ⟨g, 0, none⟩) S.length S.length] 113 (0, 0)), (g, Obj.cells cur 116 (0, 0))] ++ R = L at *
  have HL := Lib.hid hL
  have Hidx := Lib.hid hidx
  clear hL hidx ha
  go_enter Try.func31, Try.ntmps31
  go_wp2_with fail
  refine Hidx.out.mono ?_
  rintro e w1 ⟨r, rfl, hr, T1⟩
  clear c0
  have W := wcells (b := b) (g := g) (R := R) hc (by rw [HL.out]; exact T1.has)
  obtain ⟨c0, at_, fr, -⟩ := W
  rcases hr with ⟨i, s, rfl, hi, hst, hfirst⟩ | ⟨rfl, hall⟩
  · obtain ⟨a0, a1, a2⟩ := at_ i s hi
    have f0 := fr (i * 3)
    have f1 := fr (i * 3 + 1)
    have f2 := fr (i * 3 + 2)
    have hlt : i < S.length := (List.getElem?_eq_some_iff.1 hi).1
    have hlt' : (i : Int) < (S.length : Int) := by omega
    have hg := hsm s (List.mem_of_getElem? hi)
    have Hi := Lib.hid hi
    have Hst := Lib.hid hst
    have Hf := Lib.hid hfirst
    clear at_ fr hi hst hfirst
    go_wp2_with fail
    go_region
    all_goals go_wp2_with fail
    all_goals
      have hc3 := set3_toList hc i s Hi.out 1 a (s.given + 1)
      have T2 := T1.perm (l2 := (g, .cells cur 116) :: ((b, .cells #[.slice (some ⟨g, 0, none⟩) S.length S.length] 113) :: R)) (by rw [← HL.out]; exact perm_of fun c => by simp; omega)
      have T3 := (((T2.setCell (i * 3) (.int .i64 1)).setCell (i * 3 + 1) (.int .u64 a)).setCell (i * 3 + 2) (.int .u64 ((s.given : Int) + 1))).drew
      have T4 := T3.perm (l2 := [(b, .cells #[.slice (some ⟨g, 0, none⟩) S.length S.length] 113), (g, .cells (((cur.setIfInBounds (i * 3) (.int .i64 1)).setIfInBounds (i * 3 + 1) (.int .u64 a)).setIfInBounds (i * 3 + 2) (.int .u64 ((s.given : Int) + 1))) 116)] ++ R) (perm_of fun c => by simp; omega)
      have hok' : WkOk (S.set i ⟨1, a, s.given + 1⟩) := hok.set i _ (by show s.given + 1 < 4294967295; omega) (by show 1 ≤ 2; omega)
      have hS' : WeaksIs b (S.set i ⟨1, a, s.given + 1⟩) [(b, .cells #[.slice (some ⟨g, 0, none⟩) S.length S.length] 113), (g, .cells (((cur.setIfInBounds (i * 3) (.int .i64 1)).setIfInBounds (i * 3 + 1) (.int .u64 a)).setIfInBounds (i * 3 + 2) (.int .u64 ((s.given : Int) + 1))) 116)] := WeaksIs.mk' (n := S.length) hok' (by simp) hc3
      refine (weak_any _ hS' T4.has i ⟨1, a, s.given + 1⟩ (List.getElem?_set_self hlt)).mono ?_
      rintro e w2 ⟨rfl, rfl⟩
      go_wp2
      go_ret2
      refine Or.inl ⟨i, s, _, Hi.out, Hst.out, Hf.out, rfl, hS', ?_⟩
      rw [HL.out]
      exact T4
  · have Hall := Lib.hid hall
    clear at_ fr hall
    go_wp2
    go_ret2
    refine Or.inr ⟨Hall.out, rfl, ?_⟩
    rw [HL.out]
    exact T1
end
end Go.Proofs.Ytinpkimflcmkgaa
