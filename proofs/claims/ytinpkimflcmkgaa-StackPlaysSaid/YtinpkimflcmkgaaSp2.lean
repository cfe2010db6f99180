/-
  skerrylaw14.StackPlays: whatever steps, the law returns true and turns nothing that was there.
  Conditions: the slice of steps can be read.
-/
import Derived.Test.YtinpkimflcmkgaaSp1
namespace Go.Proofs.Ytinpkimflcmkgaa
open Go Go.RowKit

/-- Some stack lies in block b. -/
def SomeStack (b max : Nat) (l : List Blk) : Prop := ∃ ws fs, StackIs b ws fs max l
def OldPost (b max : Nat) (l R : List Blk) (w : World) (e : Ending) (w' : World) : Prop := (∃ v, e = .returned v) ∧ ∃ l', SomeStack b max l' ∧ Turn (l ++ R) w (l' ++ R) w'

section
variable {b max : Nat} {l R : List Blk}

theorem old_set (w : World) (hS : SomeStack b max l) (hH : Has w (l ++ R)) (i v : Int) : Calls Try.prog 48 #[.pointer (some ⟨b, 0, none⟩), .int .i64 i, .int .u64 v] w (OldPost b max l R w) := by
  obtain ⟨ws, fs, hS⟩ := hS
  by_cases hk : MayAt ws fs i
  · obtain ⟨j, k, rfl, hp⟩ := (mayAt_iff ws fs i).1 hk
    refine (set_yes w hS hH j k hp v).mono ?_
    rintro e w' ⟨rfl, l', S, T⟩
    exact ⟨⟨_, rfl⟩, l', ⟨_, _, S⟩, T⟩
  · refine (quiet_turn (set_no w hS hH i hk v) hH).mono ?_
    rintro e w' ⟨rfl, T⟩
    exact ⟨⟨_, rfl⟩, l, ⟨_, _, hS⟩, T⟩

theorem old_pop (w : World) (hS : SomeStack b max l) (hH : Has w (l ++ R)) : Calls Try.prog 26 #[.pointer (some ⟨b, 0, none⟩)] w fun e w' => (∃ u c : Int, e = .returned (.tuple #[.int .u64 u, .int .i64 c])) ∧ ∃ l', SomeStack b max l' ∧ Turn (l ++ R) w (l' ++ R) w' := by
  obtain ⟨ws, fs, hS⟩ := hS
  have hb := hS.1.base
  by_cases hk : ws.length = baseOf fs
  · refine (quiet_turn (pop_bare w hS hH hk) hH).mono ?_
    rintro e w' ⟨rfl, T⟩
    exact ⟨⟨_, _, rfl⟩, l, ⟨_, _, hS⟩, T⟩
  · rcases List.eq_nil_or_concat ws with rfl | ⟨ws', x, rfl⟩
    · exfalso
      simp at hb hk
      omega
    · rw [List.concat_eq_append] at *
      refine (pop_yes w hS hH x ws' rfl (by simp at hb hk; omega)).mono ?_
      rintro e w' ⟨rfl, l', S, T⟩
      exact ⟨⟨_, _, rfl⟩, l', ⟨_, _, S⟩, T⟩

theorem old_leave (w : World) (hS : SomeStack b max l) (hH : Has w (l ++ R)) : Calls Try.prog 42 #[.pointer (some ⟨b, 0, none⟩)] w fun e w' => (∃ u c : Int, e = .returned (.tuple #[.int .i64 u, .int .i64 c])) ∧ ∃ l', SomeStack b max l' ∧ Turn (l ++ R) w (l' ++ R) w' := by
  obtain ⟨ws, fs, hS⟩ := hS
  rcases List.eq_nil_or_concat fs with rfl | ⟨fs', x, rfl⟩
  · refine (leave_none w hS hH).mono ?_
    rintro e w' ⟨rfl, rfl⟩
    exact ⟨⟨_, _, rfl⟩, l, ⟨_, _, hS⟩, Turn.refl hH⟩
  · rw [List.concat_eq_append] at *
    refine (leave_yes w hS hH).mono ?_
    rintro e w' ⟨rfl, l', S, T⟩
    exact ⟨⟨_, _, rfl⟩, l', ⟨_, _, S⟩, T⟩

theorem old_push (w : World) (hS : SomeStack b max l) (hH : Has w (l ++ R)) (v : Int) : Calls Try.prog 22 #[.pointer (some ⟨b, 0, none⟩), .int .u64 v] w (OldPost b max l R w) := by
  obtain ⟨ws, fs, hS⟩ := hS
  have hl := hS.1.len
  by_cases hk : ws.length < max
  · refine (push_yes w hS hH v hk).mono ?_
    rintro e w' ⟨rfl, l', S, T⟩
    exact ⟨⟨_, rfl⟩, l', ⟨_, _, S⟩, T⟩
  · refine (quiet_turn (push_full w hS hH v (by omega)) hH).mono ?_
    rintro e w' ⟨rfl, T⟩
    exact ⟨⟨_, rfl⟩, l, ⟨_, _, hS⟩, T⟩
end

set_option maxRecDepth 100000 in
theorem may_yes (m : Int) (w : World) (h0 : 0 ≤ m) (h1 : m ≤ 4096) : Calls Try.prog 46 #[.int .i64 m] w fun e w' => e = .returned (.bool true) ∧ w = w' := by
  go_enter Try.func46, Try.ntmps46
  go_wp2
  go_ret
  exact ⟨rfl, rfl⟩

set_option maxRecDepth 100000 in
theorem may_no (m : Int) (w : World) (h : m < 0 ∨ 4096 < m) : Calls Try.prog 46 #[.int .i64 m] w fun e w' => e = .returned (.bool false) ∧ w = w' := by
  by_cases h0 : m < 0
  · clear h
    go_enter Try.func46, Try.ntmps46
    go_wp2
    go_ret
    exact ⟨rfl, rfl⟩
  · have h1 : 4096 < m := by omega
    have hd : decide (m ≤ 4096) = false := by simpa using h1
    clear h
    go_enter Try.func46, Try.ntmps46
    go_wp2
    go_ret
    exact ⟨rfl, rfl⟩

set_option maxRecDepth 100000 in
theorem plays_short (w : World) (max : Int) {a : Option Addr} {n c : Nat} (h : 600 < n ∨ max < 0 ∨ 4096 < max) :
    Calls Try.prog 8 #[.int .i64 max, .slice a n c] w (LawPost w) := by
  by_cases hl : 600 < n
  · clear h
    go_enter Try.func8, Try.ntmps8
    go_wp2_with fail
    refine (alive14 w (Has.nil w)).mono ?_
    rintro e w' ⟨rfl, T⟩
    go_wp2
    go_ret
    exact ⟨rfl, T⟩
  · have h' : max < 0 ∨ 4096 < max := by omega
    clear h
    have H' := Lib.hid h'
    clear h'
    go_enter Try.func8, Try.ntmps8
    go_wp2_with fail
    refine (new_bad max w H'.out).mono ?_
    rintro e w1 ⟨rfl, rfl⟩
    go_wp2_with fail
    refine (may_no max w H'.out).mono ?_
    rintro e w1 ⟨rfl, rfl⟩
    go_wp2_with fail
    refine (alive14 w (Has.nil w)).mono ?_
    rintro e w' ⟨rfl, T⟩
    go_wp2
    go_ret
    exact ⟨rfl, T⟩

set_option maxRecDepth 100000 in
set_option maxHeartbeats 1600000 in
theorem plays_main (w : World) (m : Nat) {a : Option Addr} {n c : Nat} {L : List (Int × Int × Int)} (h : StepsAt w a n c L) (hs : n ≤ 600) (hm : m ≤ 4096) :
    Calls Try.prog 8 #[.int .i64 m, .slice a n c] w (LawPost w) := by
  go_enter Try.func8, Try.ntmps8
  go_wp2_with fail
  refine (new_good (R := []) w m hm (Has.nil w)).mono ?_
  rintro e w0 ⟨bs, l0, rfl, S0, T0⟩
  go_wp2_with fail
  refine (may_yes m w0 (by omega) (by omega)).mono ?_
  rintro e w1 ⟨rfl, rfl⟩
  go_wp2_with fail
  refine (rNew_any w0 m hm T0.has).mono ?_
  rintro e w1 ⟨br, l1, rfl, S1, T1⟩
  have Y0 : Sync bs br [] nilInn m l0 l1 := ⟨S0, S1⟩
  have V0 := (T0.trans T1).perm (l2 := l0 ++ (l1 ++ [])) (perm_of fun c => by simp; omega)
  clear T0 T1 S0 S1
  go_wp2_with fail
  go_loopw [5, 8] (fun p i wr => ∃ (k bs : Nat) (J : List Inn) (x : Inn) (ls lr : List Blk), k ≤ n ∧ i = .int .i64 k ∧ p = .pointer (some ⟨bs, 0, none⟩) ∧ Sync bs br J x m ls lr ∧ Turn [] w (ls ++ (lr ++ [])) wr) (fun _ i _ => n - (intOf i).toNat)
  case atStart => exact ⟨0, bs, [], nilInn, l0, l1, Nat.zero_le _, rfl, rfl, Y0, V0⟩
  case round =>
    clear V0 Y0
    obtain ⟨k, bs, J, x, ls, lr, hk, rfl, rfl, Y, T⟩ := hrel
    by_cases hlt : k < n
    · have hlt' : (k : Int) < (n : Int) := by omega
      by_cases hd6 : ∃ i v, L[k]? = some (6, i, v)
      · obtain ⟨q, v, hq⟩ := hd6
        obtain ⟨b, off, d, q', v', rfl, hx, g0, g1, g2⟩ := h.cells T k hlt
        rw [hq] at hx
        cases hx
        clear hq
        go_wp2_with fail
        refine (copy_any _ Y.st T.has).mono ?_
        rintro e w10 ⟨bs', ls', rfl, S10, T10⟩
        have V10 := (T.trans T10).perm (l2 := ls ++ (ls' ++ lr)) (perm_of fun c => by simp; omega)
        have hold : SomeStack bs m ls := ⟨_, _, Y.st⟩
        have Y9 : Sync bs' br J x m ls' lr := ⟨S10, Y.rf⟩
        clear T T10 Y S10
        go_wp2_with fail
        refine (old_set _ hold V10.has 0 77).mono ?_
        rintro e w11 ⟨⟨rv, rfl⟩, lo1, O1, T11⟩
        have V11 := V10.trans T11
        clear hold V10 T11
        go_wp2_with fail
        refine (old_pop _ O1 V11.has).mono ?_
        rintro e w12 ⟨⟨u1, c1, rfl⟩, lo2, O2, T12⟩
        have V12 := V11.trans T12
        clear O1 V11 T12
        go_wp2_with fail
        refine (old_leave _ O2 V12.has).mono ?_
        rintro e w13 ⟨⟨u2, c2, rfl⟩, lo3, O3, T13⟩
        have V13 := V12.trans T13
        clear O2 V12 T13
        go_wp2_with fail
        refine (old_push _ O3 V13.has 78).mono ?_
        rintro e w14 ⟨⟨rv2, rfl⟩, lo4, O4, T14⟩
        have V9 := (V13.trans T14).drop.perm (l2 := ls' ++ (lr ++ [])) (perm_of fun c => by simp)
        clear O3 O4 V13 T14
        obtain ⟨b9, off9, d9, q9, v9, hb9, -, f0, f1, f2⟩ := h.cells V9 k hlt
        cases hb9
        go_wp2_with fail
        refine (does_any _ Y9 V9.has _ _ _).mono ?_
        rintro e w20 ⟨rfl, J', x', ls', lr', Y', T2, -⟩
        have V20 := V9.trans T2
        clear V9 T2
        go_wp2_with fail
        refine (len_any _ Y'.st V20.has).mono ?_
        rintro e w21 ⟨rfl, rfl⟩
        have V21 := V20.perm (l2 := lr' ++ (ls' ++ [])) (perm_of fun c => by simp; omega)
        go_wp2_with fail
        refine (rWords_any _ Y'.rf V21.has).mono ?_
        rintro e w22 ⟨ao, cap, lw, rfl, -, T22⟩
        have V22 := (V21.trans T22).drop.perm (l2 := ls' ++ (lr' ++ [])) (perm_of fun c => by simp; omega)
        clear V20 V21 T22
        go_wp2
        go_roundw
        case rel => exact ⟨k + 1, _, J', x', ls', lr', by omega, by go_num, rfl, Y', V22⟩
        case measure => simp [intOf]; omega
      · obtain ⟨b, off, d, q, v, rfl, hx, g0, g1, g2⟩ := h.cells T k hlt
        have hd : (d == 6) = false := by
          rw [beq_eq_false_iff_ne]
          rintro rfl
          exact hd6 ⟨q, v, hx⟩
        clear hx hd6
        have Y9 := Y
        have V9 := T
        clear Y T
        go_wp2_with fail
        refine (does_any _ Y9 V9.has d q v).mono ?_
        rintro e w20 ⟨rfl, J', x', ls', lr', Y', T2, -⟩
        have V20 := V9.trans T2
        clear V9 T2
        go_wp2_with fail
        refine (len_any _ Y'.st V20.has).mono ?_
        rintro e w21 ⟨rfl, rfl⟩
        have V21 := V20.perm (l2 := lr' ++ (ls' ++ [])) (perm_of fun c => by simp; omega)
        go_wp2_with fail
        refine (rWords_any _ Y'.rf V21.has).mono ?_
        rintro e w22 ⟨ao, cap, lw, rfl, -, T22⟩
        have V22 := (V21.trans T22).drop.perm (l2 := ls' ++ (lr' ++ [])) (perm_of fun c => by simp; omega)
        clear V20 V21 T22
        go_wp2
        go_roundw
        case rel => exact ⟨k + 1, _, J', x', ls', lr', by omega, by go_num, rfl, Y', V22⟩
        case measure => simp [intOf]; omega
    · go_wp2_with fail
      refine (same14_any _ Y T.has).mono ?_
      rintro e w2 ⟨rfl, T2⟩
      have V2 := T.trans T2
      go_wp2_with fail
      refine (alive14 _ V2.has).mono ?_
      rintro e w8 ⟨rfl, T8⟩
      go_wp2
      go_ret
      exact ⟨rfl, (V2.trans T8).sub (List.nil_sublist _)⟩
end Go.Proofs.Ytinpkimflcmkgaa
