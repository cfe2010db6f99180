/-
  Weak handles: what Get and Drop answer at a handle that was given; what a round of the law keeps.
  Conditions: the table, the handles and what is thought of them go together.
-/
import Derived.Test.YtinpkimflcmkgaaWg3
namespace Go.Proofs.Ytinpkimflcmkgaa
open Go Go.RowKit

def hInts (G : List Handle) : List Int := G.map fun h => wh h.1 h.2
def tInts (st : List Nat) : List Value := st.map fun (t : Nat) => Value.int .i64 (t : Int)

theorem hInts_length (G : List Handle) : (hInts G).length = G.length := by simp [hInts]
theorem tInts_length (st : List Nat) : (tInts st).length = st.length := by simp [tInts]
theorem tInts_set (st : List Nat) (k t : Nat) : tInts (st.set k t) = (tInts st).set k (.int .i64 (t : Int)) := by simp [tInts, List.map_set]
theorem hInts_snoc (G : List Handle) (i g : Nat) : w64s (hInts (G ++ [(i, g)])) = w64s (hInts G) ++ [.int .u64 (wh i g)] := by simp [hInts, w64s]
theorem tInts_snoc (st : List Nat) : tInts (st ++ [0]) = tInts st ++ [.int .i64 0] := by simp [tInts]
theorem hInts_at {G : List Handle} {j i g : Nat} (h : G[j]? = some (i, g)) : (w64s (hInts G))[j]? = some (.int .u64 (wh i g)) := by simp [hInts, w64s, h]
theorem tInts_at {st : List Nat} {j t : Nat} (h : st[j]? = some t) : (tInts st)[j]? = some (.int .i64 (t : Int)) := by simp [tInts, h]

theorem el_weakrow : Elem Try.prog 58 60 1 8 (.int .u64 0) := Elem.of Try.underlying58 (by kernel_rfl) rfl
theorem el_wint : Elem Try.prog 59 3 1 8 (.int .i64 0) := Elem.of Try.underlying59 (by kernel_rfl) rfl

section
variable {b : Nat} {S : List Slot} {G : List Handle} {st : List Nat} {l R : List Blk}

theorem Loose.notThere (h : Loose S G st) (hok : WkOk S) {j i g : Nat} (hj : G[j]? = some (i, g)) (ht : st[j]? = some 2) : g * 4294967296 + i < 18446744073709551616 ∧ NotThere S (g * 4294967296 + i) := by
  obtain ⟨s, hs, hg⟩ := h.slot j i g hj
  have hi : i < S.length := (List.getElem?_eq_some_iff.1 hs).1
  have hl := hok.len
  have hsm := hok.small s (List.mem_of_getElem? hs)
  refine ⟨by omega, fun i' s' hs' h1 he => ?_⟩
  have hi' : i' < S.length := (List.getElem?_eq_some_iff.1 hs').1
  unfold wh at he
  have he' : g * 4294967296 + i = s'.given * 4294967296 + i' := by exact_mod_cast he
  have h3 : i = i' := by omega
  subst h3
  exact h.two j i g s' hj hs' ht h1 (by omega)

/-- What Get answers: thought alive and alive (A), cleared (B), dropped (C). -/
def GetPost (a : Int) (is : Bool) (f : Int) (L : List Blk) (w : World) (e : Ending) (w' : World) : Prop := e = .returned (.tuple #[.int .u64 a, .bool is, .int .i64 f]) ∧ Turn L w L w'

theorem get_there (h : Loose S G st) (w : World) (hS : WeaksIs b S l) (hH : Has w (l ++ R)) {j i g t : Nat} {s : Slot} (hj : G[j]? = some (i, g)) (hi : S[i]? = some s) (ht : st[j]? = some t) (h2 : t < 2) :
    Calls Try.prog 36 #[.pointer (some ⟨b, 0, none⟩), .int .u64 (wh i g)] w (GetPost s.addr (decide (s.st = 1)) 0 (l ++ R) w) := by
  have hz : s.st ≠ 0 ∧ s.given = g := by
    match t, h2 with
    | 0, _ => exact h.zero j i g s hj hi ht
    | 1, _ => exact ⟨by rw [(h.one j i g s hj hi ht).1]; omega, (h.one j i g s hj hi ht).2⟩
  have := quiet_turn (wGet_yes w hS hH i s hi hz.1) hH
  rw [hz.2] at this
  exact this

theorem get_gone (h : Loose S G st) (w : World) (hS : WeaksIs b S l) (hH : Has w (l ++ R)) {j i g : Nat} (hj : G[j]? = some (i, g)) (ht : st[j]? = some 2) :
    Calls Try.prog 36 #[.pointer (some ⟨b, 0, none⟩), .int .u64 (wh i g)] w (GetPost 0 false 3 (l ++ R) w) := by
  obtain ⟨h1, h2⟩ := h.notThere hS.1 hj ht
  exact same_turn (wGet_no w hS hH _ h1 h2) hH

def DropPost (b : Nat) (S : List Slot) (G : List Handle) (st : List Nat) (k : Nat) (l R : List Blk) (w : World) (e : Ending) (w' : World) : Prop :=
  (∃ v, e = .returned v) ∧ ∃ S' l', S'.length = S.length ∧ (∀ m, (∀ s ∈ S, s.given ≤ m) → ∀ s ∈ S', s.given ≤ m) ∧ WeaksIs b S' l' ∧ Loose S' G (st.set k 2) ∧ (∀ j, j < G.length → staleAt S' G (st.set k 2) j = false) ∧ Turn (l ++ R) w (l' ++ R) w'

theorem drop_any (h : Loose S G st) (hst : ∀ j, j < G.length → staleAt S G st j = false) (w : World) (hS : WeaksIs b S l) (hH : Has w (l ++ R)) {k i g : Nat} (hk : G[k]? = some (i, g)) :
    Calls Try.prog 32 #[.pointer (some ⟨b, 0, none⟩), .int .u64 (wh i g)] w (DropPost b S G st k l R w) := by
  have hkl : k < G.length := (List.getElem?_eq_some_iff.1 hk).1
  obtain ⟨i', g', s, t, hG, hs, ht⟩ := h.at_ hkl
  rw [hk] at hG
  cases hG
  by_cases h2 : t = 2
  · subst h2
    obtain ⟨h1, h3⟩ := h.notThere hS.1 hk ht
    refine (same_turn (wDrop_no w hS hH _ h1 h3) hH).mono ?_
    rintro e w' ⟨rfl, T⟩
    have hself : st.set k 2 = st := by
      refine List.ext_getElem? fun m => ?_
      by_cases hm : m = k
      · subst hm; rw [ht, List.getElem?_set_self (List.getElem?_eq_some_iff.1 ht).1]
      · rw [List.getElem?_set_ne (Ne.symm hm)]
    rw [DropPost, hself]
    exact ⟨⟨_, rfl⟩, S, l, rfl, fun m hm => hm, hS, h, hst, T⟩
  · have h3 := h.states k t ht
    have hz : s.st ≠ 0 ∧ s.given = g := by
      have ht' := ht
      match t, h2, h3 with
      | 0, _, _ => exact h.zero k i g s hk hs ht'
      | 1, _, _ => exact ⟨by rw [(h.one k i g s hk hs ht').1]; omega, (h.one k i g s hk hs ht').2⟩
      | 2, h2, _ => exact absurd rfl h2
    obtain ⟨hz1, rfl⟩ := hz
    refine (wDrop_yes w hS hH i s hs hz1).mono ?_
    rintro e w' ⟨rfl, l', hS', T⟩
    obtain ⟨hL, hL2⟩ := h.drop hk hs rfl
    refine ⟨⟨_, rfl⟩, _, l', by simp, fun m hm x hx => ?_, hS', hL, hL2 hst, T⟩
    rcases List.mem_or_eq_of_mem_set hx with hx | rfl
    · exact hm x hx
    · exact hm s (List.mem_of_getElem? hs)

def AddLaw (b q : Nat) (S : List Slot) (G : List Handle) (st : List Nat) (l R : List Blk) (w : World) (e : Ending) (w' : World) : Prop :=
  ∃ (v f : Int) (S' : List Slot) (l' : List Blk), e = .returned (.tuple #[.int .u64 v, .int .i64 f]) ∧ WeaksIs b S' l' ∧ S'.length = S.length ∧ (∀ s ∈ S', s.given ≤ q + 1) ∧ Turn (l ++ R) w (l' ++ R) w' ∧
    ((f = 0 ∧ ∃ i g, v = wh i g ∧ Loose S' (G ++ [(i, g)]) (st ++ [0]) ∧ ∀ j, j < (G ++ [(i, g)]).length → staleAt S' (G ++ [(i, g)]) (st ++ [0]) j = false) ∨ (f ≠ 0 ∧ Loose S' G st ∧ ∀ j, j < G.length → staleAt S' G st j = false))

theorem first_free (S : List Slot) : (∀ (j : Nat) (t : Slot), S[j]? = some t → t.st ≠ 0) ∨ ∃ (i : Nat) (s : Slot), S[i]? = some s ∧ s.st = 0 ∧ ∀ (j : Nat) (t : Slot), j < i → S[j]? = some t → t.st ≠ 0 := by
  induction S with
  | nil => exact .inl fun j t h => by simp at h
  | cons a S ih =>
    by_cases h0 : a.st = 0
    · exact .inr ⟨0, a, rfl, h0, fun j t hj => absurd hj (Nat.not_lt_zero _)⟩
    · rcases ih with h | ⟨i, s, hi, hs, hf⟩
      · left
        intro j t ht
        cases j with
        | zero => simp at ht; subst ht; exact h0
        | succ j => exact h j t (by simpa using ht)
      · refine .inr ⟨i + 1, s, by simpa using hi, hs, fun j t hj ht => ?_⟩
        cases j with
        | zero => simp at ht; subst ht; exact h0
        | succ j => exact hf j t (by omega) (by simpa using ht)

theorem add_law (h : Loose S G st) (hst : ∀ j, j < G.length → staleAt S G st j = false) {q : Nat} (hq : ∀ s ∈ S, s.given ≤ q) (hq2 : q ≤ 1000) (w : World) (hS : WeaksIs b S l) (hH : Has w (l ++ R)) (a : Int) :
    Calls Try.prog 31 #[.pointer (some ⟨b, 0, none⟩), .int .u64 a] w (AddLaw b q S G st l R w) := by
  have hq' : ∀ s ∈ S, s.given ≤ q + 1 := fun s hs => Nat.le_succ_of_le (hq s hs)
  have hsm : ∀ s ∈ S, s.given < 4294967294 := fun s hs => by have := hq s hs; omega
  by_cases ha : a = 0
  · subst ha
    refine (wAdd_zero w).mono ?_
    rintro e w' ⟨rfl, rfl⟩
    exact ⟨0, 2, S, l, rfl, hS, rfl, hq', Turn.refl hH, .inr ⟨by omega, h, hst⟩⟩
  · rcases first_free S with hall | ⟨i, s, hi, hs, hf⟩
    · refine (wAdd_full w hS hH a ha hsm hall).mono ?_
      rintro e w' ⟨rfl, T⟩
      exact ⟨0, 4, S, l, rfl, hS, rfl, hq', T, .inr ⟨by omega, h, hst⟩⟩
    · refine (wAdd_at w hS hH a ha hsm i s hi hs hf).mono ?_
      rintro e w' ⟨rfl, l', hS', T⟩
      obtain ⟨h1, h2⟩ := h.add hi hs ha
      refine ⟨_, 0, _, l', rfl, hS', by simp, fun x hx => ?_, T, .inl ⟨rfl, i, s.given + 1, rfl, h1, h2 hst⟩⟩
      rcases List.mem_or_eq_of_mem_set hx with hx | rfl
      · exact hq' x hx
      · exact Nat.succ_le_succ (hq s (List.mem_of_getElem? hi))

def PutLaw (b q : Nat) (S : List Slot) (G : List Handle) (st : List Nat) (l R : List Blk) (w : World) (e : Ending) (w' : World) : Prop :=
  ∃ (c f : Int) (S' : List Slot) (l' : List Blk), e = .returned (.tuple #[.int .i64 c, .int .i64 f]) ∧ WeaksIs b S' l' ∧ S'.length = S.length ∧ (∀ s ∈ S', s.given ≤ q) ∧ Turn (l ++ R) w (l' ++ R) w' ∧ Loose S' G st ∧ (f = 0 → c = stale S' G st) ∧ (f ≠ 0 → stale S' G st = 0)

theorem put_law (h : Loose S G st) (hst : ∀ j, j < G.length → staleAt S G st j = false) {q : Nat} (hq : ∀ s ∈ S, s.given ≤ q) (w : World) (hS : WeaksIs b S l) {ax : Option Addr} {px : Nat} {xs : List Int} {lx : List Blk} (hx : Row 31 1 ax xs.length px (w64s xs) lx) (hH : Has w (l ++ (lx ++ R))) :
    Calls Try.prog 33 #[.pointer (some ⟨b, 0, none⟩), .slice ax xs.length px] w (PutLaw b q S G st l (lx ++ R) w) := by
  by_cases hp : xs.length = cnt S ∧ badF S xs = false
  · refine (wPut_good w hS hx hH hp).mono ?_
    rintro e w' ⟨rfl, l', hS', T⟩
    obtain ⟨h1, h2⟩ := h.put hst hp.2
    refine ⟨_, 0, _, l', rfl, hS', putF_length _ _, fun s' hs' => ?_, T, h1, fun _ => by rw [h2], fun h0 => absurd rfl h0⟩
    obtain ⟨i, hi⟩ := List.mem_iff_getElem?.1 hs'
    have hlt := (List.getElem?_eq_some_iff.1 hi).1
    rw [putF_length] at hlt
    have hi0 : S[i]? = some S[i] := List.getElem?_eq_getElem hlt
    obtain ⟨s2, x, -, hs2, hg, -⟩ := put_slot hp.2 hi0
    rw [hi] at hs2
    cases hs2
    rw [hg]
    exact hq _ (List.mem_of_getElem? hi0)
  · refine (wPut_bad w hS hx hH hp).mono ?_
    rintro e w' ⟨rfl, T⟩
    exact ⟨0, 2, S, l, rfl, hS, rfl, hq, T, h, fun h0 => by omega, fun _ => stale_zero hst⟩

/-- What holds between the law's rounds; n is what a Put has told that is not found yet. -/
structure Round (b m q : Nat) (S : List Slot) (G : List Handle) (st : List Nat) (a7 a8 : Option Addr) (p7 p8 : Nat) (l l7 l8 : List Blk) (w0 w : World) : Prop where
  table : WeaksIs b S l
  loose : Loose S G st
  size : S.length = m
  few : G.length ≤ q
  given : ∀ s ∈ S, s.given ≤ q
  row7 : Row 60 1 a7 G.length p7 (w64s (hInts G)) l7
  row8 : Row 3 1 a8 G.length p8 (tInts st) l8
  turn : Turn [] w0 (l ++ (l7 ++ l8)) w

theorem WStepCells.turn {w W : World} {bs o : Nat} {s : WStep} {l1 : List Blk} (h : WStepCells w bs o s) (hb : bs < w.heap.size) (T : Turn [] w l1 W) : WStepCells W bs o s :=
  ⟨(T.cellOld hb).trans h.c0, (T.cellOld hb).trans h.c1, (T.cellOld hb).trans h.c2, (T.cellOld hb).trans h.c3, (T.cellOld hb).trans h.c4⟩

/-- What a round's deed leaves. -/
def AfterDo (b m q : Nat) (w0 : World) (v7 v8 v11 : Value) (w : World) : Prop :=
  ∃ (S : List Slot) (G : List Handle) (st : List Nat) (a7 a8 : Option Addr) (p7 p8 : Nat) (l l7 l8 : List Blk), v7 = .slice a7 G.length p7 ∧ v8 = .slice a8 G.length p8 ∧ v11 = .int .i64 (stale S G st) ∧ Round b m q S G st a7 a8 p7 p8 l l7 l8 w0 w

def Clean (S : List Slot) (G : List Handle) (st : List Nat) : Prop := ∀ j, j < G.length → staleAt S G st j = false
end
end Go.Proofs.Ytinpkimflcmkgaa
