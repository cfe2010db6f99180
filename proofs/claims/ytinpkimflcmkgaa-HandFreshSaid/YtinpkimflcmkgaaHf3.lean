/-
  Handles: what Add, Set, Drop and Get answer along a script; what a round of the law keeps.
  Conditions: the table, the handles and what is thought of them go together.
-/
import Derived.Test.YtinpkimflcmkgaaHf2
namespace Go.Proofs.Ytinpkimflcmkgaa
open Go Go.RowKit

def gInts (G : List (Nat × Nat)) : List Int := G.map fun h => wh h.1 h.2
theorem gInts_length (G : List (Nat × Nat)) : (gInts G).length = G.length := by simp [gInts]
theorem gInts_snoc (G : List (Nat × Nat)) (i g : Nat) : u64s (gInts (G ++ [(i, g)])) = u64s (gInts G) ++ [.int .u64 (wh i g)] := by simp [gInts, u64s]
theorem gInts_at {G : List (Nat × Nat)} {j i g : Nat} (h : G[j]? = some (i, g)) : (u64s (gInts G))[j]? = some (.int .u64 (wh i g)) := by simp [gInts, u64s, h]
theorem u64s_setl (A : List Int) (j : Nat) (a : Int) : u64s (A.set j a) = (u64s A).set j (.int .u64 a) := by simp [u64s, List.map_set]

theorem el_hrow : Elem Try.prog 29 32 1 8 (.int .u64 0) := Elem.of Try.underlying29 (by kernel_rfl) rfl
theorem el_arow : Elem Try.prog 30 31 1 8 (.int .u64 0) := Elem.of Try.underlying30 (by kernel_rfl) rfl

section
variable {b : Nat} {S : List HSlot} {G : List (Nat × Nat)} {A : List Int} {l R : List Blk}

theorem Entry.noHand {i g : Nat} (hok : HdOk S) (h : Entry S (i, g) 0) : g * 4294967296 + i < 18446744073709551616 ∧ NoHand S (g * 4294967296 + i) := by
  obtain ⟨-, s, hs, hg, -, hdead⟩ := h
  replace hs : S[i]? = some s := hs
  replace hg : g ≤ s.given := hg
  have hi : i < S.length := (List.getElem?_eq_some_iff.1 hs).1
  have hl := hok.len
  have hsm := hok.small s (List.mem_of_getElem? hs)
  refine ⟨by omega, fun i' s' hs' h1 he => ?_⟩
  have hi' : i' < S.length := (List.getElem?_eq_some_iff.1 hs').1
  unfold wh at he
  have he' : g * 4294967296 + i = s'.given * 4294967296 + i' := by exact_mod_cast he
  have h3 : i = i' := by omega
  subst h3
  rw [hs] at hs'; cases hs'
  exact hdead rfl h1 (by show s.given = g; omega)

theorem gEmpty {i g : Nat} (h : Entry S (i, g) 0) (hok : HdOk S) (f : Nat → Prop) (hf : NoHand S (g * 4294967296 + i) → f (g * 4294967296 + i)) : f (g * 4294967296 + i) := hf (h.noHand hok).2

def errOf (a : Int) : Int := if a = 0 then 3 else 0

/-- What Get answers. -/
theorem get_hand (w : World) (hS : HandsIs b S l) (hH : Has w (l ++ R)) {i g : Nat} {a : Int} (h : Entry S (i, g) a) :
    Calls Try.prog 17 #[.pointer (some ⟨b, 0, none⟩), .int .u64 (wh i g)] w fun e w' => e = .returned (.tuple #[.int .u64 a, .int .i64 (errOf a)]) ∧ Turn (l ++ R) w (l ++ R) w' := by
  by_cases ha : a = 0
  · subst ha
    obtain ⟨hx, hno⟩ := h.noHand hS.1
    exact (hGet_no w hS hH _ hx hno)
  · obtain ⟨-, s, hs, -, hlive, -⟩ := h
    obtain ⟨h1, h2⟩ := hlive ha
    replace hs : S[i]? = some s := hs
    replace h2 : s.given = g := h2
    have := hGet_yes w hS hH i s hs (by rw [h1]; exact ha)
    rw [h1, h2] at this
    unfold errOf
    rw [if_neg ha]
    exact this

def SetLaw (b q : Nat) (S : List HSlot) (G : List (Nat × Nat)) (A : List Int) (j : Nat) (x : Int) (l R : List Blk) (w : World) (e : Ending) (w' : World) : Prop :=
  ∃ (f : Int) (S' : List HSlot) (A' : List Int) (l' : List Blk), e = .returned (.int .i64 f) ∧ (f = 0 ∧ A' = A.set j x ∨ f ≠ 0 ∧ A' = A) ∧ HandsIs b S' l' ∧ S'.length = S.length ∧ (∀ s ∈ S', s.given ≤ q) ∧ Fresh S' G A' ∧ Turn (l ++ R) w (l' ++ R) w'

theorem given_set {q i : Nat} {s : HSlot} {a : Int} (hq : ∀ s ∈ S, s.given ≤ q) (hs : S[i]? = some s) : ∀ t ∈ S.set i { s with addr := a }, t.given ≤ q := fun t ht => by
  rcases List.mem_or_eq_of_mem_set ht with h | rfl
  · exact hq t h
  · exact hq s (List.mem_of_getElem? hs)

theorem set_hand (h : Fresh S G A) {q : Nat} (hq : ∀ s ∈ S, s.given ≤ q) (w : World) (hS : HandsIs b S l) (hH : Has w (l ++ R)) {j i g : Nat} (hj : G[j]? = some (i, g)) (x : Int) :
    Calls Try.prog 15 #[.pointer (some ⟨b, 0, none⟩), .int .u64 (wh i g), .int .u64 x] w (SetLaw b q S G A j x l R w) := by
  obtain ⟨y, a, hy, hA, hE⟩ := h.at_ (List.getElem?_eq_some_iff.1 hj).1
  rw [hj] at hy; cases hy
  by_cases hx : x = 0
  · subst hx
    refine (hSet_zero w _).mono ?_
    rintro e w' ⟨rfl, rfl⟩
    exact ⟨2, S, A, l, rfl, .inr ⟨by decide, rfl⟩, hS, rfl, hq, h, Turn.refl hH⟩
  · by_cases ha : a = 0
    · subst ha
      obtain ⟨hb, hno⟩ := hE.noHand hS.1
      refine (hSet_no w hS hH _ hb hno x hx).mono ?_
      rintro e w' ⟨rfl, T⟩
      exact ⟨3, S, A, l, rfl, .inr ⟨by decide, rfl⟩, hS, rfl, hq, h, T⟩
    · obtain ⟨-, s, hs, -, hlive, -⟩ := hE
      obtain ⟨h1, h2⟩ := hlive ha
      replace hs : S[i]? = some s := hs
      replace h2 : s.given = g := h2
      have hc := hSet_yes w hS hH i s hs (by rw [h1]; exact ha) x hx
      rw [show wh i s.given = wh i g by rw [h2]] at hc
      refine hc.mono ?_
      rintro e w' ⟨rfl, l', hS', T⟩
      exact ⟨0, _, _, l', rfl, .inl ⟨rfl, rfl⟩, hS', by simp, given_set hq hs, h.upd hj hA ha hs, T⟩

def DropLaw (b q : Nat) (S : List HSlot) (G : List (Nat × Nat)) (A : List Int) (j : Nat) (a : Int) (l R : List Blk) (w : World) (e : Ending) (w' : World) : Prop :=
  ∃ (S' : List HSlot) (l' : List Blk), e = .returned (.int .i64 (errOf a)) ∧ HandsIs b S' l' ∧ S'.length = S.length ∧ (∀ s ∈ S', s.given ≤ q) ∧ Fresh S' G (A.set j 0) ∧ Turn (l ++ R) w (l' ++ R) w'

theorem drop_hand (h : Fresh S G A) {q : Nat} (hq : ∀ s ∈ S, s.given ≤ q) (w : World) (hS : HandsIs b S l) (hH : Has w (l ++ R)) {j i g : Nat} {a : Int} (hj : G[j]? = some (i, g)) (hA : A[j]? = some a) :
    Calls Try.prog 16 #[.pointer (some ⟨b, 0, none⟩), .int .u64 (wh i g)] w (DropLaw b q S G A j a l R w) := by
  have hE := h.each j _ a hj hA
  by_cases ha : a = 0
  · subst ha
    obtain ⟨hb, hno⟩ := hE.noHand hS.1
    refine (hDrop_no w hS hH _ hb hno).mono ?_
    rintro e w' ⟨rfl, T⟩
    refine ⟨S, l, rfl, hS, rfl, hq, ?_, T⟩
    rw [show A.set j 0 = A from by
      refine List.ext_getElem? fun k => ?_
      by_cases hk : j = k
      · subst hk; rw [List.getElem?_set_self (List.getElem?_eq_some_iff.1 hA).1, hA]
      · rw [List.getElem?_set_ne hk]]
    exact h
  · obtain ⟨-, s, hs, -, hlive, -⟩ := hE
    obtain ⟨h1, h2⟩ := hlive ha
    replace hs : S[i]? = some s := hs
    replace h2 : s.given = g := h2
    have hc := hDrop_yes w hS hH i s hs (by rw [h1]; exact ha)
    rw [show wh i s.given = wh i g by rw [h2]] at hc
    refine hc.mono ?_
    rintro e w' ⟨rfl, l', hS', T⟩
    exact ⟨_, l', by unfold errOf; rw [if_neg ha], hS', by simp, given_set hq hs, h.upd hj hA ha hs, T⟩

def AddHand (b q : Nat) (S : List HSlot) (G : List (Nat × Nat)) (A : List Int) (a : Int) (l R : List Blk) (w : World) (e : Ending) (w' : World) : Prop :=
  ∃ (v f : Int) (S' : List HSlot) (l' : List Blk), e = .returned (.tuple #[.int .u64 v, .int .i64 f]) ∧ HandsIs b S' l' ∧ S'.length = S.length ∧ (∀ s ∈ S', s.given ≤ q + 1) ∧ Turn (l ++ R) w (l' ++ R) w' ∧
    ((f = 0 ∧ ∃ i g, v = wh i g ∧ Fresh S' (G ++ [(i, g)]) (A ++ [a])) ∨ (f ≠ 0 ∧ Fresh S' G A))

theorem first_hand (S : List HSlot) : (∀ (j : Nat) (t : HSlot), S[j]? = some t → t.addr ≠ 0) ∨ ∃ (i : Nat) (s : HSlot), S[i]? = some s ∧ s.addr = 0 ∧ ∀ (j : Nat) (t : HSlot), j < i → S[j]? = some t → t.addr ≠ 0 := by
  induction S with
  | nil => exact .inl fun j t h => by simp at h
  | cons s S ih =>
    by_cases hs : s.addr = 0
    · exact .inr ⟨0, s, rfl, hs, fun j t hj => absurd hj (Nat.not_lt_zero _)⟩
    · rcases ih with h | ⟨i, t, hi, ht, hf⟩
      · refine .inl fun j t hj => ?_
        cases j with
        | zero => cases hj; exact hs
        | succ j => exact h j t hj
      · refine .inr ⟨i + 1, t, hi, ht, fun j u hj hu => ?_⟩
        cases j with
        | zero => cases hu; exact hs
        | succ j => exact hf j u (by omega) hu

theorem add_hand (h : Fresh S G A) {q : Nat} (hq : ∀ s ∈ S, s.given ≤ q) (hq2 : q < 4294967000) (w : World) (hS : HandsIs b S l) (hH : Has w (l ++ R)) (a : Int) :
    Calls Try.prog 14 #[.pointer (some ⟨b, 0, none⟩), .int .u64 a] w (AddHand b q S G A a l R w) := by
  have hq' : ∀ s ∈ S, s.given ≤ q + 1 := fun s hs => Nat.le_succ_of_le (hq s hs)
  have hsm : ∀ s ∈ S, s.given < 4294967294 := fun s hs => by have := hq s hs; omega
  by_cases ha : a = 0
  · subst ha
    refine (hAdd_zero w).mono ?_
    rintro e w' ⟨rfl, rfl⟩
    exact ⟨0, 2, S, l, rfl, hS, rfl, hq', Turn.refl hH, .inr ⟨by omega, h⟩⟩
  · rcases first_hand S with hall | ⟨i, s, hi, hs, hf⟩
    · refine (hAdd_full w hS hH a ha hsm hall).mono ?_
      rintro e w' ⟨rfl, T⟩
      exact ⟨0, 4, S, l, rfl, hS, rfl, hq', T, .inr ⟨by omega, h⟩⟩
    · refine (hAdd_at w hS hH a ha hsm i s hi hs hf).mono ?_
      rintro e w' ⟨rfl, l', hS', T⟩
      refine ⟨_, 0, _, l', rfl, hS', by simp, fun x hx => ?_, T, .inl ⟨rfl, i, s.given + 1, rfl, h.add hi hs ha⟩⟩
      rcases List.mem_or_eq_of_mem_set hx with hx | rfl
      · exact hq' x hx
      · exact Nat.succ_le_succ (hq s (List.mem_of_getElem? hi))
end

/-- What holds between the law's rounds. -/
structure HRound (b m q : Nat) (S : List HSlot) (G : List (Nat × Nat)) (A : List Int) (a7 a8 : Option Addr) (p7 p8 : Nat) (l l7 l8 : List Blk) (w0 w : World) : Prop where
  table : HandsIs b S l
  fresh : Fresh S G A
  size : S.length = m
  few : G.length ≤ q
  given : ∀ s ∈ S, s.given ≤ q
  row7 : Row 32 1 a7 G.length p7 (u64s (gInts G)) l7
  row8 : Row 31 1 a8 G.length p8 (u64s A) l8
  turn : Turn [] w0 (l ++ (l7 ++ l8)) w

theorem HStepCells.turn {w W : World} {bs o : Nat} {s : HStep} {l1 : List Blk} (h : HStepCells w bs o s) (hb : bs < w.heap.size) (T : Turn [] w l1 W) : HStepCells W bs o s :=
  ⟨(T.cellOld hb).trans h.c0, (T.cellOld hb).trans h.c1, (T.cellOld hb).trans h.c2, (T.cellOld hb).trans h.c3, (T.cellOld hb).trans h.c4⟩

/-- What a round's deed leaves. -/
def HAfter (b m q : Nat) (w0 : World) (v7 v8 : Value) (w : World) : Prop :=
  ∃ (S : List HSlot) (G : List (Nat × Nat)) (A : List Int) (a7 a8 : Option Addr) (p7 p8 : Nat) (l l7 l8 : List Blk), v7 = .slice a7 G.length p7 ∧ v8 = .slice a8 G.length p8 ∧ HRound b m q S G A a7 a8 p7 p8 l l7 l8 w0 w
end Go.Proofs.Ytinpkimflcmkgaa
