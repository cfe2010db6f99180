/-
  A range over a function whose assignment to the loop's variables lays memory (a loop variable that is a struct).
  Conditions: the iterator has its contract; outside every other such loop.
-/
import Derived.Test.YtpnpnajheaijaaaDoorStl
import Derived.RangeFuncNested
import Derived.RangeFuncBox
namespace Go.Proofs.YtpnpnajheaijaaaDoor
open Go Go.RowKit

/-- The loop's two blocks of book-keeping, laid at B and behind it. -/
structure Marks (B : Nat) (r : Loop) (W : World) : Prop where
  dfr : W.heap[B]? = some (.deferred (some []))
  loop : W.heap[B + 1]? = some (.loop r)

theorem Marks.keeps {B : Nat} {r : Loop} {W W' : World} (h : Marks B r W) (k : KeepsFrom B W W') : Marks B r W' :=
  ⟨k.same _ _ (Nat.le_refl _) h.dfr rfl, k.same _ _ (Nat.le_succ _) h.loop rfl⟩
theorem Marks.put {B : Nat} {r : Loop} {W : World} (h : Marks B r W) (r' : Loop) : Marks B r' (W.putObj (B + 1) (.loop r')) :=
  ⟨(World.putObj_heap_other (by omega)).trans h.dfr, World.putObj_heap_same (Array.getElem?_eq_some_iff.1 h.loop).1⟩
theorem Marks.grown {B : Nat} {r : Loop} {W W' : World} {row : Option Nat} (h : Marks B r W) (hg : W.grownBy W' row) (hr : ∀ j, row = some j → ∃ o : Obj, W.heap[j]? = some o ∧ o.isWalk = true) : Marks B r W' := by
  have go : ∀ (k : Nat) (o : Obj), W.heap[k]? = some o → o.isWalk = false → W'.heap[k]? = some o := fun k o hk ho => (hg.block k (Array.getElem?_eq_some_iff.1 hk).1 (fun e => by
    obtain ⟨o', ho', hw⟩ := hr k e.symm
    rw [hk] at ho'
    cases ho'
    rw [ho] at hw
    cases hw)).trans hk
  exact ⟨go _ _ h.dfr rfl, go _ _ h.loop rfl⟩

section
variable {F : Fence} {n : Nat} {P : Program}

theorem wpIn_rangeFunc_lays {α : Type} {g : Operand} {ps : Array Tmp} {assign body : Code} {Q : Exit → Act → World → Prop} {a : Act} {w : World}
    (hro : F.round = none) (h1 : 1 ≤ n) {gf : Nat} {lb : Array Value} (hg : a.eval g = .func (.func gf) #[] lb) (hFg : F.fn gf) (eg : ∀ args w, (callFunc gf args).run P w = .ok (.enter gf args) w)
    {encs : α → Array Value} {Kp : World → World → Prop} {S Sp : List α → Prop} {N : Nat} {w0 : World} (hseq : SeqStopsK F (n - 1) P gf lb encs Kp S Sp N w0)
    (hKt : ∀ {A B C : World}, Kp A B → Kp B C → Kp A C) (hKb : ∀ (W : World) (l : Nat) (o o' : Obj), w.heap.size ≤ l → W.heap[l]? = some o → o.isCells = false → o.isWalk = false → Kp W (W.putObj l o')) (hb0 : Below w0.heap.size w0 w) (hps : ∀ x, (encs x).size = ps.size)
    (I : List α → World → Prop) (Ix : Code → List α → World → Prop) (M : α → Act → List α → World → Prop) (hI : OwnFrom w.heap.size I) (hIx : ∀ c, OwnFrom w.heap.size (Ix c)) (hM : ∀ x a', OwnFrom w.heap.size (M x a')) (h0 : I [] w)
    (hassign : ∀ (l : Nat) (pre : List α) (x : α) (W : World), I pre W → pre.length < N →
      assign.wpIn (F.inRound l) (n - 1 - 1) P (Exit.then (fun a' W' => KeepsFrom w.heap.size W W' ∧ Kp W W' ∧ M x a' pre W') (fun _ _ _ => False)) { tmps := (ps.zip (encs x)).foldl (fun t (p, v) => t.setIfInBounds p v) a.tmps, defers := [] } W)
    (hbody : ∀ (l : Nat) (pre : List α) (x : α) (a' : Act) (W : World), M x a' pre W → pre.length < N → body.wpIn (F.inRound l) (n - 1 - 1) P (ownPostG w.heap.size Kp I Ix (pre ++ [x]) W) a' W)
    (hdone : ∀ (D : Nat) (xs : List α) (W : World), w.heap.size ≤ D → S xs → I xs W → W.heap[D]? = some (.deferred (some [])) → Q .normal { a with defers := { target := .collected D, args := #[] } :: a.defers } W)
    (hstop : ∀ (D : Nat) (c : Code) (pre : List α) (W : World), w.heap.size ≤ D → Sp pre → Ix c pre W → W.heap[D]? = some (.deferred (some [])) → c.wpIn F n P Q { a with defers := { target := .collected D, args := #[] } :: a.defers } W) :
    (Code.rangeFunc g ps assign body).wpIn F n P Q a w := by
  refine wpIn_rangeFunc fun fn hfn => ?_
  rw [hro]
  let rc : LoopState → Option Code → Loop := fun st pe => { state := st, pending := pe, fn, tmps := a.tmps, params := ps, assign, body, defers := w.heap.size }
  have hsz1 : ((w.alloc (.deferred (some []))).alloc (.loop (rc .ready none))).heap.size = w.heap.size + 2 := by simp
  have hm1 : Marks w.heap.size (rc .ready none) ((w.alloc (.deferred (some []))).alloc (.loop (rc .ready none))) := by
    refine ⟨(Below.heap_alloc _ _ _ (by simp)).trans (World.alloc_heap_new w _), ?_⟩
    have := World.alloc_heap_new (w.alloc (.deferred (some []))) (.loop (rc .ready none))
    rwa [World.size_alloc] at this
  have hi1 : I [] ((w.alloc (.deferred (some []))).alloc (.loop (rc .ready none))) := hI.alloc _ (hI.alloc _ h0)
  have hb1 : Below w0.heap.size w0 ((w.alloc (.deferred (some []))).alloc (.loop (rc .ready none))) := hb0.trans ((((Below.refl _ w).alloc (Nat.le_refl _) _).alloc (by simp) _).mono hb0.size)
  have hrun := run_enterLoop_outer (P := P) (w := w) fn a.tmps ps assign body
  change _ = Result.ok _ ((w.alloc (.deferred (some []))).alloc (.loop (rc .ready none))) at hrun
  generalize ((w.alloc (.deferred (some []))).alloc (.loop (rc .ready none))) = W1 at hsz1 hm1 hi1 hb1 hrun
  refine ⟨w.heap.size + 1, [{ target := .collected w.heap.size, args := #[] }], W1, { target := .fn (.func gf) lb, args := #[.func (.yield (w.heap.size + 1)) #[] #[]] }, W1, gf,
    #[.func (.yield (w.heap.size + 1)) #[] #[]] ++ lb, W1, hrun, ?_, ?_, ?_, fun _ => h1, ?_⟩
  · simp only [resolve, hg]
    simp [go_sem]
  · intro f' hf'; simp [Target.leads] at hf'; subst hf'; exact hFg
  · simp [invoke, go_sem, eg]
  have hrow : ∀ {A : World} {row : Option Nat}, (∀ r, row = some r → W1.heap.size ≤ r ∧ ∃ o : Obj, A.heap[r]? = some o ∧ o.isWalk = true) → (∀ r, row = some r → w.heap.size ≤ r ∧ ∃ o : Obj, A.heap[r]? = some o ∧ o.isCells = false) :=
    fun hr r e => by obtain ⟨hB, o, ho, hw⟩ := hr r e; exact ⟨by omega, o, ho, Obj.not_cells_of_walk hw⟩
  refine (hseq (w.heap.size + 1) (fun pre W => I pre W ∧ Marks w.heap.size (rc .ready none) W) (fun pre W => ∃ c, Ix c pre W ∧ Marks w.heap.size (rc .done (some c)) W) W1 hb1
    (fun s A B row hs hg' hr => ⟨hI s A B row hs.1 hg' (hrow hr), hs.2.grown hg' fun j e => (hr j e).2⟩)
    (fun s A B row ⟨c, hc, hm⟩ hg' hr => ⟨c, hIx c s A B row hc hg' (hrow hr), hm.grown hg' fun j e => (hr j e).2⟩) ?_ ⟨hi1, hm1⟩).mono ?_
  · rintro pre x W ⟨hi, hm⟩ hlen
    refine ⟨fn, _, assign, body, run_yield hm.loop (hps x), roundIn_of_wpIn hfn (wpIn_mono (hassign _ pre x W hi hlen) ?_)⟩
    rintro e a' Wa hp
    cases e with
    | normal =>
      obtain ⟨hka, hkpa, hMa⟩ := hp
      have hma := hm.keeps hka
      refine ⟨_, run_beginRound hma.loop rfl, ?_⟩
      have hmb := hma.put (rc .busy none)
      have hkb : Kp W (Wa.putObj (w.heap.size + 1) (.loop (rc .busy none))) := hKt hkpa (hKb _ _ _ _ (Nat.le_succ _) hma.loop rfl rfl)
      refine wpIn_mono (hbody _ pre x a' _ ((hM x a').putObj _ hMa (Nat.le_succ _) hma.loop rfl) hlen) ?_
      have leave : ∀ (jump : Option Code) (W3 : World), KeepsFrom w.heap.size (Wa.putObj (w.heap.size + 1) (.loop (rc .busy none))) W3 →
          (Instr.endRound (w.heap.size + 1) jump).run P W3 = .ok (.bool jump.isNone) (W3.putObj (w.heap.size + 1) (.loop (rc (if jump.isNone then .ready else .done) jump))) ∧
          W3.heap[w.heap.size + 1]? = some (.loop (rc .busy none)) ∧ Marks w.heap.size (rc (if jump.isNone then .ready else .done) jump) (W3.putObj (w.heap.size + 1) (.loop (rc (if jump.isNone then .ready else .done) jump))) := fun jump W3 hk3 =>
        ⟨run_endRound (P := P) jump (hmb.keeps hk3).loop, (hmb.keeps hk3).loop, (hmb.keeps hk3).put _⟩
      rintro e a3 W3 hp
      cases e with
      | normal =>
        obtain ⟨hk3, hkp3, hi3⟩ := hp
        obtain ⟨hr, hl3, hm3⟩ := leave none W3 hk3
        exact ⟨_, _, hr, .inl ⟨rfl, ⟨hI.putObj _ hi3 (Nat.le_succ _) hl3 rfl, hm3⟩, hKt (hKt hkb hkp3) (hKb _ _ _ _ (Nat.le_succ _) hl3 rfl rfl)⟩⟩
      | ret =>
        obtain ⟨hk3, hi3⟩ := hp
        obtain ⟨hr, hl3, hm3⟩ := leave (some .ret) W3 hk3
        exact ⟨_, _, hr, .inr ⟨rfl, .ret, (hIx _).putObj _ hi3 (Nat.le_succ _) hl3 rfl, hm3⟩⟩
      | exit id =>
        obtain ⟨hk3, hi3⟩ := hp
        obtain ⟨hr, hl3, hm3⟩ := leave (some (.exit id)) W3 hk3
        exact ⟨_, _, hr, .inr ⟨rfl, .exit id, (hIx _).putObj _ hi3 (Nat.le_succ _) hl3 rfl, hm3⟩⟩
      | goto t =>
        obtain ⟨hk3, hi3⟩ := hp
        obtain ⟨hr, hl3, hm3⟩ := leave (some (.goto t)) W3 hk3
        exact ⟨_, _, hr, .inr ⟨rfl, .goto t, (hIx _).putObj _ hi3 (Nat.le_succ _) hl3 rfl, hm3⟩⟩
      | panic ch => exact hp.elim
      | outgrown => exact hp.elim
    | ret => exact hp.elim
    | exit id => exact hp.elim
    | goto t => exact hp.elim
    | panic ch => exact hp.elim
    | outgrown => exact hp.elim
  · rintro e W2 ⟨⟨v, rfl⟩, (⟨xs, hS, hi, hm⟩ | ⟨pre, hSp, c, hi, hm⟩)⟩
    · exact ⟨none, _, run_endLoop (P := P) hm.loop (by simp [rc]), hdone _ xs _ (Nat.le_refl _) hS (hI.putObj _ hi (Nat.le_succ _) hm.loop rfl) ((World.putObj_heap_other (by omega)).trans hm.dfr)⟩
    · exact ⟨some c, _, run_endLoop (P := P) hm.loop (by simp [rc]), hstop _ c pre _ (Nat.le_refl _) hSp ((hIx c).putObj _ hi (Nat.le_succ _) hm.loop rfl) ((World.putObj_heap_other (by omega)).trans hm.dfr)⟩
end
end Go.Proofs.YtpnpnajheaijaaaDoor
