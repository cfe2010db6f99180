/-
  The log: At.
  Conditions: a log; or none.
-/
import Derived.Test.YtpnpnajheaijaaaDoorLg17
import Derived.Test.YtpnpnajheaijaaaDoorRfa
namespace Go.Proofs.YtpnpnajheaijaaaDoor
open Go Go.RowKit Go.Shelf Go.IntWalk

attribute [local go_sem] Oper.semAt_some

theorem Turn.grow {w W W' : World} {L : List Blk} {B : Nat} {row : Option Nat} (h : Turn [] w L W) (hB : w.heap.size ≤ B) (hL : ∀ x ∈ L, x.2.isCells = true) (hg : W.grownBy W' row) (hr : ∀ r, row = some r → B ≤ r ∧ ∃ o : Obj, W.heap[r]? = some o ∧ o.isCells = false) : Turn [] w L W' := by
  have hne : ∀ b o, (b, o) ∈ L → some b ≠ row := fun b o hm he => by
    obtain ⟨-, o', ho', hc⟩ := hr b he.symm
    have h1 := h.has.own b o hm
    rw [h1] at ho'
    cases ho'
    have := hL _ hm
    rw [hc] at this
    cases this
  refine ⟨hg.os.trans h.os, hg.tape.trans h.tape, hg.output.trans h.output, Nat.le_trans h.size hg.size, ⟨h.has.nd, fun b o hm => ?_⟩, h.new, fun b hb hn => ?_⟩
  · rw [hg.block b (lt_of_block (h.has.own b o hm)) (hne b o hm)]
    exact h.has.own b o hm
  · rw [hg.block b (Nat.lt_of_lt_of_le hb h.size) (fun he => by have := (hr b he.symm).1; omega)]
    exact h.same b hb hn

theorem wpListIn_by {F : Fence} {n : Nat} {P : Program} {ops : Array Oper} {Q : Exit → Act → World → Prop} {o : Oper} {rest : List Oper} {a : Act} {w : World} (hF : Follows F n P) (hgd : o.guard = none) (hd : ∀ c, o.op ≠ .defer c)
    (h : o.wp P a w (wpListIn F n P ops Q rest) Q) : wpListIn F n P ops Q (o :: rest) a w := by
  have hw : Region.wanted o (yielded ops a.tmps) = true := by simp [Region.wanted, hgd]
  unfold wpListIn
  rw [if_pos hw]
  exact hF.op o a w _ Q hd h

theorem keepsOthers_setCells {b : Nat} : ∀ (vs : List Value) (o : Nat) (W : World), KeepsOthers W (W.setCells b o vs)
  | [], _, W => KeepsOthers.refl W
  | v :: r, o, W => (KeepsOthers.setCell W ⟨b, o, none⟩ v).trans (keepsOthers_setCells r (o + 1) _)

theorem below_setCells {n₀ b : Nat} (hb : n₀ ≤ b) : ∀ (vs : List Value) (o : Nat) (W : World), Below n₀ W (W.setCells b o vs)
  | [], _, W => Below.refl n₀ W
  | v :: r, o, W => ((Below.refl n₀ W).setCell (p := ⟨b, o, none⟩) hb v).trans (below_setCells hb r (o + 1) _)

/-- The i-th, and whether there is one. -/
def atOf (ks : List (List Int)) (i : Int) : Option (List Int) := if 0 ≤ i then ks[i.toNat]? else none

/-- The four blocks of At: the number asked for; what is handed back; the iterator's box. -/
def atBlks (s : Nat) (p : Option Addr) (i : Int) (r : List Int) (c : Bool) : List Blk :=
  [(s + 1 + 1 + 1, .cells #[.pointer p] 33), (s + 1 + 1, .cells #[.bool c] 4), (s + 1, .cells (i64s r).toArray 25), (s, .cells #[.int .i64 i] 3)]
theorem atBlks_cells (s : Nat) (p : Option Addr) (i : Int) (r : List Int) (c : Bool) : ∀ x ∈ atBlks s p i r c, x.2.isCells = true := by
  intro x hx
  simp only [atBlks, List.mem_cons, List.not_mem_nil, or_false] at hx
  rcases hx with rfl | rfl | rfl | rfl <;> rfl
theorem at_box {w W : World} {s : Nat} {p : Option Addr} {i : Int} {r : List Int} {c : Bool} {R : List Blk} (h : Turn [] w (R ++ atBlks s p i r c) W) : W.cell? ⟨s + 1 + 1 + 1, 0, none⟩ = some (.pointer p) :=
  h.has.cell (b := s + 1 + 1 + 1) (c := #[.pointer p]) (e := 33) (f := (0, 0)) (by simp [atBlks]) 0
theorem at_num {w W : World} {s : Nat} {p : Option Addr} {i : Int} {r : List Int} {c : Bool} {R : List Blk} (h : Turn [] w (R ++ atBlks s p i r c) W) : W.cell? ⟨s, 0, none⟩ = some (.int .i64 i) :=
  h.has.cell (b := s) (c := #[.int .i64 i]) (e := 3) (f := (0, 0)) (by simp [atBlks]) 0

/-- None of these is the i-th; the last one of these was. -/
def atNone {ks : List (List Int)} (i : Int) (pre : List (Kel ks)) : Prop := ∀ x ∈ pre, (x.val.1 : Int) ≠ i
def atStop {ks : List (List Int)} (w : World) (p : Option Addr) (i : Int) (c : Code) (pre : List (Kel ks)) (W : World) : Prop := c = .ret ∧ ∃ x ∈ pre, (x.val.1 : Int) = i ∧ Turn [] w (atBlks w.heap.size p i x.val.2 true) W
def atGoes {ks : List (List Int)} (w : World) (p : Option Addr) (i : Int) (pre : List (Kel ks)) (W : World) : Prop := Turn [] w (atBlks w.heap.size p i zeros false) W ∧ atNone i pre

theorem atOf_some {ks : List (List Int)} {i : Int} (x : Kel ks) (h : (x.val.1 : Int) = i) : atOf ks i = some x.val.2 := by
  have hx := x.property
  unfold atOf
  rw [if_pos (by omega), show i.toNat = x.val.1 by omega]
  exact hx
theorem atOf_none {ks : List (List Int)} {i : Int} {nn : Nat} (hl : ks.length = nn) {ys : List (Kel ks)} (hy : ys.map Subtype.val = (List.range nn).zip ks) (h : atNone i ys) : atOf ks i = none := by
  unfold atOf
  by_cases h0 : 0 ≤ i
  · rw [if_pos h0]
    cases hk : ks[i.toNat]? with
    | none => rfl
    | some r =>
      have hlt : i.toNat < nn := by have := (List.getElem?_eq_some_iff.1 hk).1; omega
      have hm : (i.toNat, r) ∈ ys.map Subtype.val := by
        rw [hy]
        exact List.mem_of_getElem? ((List.getElem?_zip_eq_some (z := (i.toNat, r))).2 ⟨List.getElem?_range hlt, hk⟩)
      obtain ⟨x, hx, hxe⟩ := List.mem_map.1 hm
      have := h x hx
      rw [hxe] at this
      omega
  · rw [if_neg h0]

theorem results_cells2 {P : Program} {fn : Func} {p q : Tmp} {ty ty2 : TypeId} (h : fn.results = #[.cell p ty, .cell q ty2]) (tmps : Array Value) (w : World) (b b2 : Nat) (cs : List Value) (d : TypeDesc) (v : Value)
    (hp : tmps.getD p undef = .pointer (some ⟨b, 0, none⟩)) (hc : w.rangeAt b 0 cs) (hu : P.underlying ty = some d) (hd : d.isRow = true) (hi : (P.info? ty).map (·.size) = some cs.length)
    (hq : tmps.getD q undef = .pointer (some ⟨b2, 0, none⟩)) (hv : (loadVar ty2 ⟨b2, 0, none⟩).run P w = .ok v w) :
    (results fn tmps).run P w = .ok (.tuple #[.agg cs.toArray, v]) w := by
  have hp' : tmps[p]?.getD undef = .pointer (some ⟨b, 0, none⟩) := by simpa using hp
  have hq' : tmps[q]?.getD undef = .pointer (some ⟨b2, 0, none⟩) := by simpa using hq
  simp [results, h, hp', hq', asAddr, run_loadVar_mid w b 0 ty cs d hc hu hd hi, hv]

theorem load_bool (w : World) (b : Nat) (c : Bool) (h : w.cell? ⟨b, 0, none⟩ = some (.bool c)) : (loadVar 4 ⟨b, 0, none⟩).run Tryd.prog w = .ok (.bool c) w := by
  simp [go_sem, h]

theorem at_end {n : Nat} {w W : World} {p : Option Addr} {i : Int} {r : List Int} {c : Bool} (hr : r.length = 21) (h : Turn [] w (atBlks w.heap.size p i r c) W) {D : Nat} (hD : w.heap.size ≤ D) (hK : W.heap[D]? = some (.deferred (some []))) {tmps : Array Value}
    (h4 : tmps.getD 4 undef = .pointer (some ⟨w.heap.size + 1, 0, none⟩)) (h5 : tmps.getD 5 undef = .pointer (some ⟨w.heap.size + 1 + 1, 0, none⟩)) :
    bodyPostM Fence.wide n Tryd.prog Tryd.f18 (fun e W' => e = .returned (.tuple #[repVal r, .bool c]) ∧ Below w.heap.size w W') Exit.ret { tmps := tmps, defers := [{ target := .collected D, args := #[] }] } W := by
  have T := h.grow (Nat.le_refl _) (atBlks_cells _ _ _ _ _) (grownBy_putObj' W D (.deferred none)) (fun r e => by cases e; exact ⟨hD, _, hK, rfl⟩)
  have hrg : (W.putObj D (.deferred none)).rangeAt (w.heap.size + 1) 0 (i64s r) := range_of_has (c := (i64s r).toArray) (e := 25) (f := (0, 0)) T.has (by simp [atBlks])
  have hb : (W.putObj D (.deferred none)).cell? ⟨w.heap.size + 1 + 1, 0, none⟩ = some (.bool c) := T.has.cell (b := w.heap.size + 1 + 1) (c := #[.bool c]) (e := 4) (f := (0, 0)) (by simp [atBlks]) 0
  refine ⟨by simp, .inl ⟨_, _, rfl, run_takeDeferred hK, ?_⟩⟩
  exact ⟨_, results_cells2 Tryd.results18 _ _ _ _ (i64s r) _ _ h4 hrg Tryd.underlying25 rfl (rep_size (by rw [i64s_length, hr])) h5 (load_bool _ _ _ hb), rfl, T.below⟩

/-- The frame behind the assignment. -/
def atAct (s nb : Nat) (p : Option Addr) (i : Int) (x : Nat × List Int) : Act :=
  { tmps := #[.pointer p, .int .i64 i, undef, .pointer (some ⟨s, 0, none⟩), .pointer (some ⟨s + 1, 0, none⟩), .pointer (some ⟨s + 1 + 1, 0, none⟩), .int .i64 (x.1 : Nat), .pointer (some ⟨nb, 0, none⟩), .pointer p,
      .func (.func 39) #[] #[.pointer (some ⟨s + 1 + 1 + 1, 0, none⟩)], .int .i64 (x.1 : Nat), .agg (i64s x.2).toArray, undef, undef, undef, undef, undef], defers := [] }

set_option maxRecDepth 100000 in
set_option maxHeartbeats 2000000 in
theorem lAt_in (n : Nat) (hn : 3 ≤ n) (p : Option Addr) (nn : Nat) (ks : List (List Int)) (i : Int) (w : World) (hP : KeptAt w.heap.size w p nn ks) :
    CallsIn Fence.wide n Tryd.prog 18 #[.pointer p, .int .i64 i] w fun e W' => e = .returned (.tuple #[repVal ((atOf ks i).getD zeros), .bool (atOf ks i).isSome]) ∧ Below w.heap.size w W' := by
  have h1 : 1 ≤ n := by omega
  have h2 : 1 ≤ n - 1 - 1 := by omega
  have h3 : Fence.wide.fn 18 := trivial
  have h5 : Fence.wide.fn 29 := trivial
  have h7 : Fence.wide.fn 39 := trivial
  have hro : Fence.wide.round = none := rfl
  refine callsIn_of_wp_marks Tryd.func18 rfl h3 ?_ hro
  simp only [Tryd.ntmps18, List.size_toArray, List.length_cons, List.length_nil, Nat.reduceAdd, Nat.reduceSub, Array.replicate_succ, Array.replicate_zero, List.push_toArray, List.append_toArray, List.nil_append, List.cons_append]
  gi_wp2_with (gi_at_call 29; refine (kept_in (n - 1) _ _).mono ?_; rintro e w' ⟨rfl, hw⟩; rw [hw]; clear hw w')
  have hT0 : Turn [] w (atBlks w.heap.size p i zeros false) ((((w.alloc (.cells #[.int .i64 i] 3)).alloc (.cells (i64s zeros).toArray 25)).alloc (.cells #[.bool false] 4)).alloc (.cells #[.pointer p] 33)) := by
    have h := (((((Turn.refl (Has.nil w)).alloc (.cells #[.int .i64 i] 3)).alloc (.cells (i64s zeros).toArray 25)).alloc (.cells #[.bool false] 4)).alloc (.cells #[.pointer p] 33))
    simp only [World.size_alloc] at h
    exact h
  have hsz0 : ((((w.alloc (.cells #[.int .i64 i] 3)).alloc (.cells (i64s zeros).toArray 25)).alloc (.cells #[.bool false] 4)).alloc (.cells #[.pointer p] 33)).heap.size = w.heap.size + 4 := by simp
  rw [zrep] at hT0 hsz0
  obtain ⟨W0, hW0⟩ : ∃ W0, ((((w.alloc (.cells #[.int .i64 i] 3)).alloc (.cells #[.int .i64 0, .int .i64 0, .int .i64 0, .int .i64 0, .int .i64 0, .int .i64 0, .int .i64 0, .int .i64 0, .int .i64 0, .int .i64 0, .int .i64 0, .int .i64 0, .int .i64 0, .int .i64 0, .int .i64 0, .int .i64 0, .int .i64 0, .int .i64 0, .int .i64 0, .int .i64 0, .int .i64 0] 25)).alloc (.cells #[.bool false] 4)).alloc (.cells #[.pointer p] 33)) = W0 := ⟨_, rfl⟩
  rw [hW0] at hT0 hsz0 ⊢
  clear hW0
  have hP0 := hP.below hT0.below
  have hok := hP.ok
  have hl := hP.len
  have hsm := hP.small
  refine wpIn_rangeFunc_lays hro h1 (gf := 39) (lb := #[.pointer (some ⟨w.heap.size + 1 + 1 + 1, 0, none⟩)]) rfl h7 (enters_of Tryd.func39 (by kernel_rfl) rfl)
    (kept_stops (n - 1) (by omega) (w.heap.size + 1 + 1 + 1) w.heap.size p nn ks W0 (by omega) (by omega) (at_box (R := []) hT0) hP0) (fun h k => h.t k)
    (fun W l o o' hl' hwl hc hw => ⟨belowK_b (w := W0) (by omega) W l o o' hl' hwl hc hw, World.cell?_of_block (World.putObj_heap_other (by show w.heap.size + 1 + 1 + 1 ≠ l; omega))⟩) (Below.refl _ _) (fun _ => rfl)
    (atGoes w p i)
    (atStop w p i)
    (fun x a' pre W => atNone i pre ∧ ∃ nb, a' = atAct w.heap.size nb p i x.val ∧ Turn [] w ((nb, .cells (i64s x.val.2).toArray 25) :: atBlks w.heap.size p i zeros false) W)
    (fun s A B row ⟨hT, hx⟩ hg hr => ⟨hT.grow (by omega) (atBlks_cells _ _ _ _ _) hg hr, hx⟩)
    (fun c s A B row ⟨hc, x, hx, hi, hT⟩ hg hr => ⟨hc, x, hx, hi, hT.grow (by omega) (atBlks_cells _ _ _ _ _) hg hr⟩)
    (fun x a' s A B row ⟨hx, nb, ha, hT⟩ hg hr => ⟨hx, nb, ha, hT.grow (by omega) (by
      intro y hy
      rcases List.mem_cons.1 hy with rfl | hy
      · rfl
      · exact atBlks_cells _ _ _ _ _ y hy) hg hr⟩)
    ⟨hT0, fun x hx => by cases hx⟩ ?assign ?body ?done ?stop
  case assign =>
    rintro l pre ⟨⟨k, r⟩, hkr⟩ W ⟨hT, hx⟩ hlt
    have hrok := hok r (List.mem_of_getElem? hkr)
    have hsz2 := rep_size (n := (i64s r).toArray.size) (by rw [List.size_toArray, i64s_length]; exact hrok.len)
    have T1 := hT.alloc (.cells (i64s zeros).toArray 25)
    have hth := T1.has.there (b := W.heap.size) (c := (i64s zeros).toArray) (e := 25) (List.mem_cons_self ..) 0 (i64s r).toArray.size (by rw [List.size_toArray, i64s_length, hrok.len]; decide)
    have hone := i64s_oneCell r
    have T2 := T1.setCells (i64s r) 0
    rw [laidOver_all _ _ (by rw [i64s_length, hrok.len]; rfl)] at T2
    have HT2 := Lib.hid T2
    have HT := Lib.hid hT
    have Hx := Lib.hid hx
    unfold kelArgs repVal
    clear hT T1 T2 hx
    gi_wp2_with (refine wpListIn_by (follows_round _ _ _) rfl (by intro c h; cases h) (wp_store_mid 25 _ _ rfl _ 0 (i64s r).toArray rfl rfl hth hsz2 hone ?_))
    refine ⟨((KeepsOthers.alloc _ _).trans (keepsOthers_setCells _ _ _)).from _, ⟨((Below.refl _ W).alloc HT.out.size _).trans (below_setCells HT.out.size _ _ _), ?_⟩, Hx.out, W.heap.size, rfl, HT2.out⟩
    exact (at_box (R := [_]) HT2.out).trans (at_box (R := []) HT.out).symm
  case body =>
    rintro l pre ⟨⟨k, r⟩, hkr⟩ a' W ⟨hx, nb, rfl, hT⟩ hlt
    have hrok := hok r (List.mem_of_getElem? hkr)
    have hnum := at_num (R := [_]) hT
    have HT := Lib.hid hT
    have Hx := Lib.hid hx
    unfold atAct
    by_cases hk : (k : Int) = i
    · have hb : ((k : Int) == i) = true := beq_iff_eq.2 hk
      have hsz := rep_size (n := (i64s r).length) (by rw [i64s_length]; exact hrok.len)
      have hsz2 := rep_size (n := (i64s r).toArray.size) (by rw [List.size_toArray, i64s_length]; exact hrok.len)
      have hrg := hT.has.range (List.mem_cons_self ..)
      rw [List.toList_toArray] at hrg
      have hth := hT.has.there (b := w.heap.size + 1) (c := (i64s zeros).toArray) (e := 25) (by simp [atBlks]) 0 (i64s r).toArray.size (by rw [List.size_toArray, i64s_length, hrok.len]; decide)
      have hone := i64s_oneCell r
      have T2 := (hT.perm (l2 := (w.heap.size + 1, .cells (i64s zeros).toArray 25) :: (w.heap.size + 1 + 1, .cells #[.bool false] 4) :: (w.heap.size + 1 + 1 + 1, .cells #[.pointer p] 33) :: (w.heap.size, .cells #[.int .i64 i] 3) :: [(nb, .cells (i64s r).toArray 25)]) (by unfold atBlks; generalize (i64s zeros).toArray = Z; generalize (i64s r).toArray = Y; exact perm_of fun c => by simp; omega)).setCells (i64s r) 0
      rw [laidOver_all _ _ (by rw [i64s_length, hrok.len]; rfl)] at T2
      have T3 := (T2.perm (l2 := (w.heap.size + 1 + 1, .cells #[.bool false] 4) :: (w.heap.size + 1, .cells (i64s r).toArray 25) :: (w.heap.size + 1 + 1 + 1, .cells #[.pointer p] 33) :: (w.heap.size, .cells #[.int .i64 i] 3) :: [(nb, .cells (i64s r).toArray 25)]) (by generalize (i64s r).toArray = Y; exact perm_of fun c => by simp; omega))
      have hbc : (W.setCells (w.heap.size + 1) 0 (i64s r)).cell? ⟨w.heap.size + 1 + 1, 0, none⟩ = some (.bool false) := T3.has.cell (List.mem_cons_self ..) 0
      have hbf := T3.has.free (List.mem_cons_self ..) 0
      have HT3 := Lib.hid T3
      clear hT hx T2 T3
      gi_wp2_with (first
        | (refine wpListIn_by (follows_round _ _ _) rfl (by intro c h; cases h) (wp_load_mid 25 _ rfl nb 0 rfl (i64s r) _ hrg Tryd.underlying25 rfl hsz ?_))
        | (refine wpListIn_by (follows_round _ _ _) rfl (by intro c h; cases h) (wp_store_mid 25 _ _ rfl _ 0 (i64s r).toArray rfl rfl hth hsz2 hone ?_))
        | fail)
      have T4 := HT3.out.setCell 0 (.bool true)
      refine ⟨((keepsOthers_setCells _ _ _).trans (KeepsOthers.setCell _ _ _)).from _, rfl, _, List.mem_append_right _ (List.mem_singleton.2 rfl), hk, ?_⟩
      exact (T4.perm (l2 := (nb, .cells (i64s r).toArray 25) :: atBlks w.heap.size p i r true) (by unfold atBlks; generalize (i64s r).toArray = Y; exact perm_of fun c => by simp; omega)).tail
    · have hb : ((k : Int) == i) = false := beq_eq_false_iff_ne.2 hk
      clear hT hx
      gi_wp2
      refine ⟨(KeepsOthers.refl _).from _, KpB.refl _ _ _, HT.out.tail, fun y hy => ?_⟩
      rcases List.mem_append.1 hy with hy | hy
      · exact Hx.out y hy
      · rw [List.mem_singleton.1 hy]
        exact hk
  case done =>
    rintro D ys W hD hys ⟨hT, hx⟩ hK
    have hsz2 := rep_size (n := (i64s zeros).toArray.size) rfl
    have hth := hT.has.there (b := w.heap.size + 1) (c := (i64s zeros).toArray) (e := 25) (by simp [atBlks]) 0 (i64s zeros).toArray.size (by decide)
    have hone := i64s_oneCell zeros
    have T2 := (hT.perm (l2 := (w.heap.size + 1, .cells (i64s zeros).toArray 25) :: (w.heap.size + 1 + 1, .cells #[.bool false] 4) :: (w.heap.size + 1 + 1 + 1, .cells #[.pointer p] 33) :: [(w.heap.size, .cells #[.int .i64 i] 3)]) (by unfold atBlks; generalize (i64s zeros).toArray = Z; exact perm_of fun c => by simp; omega)).setCells (i64s zeros) 0
    rw [laidOver_all _ _ (by rfl)] at T2
    have T3 := (T2.perm (l2 := (w.heap.size + 1 + 1, .cells #[.bool false] 4) :: (w.heap.size + 1, .cells (i64s zeros).toArray 25) :: (w.heap.size + 1 + 1 + 1, .cells #[.pointer p] 33) :: [(w.heap.size, .cells #[.int .i64 i] 3)]) (by generalize (i64s zeros).toArray = Y; exact perm_of fun c => by simp; omega))
    obtain ⟨Z, hZ⟩ : ∃ Z, Z = i64s zeros := ⟨_, rfl⟩
    rw [← hZ] at T3
    have hbc : (W.setCells (w.heap.size + 1) 0 Z).cell? ⟨w.heap.size + 1 + 1, 0, none⟩ = some (.bool false) := T3.has.cell (List.mem_cons_self ..) 0
    have hbf : (W.setCells (w.heap.size + 1) 0 Z).frozen? ⟨w.heap.size + 1 + 1, 0, none⟩ = false := T3.has.free (List.mem_cons_self ..) 0
    have HZ := Lib.hid hZ
    clear hZ
    have hnone := atOf_none hl hys hx
    have Hnone := Lib.hid hnone
    have HT3 := Lib.hid T3
    clear hT hx T2 T3 hnone hys
    gi_wp2_with (first
      | (refine wpListIn_by (follows_wide _ _) rfl (by intro c h; cases h) (wp_store_mid 25 _ _ rfl _ 0 (i64s zeros).toArray rfl rfl hth hsz2 hone ?_); rw [List.toList_toArray, ← HZ.out])
      | fail)
    rw [Hnone.out]
    have T4 := HT3.out.setCell 0 (.bool false)
    have hK2 : ((W.setCells (w.heap.size + 1) 0 Z).setCell ⟨w.heap.size + 1 + 1, 0, none⟩ (.bool false)).heap[D]? = some (.deferred (some [])) := ((keepsOthers_setCells Z 0 W).trans (KeepsOthers.setCell _ ⟨w.heap.size + 1 + 1, 0, none⟩ (.bool false))).same D _ hK rfl
    refine at_end (r := zeros) (c := false) (p := p) (i := i) rfl (T4.perm (l2 := atBlks w.heap.size p i zeros false) ?_) (by omega) hK2 rfl rfl
    unfold atBlks
    rw [← HZ.out]
    generalize Z.toArray = Y
    exact perm_of fun c => by simp; omega
  case stop =>
    rintro D c pre W hD _ ⟨rfl, x, hx, hi, hT⟩ hK
    have Hsome := Lib.hid (atOf_some x hi)
    have HT := Lib.hid hT
    have hxl := (hok _ (List.mem_of_getElem? x.property)).len
    clear hi hx hT
    gi_wp2
    rw [Hsome.out]
    exact at_end hxl HT.out (by omega) hK rfl rfl

/-- At: the i-th of those that are kept. -/
theorem lAt_any (p : Option Addr) (nn : Nat) (ks : List (List Int)) (i : Int) (w : World) (hP : KeptAt w.heap.size w p nn ks) :
    Calls Tryd.prog 18 #[.pointer p, .int .i64 i] w fun e W' => e = .returned (.tuple #[repVal ((atOf ks i).getD zeros), .bool (atOf ks i).isSome]) ∧ Below w.heap.size w W' :=
  (callsIn_wide (n := 3)).1 (lAt_in 3 (Nat.le_refl _) p nn ks i w hP)
end Go.Proofs.YtpnpnajheaijaaaDoor
