/-
  skerrylaw16: the steps of a script as they lie in memory; Long and put.
  Conditions: the steps can be read.
-/
import Derived.Test.YtinpkimflcmkgaaWg2
namespace Go.Proofs.Ytinpkimflcmkgaa
open Go Go.RowKit

structure WStep where
  act : Int
  k : Int
  x : Int
  addr : Int
  la : Option Addr
  ln : Nat
  lc : Nat
  ys : List Int

/-- A slice of steps that can be read, and each step's list. -/
structure WStepsAt (w : World) (a : Option Addr) (n : Nat) (L : List WStep) : Prop where
  len : L.length = n
  nil : a = none → n = 0
  at_ : ∀ ad, a = some ad → ∀ (i : Nat) (s : WStep), L[i]? = some s → w.cell? (ad.add (i * 5)) = some (.int .i64 s.act) ∧ w.cell? (ad.add (i * 5 + 1)) = some (.int .i64 s.k) ∧ w.cell? (ad.add (i * 5 + 2)) = some (.int .u64 s.x) ∧ w.cell? (ad.add (i * 5 + 3)) = some (.int .u64 s.addr) ∧ w.cell? (ad.add (i * 5 + 4)) = some (.slice s.la s.ln s.lc)
  src : ∀ (i : Nat) (s : WStep), L[i]? = some s → Src w s.la s.ln s.lc 1 (w64s s.ys)
  small : ∀ (i : Nat) (s : WStep), L[i]? = some s → s.ln ≤ 17592186044416
  few : n ≤ 17592186044416

structure WStepCells (w : World) (b o : Nat) (s : WStep) : Prop where
  c0 : w.cell? ⟨b, o, none⟩ = some (.int .i64 s.act)
  c1 : w.cell? ⟨b, o + 1, none⟩ = some (.int .i64 s.k)
  c2 : w.cell? ⟨b, o + 2, none⟩ = some (.int .u64 s.x)
  c3 : w.cell? ⟨b, o + 3, none⟩ = some (.int .u64 s.addr)
  c4 : w.cell? ⟨b, o + 4, none⟩ = some (.slice s.la s.ln s.lc)

theorem WStepsAt.cells {w : World} {a : Option Addr} {n : Nat} {L : List WStep} (h : WStepsAt w a n L) {wr : World} {l : List Blk} (T : Turn [] w l wr) (k : Nat) (hk : k < n) :
    ∃ b off s, a = some ⟨b, off, none⟩ ∧ L[k]? = some s ∧ WStepCells wr b (off + k * 5) s ∧ b < w.heap.size := by
  cases a with
  | none =>
    have := h.nil rfl
    omega
  | some ad =>
    obtain ⟨s, hx⟩ : ∃ x, L[k]? = some x := ⟨L[k]'(by rw [h.len]; exact hk), List.getElem?_eq_getElem _⟩
    obtain ⟨s0, hx0⟩ : ∃ x, L[0]? = some x := ⟨L[0]'(by rw [h.len]; omega), List.getElem?_eq_getElem _⟩
    have h0 := (h.at_ ad rfl 0 s0 hx0).1
    have h0' : ad.add (0 * 5) = ad := by unfold Addr.add; simp
    rw [h0'] at h0
    have hs := spot_of_cell h0
    obtain ⟨b, off, spot⟩ := ad
    obtain rfl : spot = none := hs
    obtain ⟨h1, h2, h3, h4, h5⟩ := h.at_ _ rfl k s hx
    rw [add_lit] at h1 h2 h3 h4 h5
    have hlt := World.block_lt_of_cell? w _ h1
    have go : ∀ (o : Nat) (v : Value), w.cell? ⟨b, o, none⟩ = some v → wr.cell? ⟨b, o, none⟩ = some v := fun o v hv => (T.cellOld (World.block_lt_of_cell? w _ hv)).trans hv
    exact ⟨b, off, s, rfl, hx, ⟨go _ _ h1, by rw [Nat.add_assoc]; exact go _ _ h2, by rw [Nat.add_assoc]; exact go _ _ h3, by rw [Nat.add_assoc]; exact go _ _ h4, by rw [Nat.add_assoc]; exact go _ _ h5⟩, hlt⟩

/-- The list of each step that is played is short. -/
def LongPost2 (w : World) (n : Nat) (L : List WStep) (e : Ending) (w' : World) : Prop := ∃ r, e = .returned (.bool r) ∧ w = w' ∧ (r = false → n ≤ 200 ∧ ∀ (i : Nat) (s : WStep), L[i]? = some s → s.ln ≤ 2000)

set_option maxRecDepth 100000 in
theorem long16_any (w : World) {a : Option Addr} {n c : Nat} {L : List WStep} (h : WStepsAt w a n L) :
    Calls Try.prog 28 #[.slice a n c] w (LongPost2 w n L) := by
  have hn := h.few
  go_enter Try.func28, Try.ntmps28
  go_wp2_with fail
  go_loop [3, 4] (fun m i => ∃ (k q : Nat), k ≤ n ∧ k ≤ 200 ∧ i = .int .i64 k ∧ m = .int .i64 q ∧ n ≤ q ∧ q ≤ n + k * 2199023255552 ∧ ∀ (j : Nat) (s : WStep), j < k → L[j]? = some s → s.ln / 8 + n ≤ q) (fun _ i => 201 - (intOf i).toNat)
  case atStart => exact ⟨0, n, Nat.zero_le _, Nat.zero_le _, rfl, rfl, Nat.le_refl _, by omega, fun j s hj => absurd hj (Nat.not_lt_zero _)⟩
  case round =>
    obtain ⟨k, q, hk, hk2, rfl, rfl, hq1, hq2, hall⟩ := hrel
    have Hall := Lib.hid hall
    clear hall
    by_cases hlt : k < n ∧ k < 200
    · obtain ⟨hlt, hlt2⟩ := hlt
      have hlt' : (k : Int) < (n : Int) := by omega
      have hlt2' : (k : Int) < 200 := by omega
      obtain ⟨b, off, s, rfl, hs, ⟨c0, c1, c2, c3, c4⟩, -⟩ := h.cells (Turn.refl (Has.nil w)) k hlt
      have hsm := h.small k s hs
      have Hs := Lib.hid hs
      clear hs
      have hd : s.ln / 8 ≤ 2199023255552 := by omega
      go_wp2
      go_round
      case rel =>
        refine ⟨k + 1, q + s.ln / 8, by omega, by omega, by go_num, by go_num, by omega, by omega, fun j t hj ht => ?_⟩
        by_cases hjk : j = k
        · subst hjk
          rw [Hs.out] at ht; cases ht
          omega
        · have := Hall.out j t (by omega) ht
          omega
      case measure => simp [intOf]; omega
    · by_cases hlt3 : k < n
      · have hk200 : k = 200 := by omega
        have Hk := Lib.hid hk200
        have hlt3' : (k : Int) < (n : Int) := by omega
        have hge : ¬ (k : Int) < 200 := by omega
        have hqn : 200 < q := by omega
        clear hk200
        go_wp2
        go_ret
        exact ⟨_, rfl, rfl, fun h => by rw [decide_eq_false_iff_not] at h; omega⟩
      · have hge : ¬ (k : Int) < (n : Int) := by omega
        by_cases hq : 200 < q
        · go_wp2
          go_ret
          exact ⟨_, rfl, rfl, fun h => by rw [decide_eq_false_iff_not] at h; omega⟩
        · go_wp2
          go_ret
          refine ⟨_, rfl, rfl, fun _ => ⟨by omega, fun i s hs => ?_⟩⟩
          have := Hall.out i s (by have := (List.getElem?_eq_some_iff.1 hs).1; have := h.len; omega) hs
          omega

def PutListPost (L : List Blk) (w : World) (e : Ending) (w' : World) : Prop :=
  ∃ (ys : List Int) (a : Option Addr) (p : Nat) (l' : List Blk), e = .returned (.slice a ys.length p) ∧ Row 31 1 a ys.length p (w64s ys) l' ∧ Turn L w (l' ++ L) w'

theorem oneCell_w64s (ws : List Int) : ∀ u ∈ w64s ws, u.oneCell' = true := by
  intro u hu
  obtain ⟨x, _, rfl⟩ := List.mem_map.1 hu
  rfl
theorem w64s_length (ws : List Int) : (w64s ws).length = ws.length := by simp [w64s]
theorem w64s_set (ws : List Int) (k : Nat) (v : Int) : w64s (ws.set k v) = (w64s ws).set k (.int .u64 v) := by simp [w64s, List.map_set]

set_option maxRecDepth 100000 in
theorem put16_any (w : World) {L : List Blk} (hH : Has w L) {ar : Option Addr} {n c : Nat} {rs : List Int} (hr : Src w ar n c 1 (w64s rs)) (hn : n ≤ 4096) (s : WStep) (hs : Src w s.la s.ln s.lc 1 (w64s s.ys)) (hsn : s.ln ≤ 2000) :
    Calls Try.prog 34 #[.slice ar n c, .agg #[.int .i64 s.act, .int .i64 s.k, .int .u64 s.x, .int .u64 s.addr, .slice s.la s.ln s.lc]] w (PutListPost L w) := by
  have T0 := (Turn.refl hH).alloc (.cells #[.int .i64 s.act, .int .i64 s.k, .int .u64 s.x, .int .u64 s.addr, .slice s.la s.ln s.lc] 62)
  have hr1 : rs.length = n := by have := hr.len; simp [w64s] at this; exact this
  have hy1 : s.ys.length = s.ln := by have := hs.len; simp [w64s] at this; exact this
  have hbox : ∀ (W : World) (X : List Blk), Has W ((w.heap.size, .cells #[.int .i64 s.act, .int .i64 s.k, .int .u64 s.x, .int .u64 s.addr, .slice s.la s.ln s.lc] 62) :: X) → W.cell? ⟨w.heap.size, 1, none⟩ = some (.int .i64 s.k) ∧ W.cell? ⟨w.heap.size, 4, none⟩ = some (.slice s.la s.ln s.lc) :=
    fun W X hW => ⟨hW.cell (List.mem_cons_self ..) 1, hW.cell (List.mem_cons_self ..) 4⟩
  have Hbox := Lib.hid hbox
  have hrs := hr.alloc (.cells #[.int .i64 s.act, .int .i64 s.k, .int .u64 s.x, .int .u64 s.addr, .slice s.la s.ln s.lc] 62)
  have hss := hs.alloc (.cells #[.int .i64 s.act, .int .i64 s.k, .int .u64 s.x, .int .u64 s.addr, .slice s.la s.ln s.lc] 62)
  have h63 : 0 + n ≤ maxLen := by unfold maxLen; omega
  have hby : (0 + n) * 8 ≤ 140737488355328 := by omega
  have h63' : 0 + s.ln ≤ maxLen := by unfold maxLen; omega
  have hby' : (0 + s.ln) * 8 ≤ 140737488355328 := by omega
  have Hr1 := Lib.hid hr1
  have Hy1 := Lib.hid hy1
  have Hs := Lib.hid hs
  clear hbox hr1 hy1 hr hs
  by_cases hk : (s.k.tmod 2 != 0) = true
  · obtain ⟨c1, c4⟩ := Hbox.out _ _ T0.has
    go_enter Try.func34, Try.ntmps34
    go_wp2_with (at_builtin; refine wpList_append_src rfl _ _ rfl el_w64 rfl rfl (Row.nil _ _) (R := (w.heap.size, .cells #[.int .i64 s.act, .int .i64 s.k, .int .u64 s.x, .int .u64 s.addr, .slice s.la s.ln s.lc] 62) :: L) T0.has hss (oneCell_w64s s.ys) h63' hby' ?_; intro a1 p1 l1 w1 hr1 T1; simp only [Nat.zero_add, List.nil_append] at hr1 T1)
    go_ret
    refine ⟨s.ys, a1, p1, l1, ?_, ?_, ?_⟩
    · rw [Hy1.out]; rfl
    · rw [Hy1.out]; exact hr1
    · exact ((T0.trans T1).perm (l2 := (w.heap.size, .cells #[.int .i64 s.act, .int .i64 s.k, .int .u64 s.x, .int .u64 s.addr, .slice s.la s.ln s.lc] 62) :: (l1 ++ L)) (perm_of fun c => by simp; omega)).tail
  · have hk' : (s.k.tmod 2 != 0) = false := by simpa using hk
    clear hk
    obtain ⟨c1, c4⟩ := Hbox.out _ _ T0.has
    go_enter Try.func34, Try.ntmps34
    go_wp2_with (at_builtin; refine wpList_append_src rfl _ _ rfl el_w64 rfl rfl (Row.nil _ _) (R := (w.heap.size, .cells #[.int .i64 s.act, .int .i64 s.k, .int .u64 s.x, .int .u64 s.addr, .slice s.la s.ln s.lc] 62) :: L) T0.has hrs (oneCell_w64s rs) h63 hby ?_; intro a1 p1 l1 w1 hr1 T1; simp only [Nat.zero_add, List.nil_append] at hr1 T1)
    generalize hBX : (w.heap.size, Obj.cells #[.int .i64 s.act, .int .i64 s.k, .int .u64 s.x, .int .u64 s.addr, .slice s.la s.ln s.lc] 62) = bx at *
    have HBX := Lib.hid hBX
    have hT1 := T0.trans T1
    have HT1 := Lib.hid hT1
    have Hr := Lib.hid hr1
    clear hBX c1 c4 hT1
    clear hr1 T1 T0 hrs hss
    go_loopw [6] (fun i wr => ∃ (k : Nat) (ys : List Int) (lr : List Blk), i = .int .i64 k ∧ k ≤ n ∧ ys.length = n ∧ Row 31 1 a1 n p1 (w64s ys) lr ∧ Turn L w (lr ++ (bx :: L)) wr) (fun i _ => n + 1 - (intOf i).toNat)
    case atStart => exact ⟨0, rs, l1, rfl, Nat.zero_le _, Hr1.out, Hr.out, HT1.out⟩
    case round =>
      clear Hr HT1
      obtain ⟨k, ys, lr, rfl, hk, hyl, hrow, T⟩ := hrel
      have HRet := Lib.hid (show PutListPost L w (.returned (.slice a1 n p1)) wr from ⟨ys, a1, p1, lr, by rw [hyl], by rw [hyl]; exact hrow, (T.perm (l2 := bx :: (lr ++ L)) (perm_of fun c => by simp; omega)).tail⟩)
      have hB := T.has.perm (l' := bx :: (lr ++ L)) (perm_of fun c => by simp; omega)
      obtain ⟨-, c4⟩ := Hbox.out wr _ hB
      by_cases hlt : k < n
      · have hlt' : (k : Int) < (n : Int) := by omega
        by_cases hlx : k < s.ln
        · have hlx' : (k : Int) < (s.ln : Int) := by omega
          obtain ⟨v, hv⟩ : ∃ v, s.ys[k]? = some v := ⟨s.ys[k]'(by have := Hy1.out; omega), List.getElem?_eq_getElem _⟩
          have hsw := Hs.out.turn (T.perm (l2 := (lr ++ [bx]) ++ L) (perm_of fun c => by simp)) hH
          obtain ⟨bs, os, hla, hat⟩ := hsw.form (by have := Hy1.out; rw [w64s_length]; omega)
          have hcs := hat k (.int .u64 v) (by simp only [w64s, List.getElem?_map, hv, Option.map_some])
          clear hat hsw hv
          obtain ⟨g, cur, rfl, rfl, -, -⟩ := hrow.some_of (by omega)
          obtain ⟨u, hu⟩ : ∃ u, ys[k]? = some u := ⟨ys[k]'(by omega), List.getElem?_eq_getElem _⟩
          have hc := (hrow.cell T.has k (by omega)).trans (show (w64s ys)[k]? = some (.int .u64 u) by simp [w64s, hu])
          have hf := hrow.free T.has k
          clear hu hB
          rw [hla] at c4
          by_cases hz : (u != 0) = true
          · go_wp2
            go_roundw
            case rel => exact ⟨k + 1, ys.set k v, _, by go_num, by omega, by simpa using hyl, by rw [w64s_set]; exact hrow.set k (.int .u64 v), T.setCell k (.int .u64 v)⟩
            case measure => simp [intOf]; omega
          · have hz' : (u != 0) = false := by simpa using hz
            clear hz
            go_wp2
            go_roundw
            case rel => exact ⟨k + 1, ys, _, by go_num, by omega, hyl, hrow, T⟩
            case measure => simp [intOf]; omega
        · have hlx' : ¬ (k : Int) < (s.ln : Int) := by omega
          go_wp2
          go_ret
          exact HRet.out
      · have hlt' : ¬ (k : Int) < (n : Int) := by omega
        go_wp2
        go_ret
        exact HRet.out
end Go.Proofs.Ytinpkimflcmkgaa
