/-
  Parts of a slice of reports; the law's slices.
  Conditions: the reports' cells can be read.
-/
import Derived.Test.YtpnpnajheaijaaaDoorLg24
import Derived.Deep.Slices
namespace Go.Proofs.YtpnpnajheaijaaaDoor
open Go Go.RowKit Go.IntWalk

theorem reps_part {xs : List (List Int)} (h : ∀ r ∈ xs, RepOk r) (lo m : Nat) (hm : lo + m ≤ xs.length) {j : Nat} {u : Value} (hj : (reps ((xs.drop lo).take m))[j]? = some u) : (reps xs)[lo * 21 + j]? = some u := by
  have hok : ∀ r ∈ (xs.drop lo).take m, RepOk r := fun r hr => h r (List.mem_of_mem_drop (List.mem_of_mem_take hr))
  have hl : ((xs.drop lo).take m).length = m := by rw [List.length_take, List.length_drop]; omega
  have hlt : j < m * 21 := by rw [← hl, ← reps_length hok]; exact (List.getElem?_eq_some_iff.1 hj).1
  have hjq : j = j / 21 * 21 + j % 21 := (Nat.div_add_mod' j 21).symm
  have h21 : j % 21 < 21 := Nat.mod_lt _ (by omega)
  have hq : j / 21 < m := by omega
  obtain ⟨r, hr⟩ : ∃ r, ((xs.drop lo).take m)[j / 21]? = some r := ⟨_, List.getElem?_eq_getElem (by omega)⟩
  have hr2 : xs[lo + j / 21]? = some r := by
    rw [List.getElem?_take_of_lt hq, List.getElem?_drop] at hr
    exact hr
  rw [hjq, reps_get hok hr h21] at hj
  rw [hjq, show lo * 21 + (j / 21 * 21 + j % 21) = (lo + j / 21) * 21 + j % 21 by omega, reps_get h hr2 h21]
  exact hj

theorem Src.part {w : World} {ao : Option Addr} {n cap : Nat} {xs : List (List Int)} (h : Src w ao n cap 21 (reps xs)) (hx : ∀ r ∈ xs, RepOk r) (hnc : n ≤ cap) {lo hi : Nat} (h1 : lo ≤ hi) (h2 : hi ≤ n) :
    Src w (if cap = lo then ao else ao.map (·.add (lo * 21))) (hi - lo) (cap - lo) 21 (reps ((xs.drop lo).take (hi - lo))) := by
  have hn : xs.length = n := by have := h.len; rw [reps_length hx] at this; omega
  have hok : ∀ r ∈ (xs.drop lo).take (hi - lo), RepOk r := fun r hr => hx r (List.mem_of_mem_drop (List.mem_of_mem_take hr))
  refine ⟨by rw [reps_length hok, List.length_take, List.length_drop]; omega, fun hnil => ?_, fun ad had j u hu => ?_⟩
  · have hao : ao = none := by
      split at hnil
      · exact hnil
      · cases ao with
        | none => rfl
        | some a => cases hnil
    obtain ⟨hn0, hc0⟩ := h.nil hao
    omega
  · split at had
    · have : (xs.drop lo).take (hi - lo) = [] := by rw [show hi - lo = 0 by omega]; rfl
      rw [this] at hu
      cases hu
    · cases ao with
      | none => cases had
      | some a =>
        cases had
        rw [Go.Deep.add_add]
        exact h.at_ a rfl _ _ (reps_part hx lo (hi - lo) (by omega) hu)

theorem slice_lohi_run {o : Oper} {a : Act} {w : World} {x lo hi : Operand} (ho : o.op = .slice 32 x (some lo) (some hi) none) (ao : Option Addr) (n cap l h : Nat) (hx : a.eval x = .slice ao n cap) (hl : a.eval lo = .int .i64 l) (hh : a.eval hi = .int .i64 h) (h1 : l ≤ h) (h2 : h ≤ cap) :
    (execOp a.eval o).run Tryd.prog w = .ok (.value (.slice (if cap = l then ao else ao.map (·.add (l * 21))) (h - l) (cap - l))) w := by
  have h1' : (l : Int) ≤ (h : Int) := by omega
  have h2' : (h : Int) ≤ (cap : Int) := by omega
  unfold execOp
  simp only [ho, hx, Option.map_some, Option.map_none, hl, hh]
  simp [go_sem, h1', h2']
theorem slice_hi_run {o : Oper} {a : Act} {w : World} {x hi : Operand} (ho : o.op = .slice 32 x none (some hi) none) (ao : Option Addr) (n cap h : Nat) (hx : a.eval x = .slice ao n cap) (hh : a.eval hi = .int .i64 h) (h2 : h ≤ cap) :
    (execOp a.eval o).run Tryd.prog w = .ok (.value (.slice (if cap = 0 then ao else ao.map (·.add (0 * 21))) (h - 0) (cap - 0))) w := by
  have h2' : (h : Int) ≤ (cap : Int) := by omega
  unfold execOp
  simp only [ho, hx, Option.map_some, Option.map_none, hh]
  simp [go_sem, h2']
theorem slice_lo_run {o : Oper} {a : Act} {w : World} {x lo : Operand} (ho : o.op = .slice 32 x (some lo) none none) (ao : Option Addr) (n cap l : Nat) (hx : a.eval x = .slice ao n cap) (hl : a.eval lo = .int .i64 l) (h1 : l ≤ n) (h2 : n ≤ cap) :
    (execOp a.eval o).run Tryd.prog w = .ok (.value (.slice (if cap = l then ao else ao.map (·.add (l * 21))) (n - l) (cap - l))) w := by
  have h1' : (l : Int) ≤ (n : Int) := by omega
  unfold execOp
  simp only [ho, hx, Option.map_some, Option.map_none, hl]
  simp [go_sem, h1']

/-- The first h of them, as a slice of its own. -/
theorem slice_hi_ex {ao : Option Addr} {n cap h : Nat} {xs : List (List Int)} (hx : ∀ r ∈ xs, RepOk r) (hnc : n ≤ cap) (hh : h ≤ n) : ∃ av : Option Addr,
    (∀ (o : Oper) (a : Act) (w : World) (x hi : Operand), o.op = .slice 32 x none (some hi) none → a.eval x = .slice ao n cap → a.eval hi = .int .i64 h → (execOp a.eval o).run Tryd.prog w = .ok (.value (.slice av h cap)) w) ∧
    ∀ W, Src W ao n cap 21 (reps xs) → Src W av h cap 21 (reps (xs.take h)) := by
  refine ⟨if cap = 0 then ao else ao.map (·.add (0 * 21)), fun o a w x hi ho h1 h2 => slice_hi_run ho ao n cap h h1 h2 (by omega), fun W hs => ?_⟩
  have := hs.part hx hnc (lo := 0) (hi := h) (Nat.zero_le _) hh
  rw [List.drop_zero, Nat.sub_zero, Nat.sub_zero] at this
  exact this
/-- Those from the l-th to the h-th. -/
theorem slice_lohi_ex {ao : Option Addr} {n cap l h : Nat} {xs : List (List Int)} (hx : ∀ r ∈ xs, RepOk r) (hnc : n ≤ cap) (hl : l ≤ h) (hh : h ≤ n) : ∃ (av : Option Addr) (d c : Nat), l + d = h ∧ d ≤ c ∧ c ≤ cap ∧
    (∀ (o : Oper) (a : Act) (w : World) (x lo hi : Operand), o.op = .slice 32 x (some lo) (some hi) none → a.eval x = .slice ao n cap → a.eval lo = .int .i64 l → a.eval hi = .int .i64 h → (execOp a.eval o).run Tryd.prog w = .ok (.value (.slice av d c)) w) ∧
    ∀ W, Src W ao n cap 21 (reps xs) → Src W av d c 21 (reps ((xs.drop l).take d)) :=
  ⟨_, h - l, cap - l, by omega, by omega, by omega, fun o a w x lo hi ho h1 h2 h3 => slice_lohi_run ho ao n cap l h h1 h2 h3 hl (by omega), fun W hs => hs.part hx hnc hl hh⟩
/-- Those from the l-th on. -/
theorem slice_lo_ex {ao : Option Addr} {n cap l : Nat} {xs : List (List Int)} (hx : ∀ r ∈ xs, RepOk r) (hnc : n ≤ cap) (hl : l ≤ n) (hxl : xs.length = n) : ∃ (av : Option Addr) (d c : Nat), l + d = n ∧ d ≤ c ∧ c ≤ cap ∧
    (∀ (o : Oper) (a : Act) (w : World) (x lo : Operand), o.op = .slice 32 x (some lo) none none → a.eval x = .slice ao n cap → a.eval lo = .int .i64 l → (execOp a.eval o).run Tryd.prog w = .ok (.value (.slice av d c)) w) ∧
    ∀ W, Src W ao n cap 21 (reps xs) → Src W av d c 21 (reps (xs.drop l)) := by
  refine ⟨_, n - l, cap - l, by omega, by omega, by omega, fun o a w x lo ho h1 h2 => slice_lo_run ho ao n cap l h1 h2 hl hnc, fun W hs => ?_⟩
  have := hs.part hx hnc (lo := l) (hi := n) hl (Nat.le_refl _)
  rw [List.take_of_length_le (by rw [List.length_drop]; omega)] at this
  exact this

set_option maxRecDepth 100000 in
theorem rkept_some2 (w : World) (bb off n cap m : Nat) (h0 : 1 ≤ m) (hm : m < n) (hn : n ≤ cap) (hc : n ≤ 281474976710656) : Calls Tryd.prog 16 #[.slice (some ⟨bb, off, none⟩) n cap, .int .i64 m] w fun e w' => e = .returned (.slice (some ⟨bb, off + (n - m) * 21, none⟩) m (cap - (n - m))) ∧ w' = w := by
  have h : (m : Int) < (n : Int) := by omega
  have hw : IntKind.i64.wrap ((n : Int) - (m : Int)) = ((n - m : Nat) : Int) := (i64_in _ (by omega)).trans (by omega)
  have hz : n - (n - m) = m := by omega
  have h1 : n - m ≤ n := by omega
  have h2 : n - m ≤ cap := by omega
  have h3 : ¬ cap = n - m := by omega
  generalize n - m = q at *
  have h4 : (q : Int) ≤ (n : Int) := by omega
  have h5 : (q : Int) ≤ (cap : Int) := by omega
  have h6 : (n : Int) ≤ (cap : Int) := by omega
  go_enter Tryd.func16, Tryd.ntmps16
  go_wp2
  go_ret
  exact ⟨rfl, rfl⟩

/-- Kept, of whatever slice. -/
theorem rkept_any (w : World) (ao : Option Addr) (n cap m : Nat) (h0 : 1 ≤ m) (hnc : n ≤ cap) (hc : n ≤ 281474976710656) (xs : List (List Int)) (hx : ∀ r ∈ xs, RepOk r) (hs : Src w ao n cap 21 (reps xs)) :
    Calls Tryd.prog 16 #[.slice ao n cap, .int .i64 m] w fun e w' => ∃ a' c', e = .returned (.slice a' (min n m) c') ∧ Src w a' (min n m) c' 21 (reps (keptOf m xs)) ∧ w' = w := by
  have hn : xs.length = n := by have := hs.len; rw [reps_length hx] at this; omega
  by_cases hm : n ≤ m
  · refine (rkept_all w ao n cap m hm).mono ?_
    rintro e w' ⟨rfl, hw⟩
    have hk : keptOf m xs = xs := by unfold keptOf; rw [show xs.length - m = 0 by omega]; rfl
    rw [Nat.min_eq_left hm, hk]
    exact ⟨ao, cap, rfl, hs, hw⟩
  · obtain ⟨bb, off, rfl, -⟩ := hs.form (by rw [reps_length hx]; omega)
    refine (rkept_some2 w bb off n cap m h0 (by omega) hnc hc).mono ?_
    rintro e w' ⟨rfl, hw⟩
    have hp := hs.part hx hnc (lo := n - m) (hi := n) (by omega) (Nat.le_refl _)
    rw [if_neg (by omega), show n - (n - m) = m by omega] at hp
    have hk : keptOf m xs = (xs.drop (n - m)).take m := by
      unfold keptOf
      rw [hn, List.take_of_length_le (by rw [List.length_drop]; omega)]
    rw [Nat.min_eq_right (by omega), hk]
    refine ⟨_, _, rfl, ?_, hw⟩
    simp only [Option.map_some, add_lit] at hp
    exact hp
end Go.Proofs.YtpnpnajheaijaaaDoor
