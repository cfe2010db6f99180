/-
  The log: the sum of all.
  Conditions: none.
-/
import Derived.Test.YtpnpnajheaijaaaDoorLg12
namespace Go.Proofs.YtpnpnajheaijaaaDoor
open Go Go.RowKit

theorem sum_size {n : Nat} (h : n = 8) : (Tryd.prog.info? 38).map (·.size) = some n := by rw [h]; kernel_rfl

theorem LogIs.sums {b m : Nat} {xs : List (List Int)} {l R : List Blk} {w : World} (h : LogIs b m xs l) (hH : Has w (l ++ R)) : w.rangeAt b 0 (i64s (sumOf xs)) := by
  obtain ⟨g, cur, c, rfl, -, -, -⟩ := h
  intro j v hv
  rw [Nat.zero_add, hH.cell (b := b) (List.mem_cons_self ..), List.getElem?_toArray, List.getElem?_append_left (List.getElem?_eq_some_iff.1 hv).1]
  exact hv

theorem results_cell {P : Program} {fn : Func} {p : Tmp} {ty : TypeId} (h : fn.results = #[.cell p ty]) (tmps : Array Value) (w : World) (b : Nat) (cs : List Value) (d : TypeDesc)
    (hp : tmps.getD p undef = .pointer (some ⟨b, 0, none⟩)) (hc : w.rangeAt b 0 cs) (hu : P.underlying ty = some d) (hd : d.isRow = true) (hi : (P.info? ty).map (·.size) = some cs.length) :
    (results fn tmps).run P w = .ok (.agg cs.toArray) w := by
  have hp' : tmps[p]?.getD undef = .pointer (some ⟨b, 0, none⟩) := by simpa using hp
  simp [results, h, hp', asAddr, run_loadVar_mid w b 0 ty cs d hc hu hd hi]

set_option maxRecDepth 100000 in
theorem sum_any {b m : Nat} {xs : List (List Int)} {l R : List Blk} (w : World) (h : LogIs b m xs l) (hH : Has w (l ++ R)) :
    Calls Tryd.prog 14 #[.pointer (some ⟨b, 0, none⟩)] w fun e w' => e = .returned (repVal (sumOf xs)) ∧ Turn (l ++ R) w (l ++ R) w' := by
  have T := (Turn.refl hH).alloc (.cells (i64s noSum).toArray 38)
  have hr := h.sums (T.has.perm (l' := l ++ (R ++ [(w.heap.size, .cells (i64s noSum).toArray 38)])) (by generalize (i64s noSum).toArray = Z; exact perm_of fun c => by simp; omega))
  have hl8 : (i64s (sumOf xs)).length = 8 := by rw [i64s_length, sumOf_length]
  have hsz := sum_size (n := (i64s (sumOf xs)).length) hl8
  have hsz2 := sum_size (n := (i64s (sumOf xs)).toArray.size) (by rw [List.size_toArray]; exact hl8)
  have hth := T.has.there (b := w.heap.size) (c := (i64s noSum).toArray) (e := 38) (by simp) 0 (i64s (sumOf xs)).toArray.size (by rw [List.size_toArray, hl8]; decide)
  have hone := i64s_oneCell (sumOf xs)
  have HT := Lib.hid T
  unfold repVal
  generalize i64s (sumOf xs) = S at *
  clear h hH T
  go_enter Tryd.func14, Tryd.ntmps14
  go_wp2_with (first
    | (refine wpList_load_mid rfl 38 _ rfl _ 0 rfl S _ hr Tryd.underlying38 rfl hsz ?_)
    | (refine wpList_store_mid rfl 38 _ _ rfl _ 0 S.toArray rfl rfl hth hsz2 hone ?_)
    | fail)
  have T4 := HT.out.setCells S 0
  rw [laidOver_all _ _ (by rw [hl8]; rfl)] at T4
  refine bodyPost_ret (results_cell Tryd.results14 _ _ _ S _ rfl (T4.has.range (List.mem_cons_self ..)) Tryd.underlying38 rfl hsz) rfl ?_
  exact ⟨rfl, T4.tail⟩

set_option maxRecDepth 100000 in
theorem sum_nil {R : List Blk} (w : World) (hH : Has w R) : Calls Tryd.prog 14 #[.pointer none] w fun e w' => e = .returned (repVal noSum) ∧ Turn R w R w' := by
  have T := (Turn.refl hH).alloc (.cells (i64s noSum).toArray 38)
  have hsz := sum_size (n := (i64s noSum).length) rfl
  have hsz2 := sum_size (n := (i64s noSum).toArray.size) rfl
  have hth := T.has.there (b := w.heap.size) (c := (i64s noSum).toArray) (e := 38) (by simp) 0 (i64s noSum).toArray.size (by decide)
  have hone := i64s_oneCell noSum
  have HT := Lib.hid T
  unfold repVal
  clear hH T
  go_enter Tryd.func14, Tryd.ntmps14
  go_wp2_with (first
    | (refine wpList_store_mid rfl 38 _ _ rfl _ 0 (i64s noSum).toArray rfl rfl hth hsz2 hone ?_)
    | fail)
  have T4 := HT.out.setCells (i64s noSum) 0
  rw [laidOver_all _ _ (by rfl)] at T4
  refine bodyPost_ret (results_cell Tryd.results14 _ _ _ (i64s noSum) _ rfl (T4.has.range (List.mem_cons_self ..)) Tryd.underlying38 rfl hsz) rfl ?_
  exact ⟨rfl, T4.tail⟩
end Go.Proofs.YtpnpnajheaijaaaDoor
