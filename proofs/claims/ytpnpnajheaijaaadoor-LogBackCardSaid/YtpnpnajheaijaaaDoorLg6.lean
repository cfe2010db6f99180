/-
  The reference's log: the line of a report.
  Conditions: the report's numbers are ints; the library's variables hold what the program's text lays.
-/
import Derived.Test.YtpnpnajheaijaaaDoorLg5
import Derived.Deep.MidRow
namespace Go.Proofs.YtpnpnajheaijaaaDoor
open Go Go.RowKit

theorem bytes_append (x y : List UInt8) : (⟨x.toArray⟩ : ByteArray) ++ ⟨y.toArray⟩ = ⟨(x ++ y).toArray⟩ := by
  apply ByteArray.ext
  rw [ByteArray.data_append]
  simp

theorem joinTail_snoc (r : List (List UInt8)) (y : List UInt8) : Lib.joinTail [32] (r ++ [y]) = Lib.joinTail [32] r ++ [32] ++ y := by simp [Lib.joinTail]
theorem join_snoc (x : List UInt8) (r : List (List UInt8)) (y : List UInt8) : Lib.join (x :: (r ++ [y])) [32] = Lib.join (x :: r) [32] ++ [32] ++ y := by
  rw [Lib.join_cons, Lib.join_cons, joinTail_snoc]
  simp

theorem lens_itoa : ∀ (l : List Int), (∀ v ∈ l, I64 v) → Lib.lens (l.map Lib.itoa) ≤ l.length * 21
  | [], _ => by simp [Lib.lens]
  | v :: l, h => by
    have h1 := lens_itoa l (fun x hx => h x (List.mem_cons_of_mem _ hx))
    have h2 := Lib.itoa_length_le v (h v (by simp)).1 (h v (by simp)).2
    simp only [Lib.lens, List.map_cons, List.sum_cons, List.length_cons] at h1 ⊢
    omega

theorem line_short (r : List Int) (h : ∀ v ∈ r, I64 v) : (line r).length ≤ 2 + 22 * r.length := by
  unfold line
  rw [Lib.join_length]
  have h1 := lens_itoa r h
  simp only [Lib.lens, List.map_cons, List.sum_cons, List.length_map, List.length_cons, List.length_nil] at h1 ⊢
  have : gc.length = 2 := rfl
  omega

theorem i64s_length (r : List Int) : (i64s r).length = r.length := by simp [i64s]
theorem rep_size {n : Nat} (h : n = 21) : (Tryd.prog.info? 25).map (·.size) = some n := by rw [h]; kernel_rfl
theorem range_of_has {w : World} {l : List Blk} {b : Nat} {c : Array Value} {e : TypeId} {f : Nat × Nat} (h : Has w l) (hm : (b, Obj.cells c e f) ∈ l) : w.rangeAt b 0 c.toList := fun j v hv => by
  rw [Nat.zero_add, h.cell hm j, ← Array.getElem?_toList]
  exact hv

/-- Where the numbers lie. -/
def NumsIn (w0 : World) (r : List Int) (l : List Blk) (v3 v4 : Value) (w : World) : Prop :=
  v3 = .string ⟨#[103, 99]⟩ ∧ ∃ g cap l1, v4 = .slice (some ⟨g, 0, none⟩) 21 cap ∧ Row 3 1 (some ⟨g, 0, none⟩) 21 cap (i64s r) l1 ∧ Turn [] w0 (l1 ++ l) w

set_option maxRecDepth 100000 in
set_option maxHeartbeats 3200000 in
theorem rline_any {L : List Blk} {w0 w : World} (hE : Env w0) (T : Turn [] w0 L w) (r : List Int) (hr : RepOk r) :
    Calls Tryd.prog 11 #[repVal r] w fun e w' => e = .returned (.string ⟨(line r).toArray⟩) ∧ Turn [] w0 L w' := by
  have hnum := fun (W : World) (L' : List Blk) (h : Has W L') => rnumbers_any W h r hr
  have Hnum := Lib.hid hnum
  have T1 := T.alloc (.cells (i64s r).toArray 25)
  have HT1 := Lib.hid T1
  have HR := Lib.hid hr
  have hlen := hr.len
  clear hnum T1
  unfold repVal
  go_enter Tryd.func11, Tryd.ntmps11
  go_upto_region 2 with fail
  go_cut [3, 4] (fun v3 v4 wc => NumsIn w0 r ((w.heap.size, .cells (i64s r).toArray 25) :: L) v3 v4 wc)
  case first =>
    have hrg : (w.alloc (.cells (i64s r).toArray 25)).rangeAt w.heap.size 0 (i64s r) := range_of_has HT1.out.has (List.mem_cons_self ..)
    have hsz := rep_size (n := (i64s r).length) (by rw [i64s_length]; exact hlen)
    go_wp2_with (first
      | (refine wpList_load_mid rfl 25 _ rfl _ 0 rfl (i64s r) _ hrg Tryd.underlying25 rfl hsz ?_)
      | (go_at_call 27; refine (Hnum.out _ _ HT1.out.has).mono ?_; rintro e w1 ⟨g, cap, l1, rfl, hrow, U⟩)
      | fail)
    go_meet
    case rel => exact ⟨rfl, g, cap, l1, rfl, hrow, HT1.out.trans U⟩
  case rest =>
    as_aux_lemma =>
    obtain ⟨rfl, g, cap, l1, rfl, hrow, T2⟩ := hcut
    generalize hBX : (w.heap.size, Obj.cells (i64s r).toArray 25 (0, 0)) = BX at *
    have Hrow := Lib.hid hrow
    have HT2 := Lib.hid T2
    clear hrow T2 hBX HT1 Hnum
    go_wp2_with fail
    go_loopw [3, 5] (fun v3 v5 wr => ∃ k : Nat, k ≤ 21 ∧ v5 = .int .i64 k ∧ v3 = .string ⟨(Lib.join (gc :: (r.take k).map Lib.itoa) [32]).toArray⟩ ∧ Turn [] w0 (l1 ++ (BX :: L)) wr) (fun _ v5 _ => 21 - (intOf v5).toNat)
    case atStart => exact ⟨0, Nat.zero_le _, rfl, rfl, HT2.out⟩
    case round =>
      clear HT2
      obtain ⟨k, hk, rfl, rfl, V⟩ := hrel
      by_cases hlt : k < 21
      · have hlt' : (k : Int) < 21 := by omega
        obtain ⟨v, hv⟩ : ∃ v, r[k]? = some v := ⟨r[k]'(by omega), List.getElem?_eq_getElem _⟩
        have hc1 := (Hrow.out.cell V.has k (by omega)).trans (i64s_at hv)
        have hiv := HR.out.ok v (List.mem_of_getElem? hv)
        have htk : Lib.join (gc :: (r.take (k + 1)).map Lib.itoa) [32] = Lib.join (gc :: (r.take k).map Lib.itoa) [32] ++ [32] ++ Lib.itoa v := by
          rw [List.take_add_one, hv, List.map_append]
          exact join_snoc _ _ _
        have hsz : (Lib.join (gc :: (r.take k).map Lib.itoa) [32]).length ≤ 600 := by
          have := line_short (r.take k) (fun x hx => HR.out.ok x (List.mem_of_mem_take hx))
          unfold line at this
          rw [List.length_take] at this
          omega
        have hiz := Lib.itoa_length_le v hiv.1 hiv.2
        have Htk := Lib.hid htk
        have HV := Lib.hid V
        clear htk hv
        generalize hX : Lib.join (gc :: (r.take k).map Lib.itoa) [32] = X at *
        have HX := Lib.hid hX
        have hs1 : (⟨X.toArray⟩ : ByteArray).size = X.length := by simp [ByteArray.size]
        have hs2 : (⟨(Lib.itoa v).toArray⟩ : ByteArray).size = (Lib.itoa v).length := by simp [ByteArray.size]
        clear hX
        go_wp2_with (first
          | (go_at_call 24; refine (itoa_any hE HV.out v hiv).mono ?_; rintro e w2 ⟨rfl, V2⟩)
          | fail)
        go_roundw
        case rel => exact ⟨k + 1, by omega, by go_num, by rw [Htk.out, ← bytes_append, ← bytes_append], V2⟩
        case measure => simp [intOf]; omega
      · have hlt' : ¬ (k : Int) < 21 := by omega
        have hke : k = 21 := by omega
        have hfull : r.take k = r := List.take_of_length_le (by omega)
        rw [hfull]
        clear hfull
        have HVe := Lib.hid V
        clear V
        go_wp2
        go_ret
        exact ⟨rfl, (HVe.out.perm (l2 := (l1 ++ [BX]) ++ L) (perm_of fun c => by simp)).drop⟩
end Go.Proofs.YtpnpnajheaijaaaDoor
