/-
  The log: a report as a value; its line.
  Conditions: the report's numbers are ints; the library's variables hold what the program's text lays.
-/
import Derived.Test.YtpnpnajheaijaaaDoorLg3
namespace Go.Proofs.YtpnpnajheaijaaaDoor
open Go Go.RowKit

def i64s (xs : List Int) : List Value := xs.map (Value.int .i64)
/-- A report: its numbers, in the order of its fields. -/
def repVal (r : List Int) : Value := .agg (i64s r).toArray
structure RepOk (r : List Int) : Prop where
  len : r.length = 21
  ok : ∀ v ∈ r, I64 v

theorem i64s_at {r : List Int} {k : Nat} {v : Int} (h : r[k]? = some v) : (i64s r)[k]? = some (.int .i64 v) := by simp [i64s, h]
theorem ptrs_at (b o n k : Nat) (h : k < n) : (ptrs b o n)[k]? = some (.pointer (some ⟨b, o + k, none⟩)) := by simp [ptrs, h]

theorem el_str : Elem Tryd.prog 49 9 1 16 (.string ByteArray.empty) := Elem.of Tryd.underlying49 (by kernel_rfl) rfl

set_option maxRecDepth 100000 in
set_option maxHeartbeats 3200000 in
theorem line_any {L : List Blk} {w0 w : World} (hE : Env w0) (T : Turn [] w0 L w) (r : List Int) (hr : RepOk r) :
    Calls Tryd.prog 10 #[repVal r] w fun e w' => e = .returned (.string ⟨(line r).toArray⟩) ∧ Turn [] w0 L w' := by
  unfold repVal
  have T1 := (T.alloc (.cells (i64s r).toArray 25)).alloc (.cells #[.string ⟨#[103, 99]⟩] 9)
  rw [World.size_alloc] at T1
  go_enter Tryd.func10, Tryd.ntmps10
  go_wp2_with fail
  refine (numbers_any _ T1.has _).mono ?_
  rintro e w1 ⟨g, cap, l1, rfl, hrow, U⟩
  have T2 := T1.trans U
  clear U
  have hbox : ∀ (W : World) (X : List Blk), Turn [] w0 (X ++ ((w.heap.size, .cells (i64s r).toArray 25) :: L)) W → ∀ (k : Nat) (v : Int), r[k]? = some v → W.cell? ⟨w.heap.size, k, none⟩ = some (.int .i64 v) := by
    intro W X V k v hv
    rw [V.has.cell (b := w.heap.size) (c := (i64s r).toArray) (e := 25) (f := (0, 0)) (by simp) k, List.getElem?_toArray]
    exact i64s_at hv
  have Hbox := Lib.hid hbox
  have Hrow := Lib.hid hrow
  have hT3 := T2.perm (l2 := [(w.heap.size + 1, .cells #[.string ⟨#[103, 99]⟩] 9)] ++ (l1 ++ ((w.heap.size, .cells (i64s r).toArray 25) :: L))) (perm_of fun c => by simp; omega)
  have HT3 := Lib.hid hT3
  generalize hBX : (w.heap.size, Obj.cells (i64s r).toArray 25 (0, 0)) = BX at *
  clear T1 T2 hT3 hbox hrow hBX
  have hlen := hr.len
  go_wp2_with fail
  go_loopw [3, 9] (fun v3 v9 wr => ∃ (k : Nat) (a3 : Option Addr) (p3 : Nat) (lr : List Blk), k ≤ 21 ∧ v9 = .int .i64 k ∧ v3 = .slice a3 (k + 1) p3 ∧ Row 9 1 a3 (k + 1) p3 (strs (gc :: (r.take k).map Lib.itoa)) lr ∧ Turn [] w0 (lr ++ (l1 ++ (BX :: L))) wr) (fun _ v9 _ => 21 - (intOf v9).toNat)
  case atStart => exact ⟨0, _, _, _, Nat.zero_le _, rfl, rfl, Row.lit (w.heap.size + 1) #[.string ⟨#[103, 99]⟩] 1 rfl (by unfold maxLen; omega), HT3.out⟩
  case round =>
    clear HT3
    obtain ⟨k, a3, p3, lr, hk, rfl, rfl, hr3, V⟩ := hrel
    by_cases hlt : k < 21
    · have hlt' : (k : Int) < 21 := by omega
      obtain ⟨v, hv⟩ : ∃ v, r[k]? = some v := ⟨r[k]'(by omega), List.getElem?_eq_getElem _⟩
      have hc1 := (Hrow.out.cell (V.perm (l2 := l1 ++ (lr ++ (BX :: L))) (perm_of fun c => by simp; omega)).has k (by omega)).trans (ptrs_at w.heap.size 0 21 k hlt)
      rw [Nat.zero_add] at hc1
      have hc2 := Hbox.out wr (lr ++ l1) (V.perm (l2 := (lr ++ l1) ++ (BX :: L)) (perm_of fun c => by simp)) k v hv
      have hiv := hr.ok v (List.mem_of_getElem? hv)
      have htk : gc :: (r.take (k + 1)).map Lib.itoa = (gc :: (r.take k).map Lib.itoa) ++ [Lib.itoa v] := by
        rw [List.take_add_one, hv, List.map_append]
        rfl
      have Htk := Lib.hid htk
      have HV := Lib.hid V
      have h63 : k + 1 + 1 ≤ maxLen := by unfold maxLen; omega
      clear htk hv
      go_wp2_with (first
        | (go_at_call 24; refine (itoa_any hE HV.out v hiv).mono ?_; rintro e w2 ⟨rfl, V2⟩)
        | (at_builtin; refine wpList_append_row rfl _ _ rfl el_str rfl hr3 (R := (w2.heap.size, .cells #[.string ⟨(Lib.itoa v).toArray⟩] 9) :: (l1 ++ (BX :: L))) ((V2.alloc _).perm (perm_of fun c => by simp; omega)).has rfl (news := [.string ⟨(Lib.itoa v).toArray⟩]) rfl (news_of (heap_alloc_new _ _)) (by simp [Value.oneCell']) h63 (by omega) ?_; intro a4 p4 l4 w4 hr4 V4 hno; have V5 := ((V2.alloc (.cells #[.string ⟨(Lib.itoa v).toArray⟩] 9)).perm (l2 := lr ++ ((w2.heap.size, .cells #[.string ⟨(Lib.itoa v).toArray⟩] 9) :: (l1 ++ (BX :: L)))) (perm_of fun c => by simp; omega)).trans V4)
        | fail)
      go_roundw
      case rel =>
        refine ⟨k + 1, a4, p4, l4, by omega, by go_num, rfl, ?_, (V5.perm (l2 := (w2.heap.size, .cells #[.string ⟨(Lib.itoa v).toArray⟩] 9) :: (l4 ++ (l1 ++ (BX :: L)))) (perm_of fun c => by simp; omega)).tail⟩
        rw [Htk.out]
        unfold strs at hr4 ⊢
        rw [List.map_append]
        exact hr4
      case measure => simp [intOf]; omega
    · have hke : k = 21 := by omega
      subst hke
      rw [List.take_of_length_le (by omega)] at hr3
      have hj : (Lib.join (gc :: r.map Lib.itoa) [32]).length ≤ 140737488355328 := by
        rw [Lib.join_length]
        have hb : ∀ (l : List Int), (∀ v ∈ l, I64 v) → Lib.lens (l.map Lib.itoa) ≤ l.length * 21 := by
          intro l
          induction l with
          | nil => intro _; simp [Lib.lens]
          | cons v l ih =>
            intro h
            have h1 := ih (fun x hx => h x (List.mem_cons_of_mem _ hx))
            have h2 := Lib.itoa_length_le v (h v (by simp)).1 (h v (by simp)).2
            simp only [Lib.lens, List.map_cons, List.sum_cons, List.length_cons] at h1 ⊢
            omega
        have h1 := hb r hr.ok
        simp only [Lib.lens, List.map_cons, List.sum_cons, List.length_map, List.length_cons, List.length_nil] at h1 ⊢
        have : gc.length = 2 := rfl
        omega
      have hjoin := join_any V (gc :: r.map Lib.itoa) hr3 (by omega) (by omega) hj
      have Hj := Lib.hid hjoin
      clear hjoin hj
      go_wp2_with (go_at_call 26; refine Hj.out.mono ?_; rintro e w5 ⟨rfl, V5⟩)
      go_ret
      exact ⟨rfl, (V5.perm (l2 := (lr ++ (l1 ++ [BX])) ++ L) (perm_of fun c => by simp)).drop⟩
end Go.Proofs.YtpnpnajheaijaaaDoor
