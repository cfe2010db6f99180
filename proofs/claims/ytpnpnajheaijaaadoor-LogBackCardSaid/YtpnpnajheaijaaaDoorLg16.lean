/-
  The log: Add, reports behind the others.
  Conditions: the reports' cells can be read all along.
-/
import Derived.Test.YtpnpnajheaijaaaDoorLg15
namespace Go.Proofs.YtpnpnajheaijaaaDoor
open Go Go.RowKit

set_option maxRecDepth 100000 in
theorem lAdd_nil (w : World) (ao : Option Addr) (n cap : Nat) : Calls Tryd.prog 13 #[.pointer none, .slice ao n cap] w fun e w' => e = .returned (.int .i64 1) ∧ w' = w := by
  go_enter Tryd.func13, Tryd.ntmps13
  go_wp2
  go_ret
  exact ⟨rfl, rfl⟩

theorem zrep : ((i64s zeros).toArray : Array Value) = #[.int .i64 0, .int .i64 0, .int .i64 0, .int .i64 0, .int .i64 0, .int .i64 0, .int .i64 0, .int .i64 0, .int .i64 0, .int .i64 0, .int .i64 0, .int .i64 0, .int .i64 0, .int .i64 0, .int .i64 0, .int .i64 0, .int .i64 0, .int .i64 0, .int .i64 0, .int .i64 0, .int .i64 0] := rfl

set_option maxRecDepth 100000 in
set_option maxHeartbeats 1600000 in
theorem lAdd_any {b m : Nat} {xs : List (List Int)} {l R : List Blk} (w : World) (h : LogIs b m xs l) (h0 : 1 ≤ m) (hm : m ≤ 1024) (hH : Has w (l ++ R)) (ao : Option Addr) (n cap : Nat) (hnc : n ≤ 281474976710656) (rs : List (List Int)) (hrs : ∀ r ∈ rs, RepOk r)
    (hs : ∀ W l', Turn (l ++ R) w (l' ++ R) W → Src W ao n cap 21 (reps rs)) :
    Calls Tryd.prog 13 #[.pointer (some ⟨b, 0, none⟩), .slice ao n cap] w fun e w' => e = .returned (.int .i64 0) ∧ ∃ l', LogIs b m (xs ++ rs) l' ∧ Turn (l ++ R) w (l' ++ R) w' := by
  have T0 := Turn.refl hH
  have hn : n = rs.length := by
    have h1 := (hs w l T0).len
    rw [reps_length hrs] at h1
    omega
  subst hn
  have HT0 := Lib.hid T0
  have HL0 := Lib.hid h
  have Hs := Lib.hid hs
  have Hrs := Lib.hid hrs
  clear hs hrs h T0
  go_enter Tryd.func13, Tryd.ntmps13
  go_wp2_with fail
  go_loopw [11] (fun v11 wr => ∃ (k : Nat) (lk : List Blk), k ≤ rs.length ∧ v11 = .int .i64 k ∧ LogIs b m (xs ++ rs.take k) lk ∧ Turn (l ++ R) w (lk ++ R) wr) (fun v11 _ => rs.length - (intOf v11).toNat)
  case atStart => exact ⟨0, l, Nat.zero_le _, rfl, by rw [List.take_zero, List.append_nil]; exact HL0.out, HT0.out⟩
  case round =>
    obtain ⟨k, lk, hk, rfl, hL, T⟩ := hrel
    have HL := Lib.hid hL
    by_cases hlt : k < rs.length
    · have hlt' : (k : Int) < (rs.length : Int) := by omega
      obtain ⟨r, hr⟩ : ∃ r, rs[k]? = some r := ⟨rs[k]'hlt, List.getElem?_eq_getElem _⟩
      obtain ⟨bb, off, rfl, -⟩ := (Hs.out wr lk T).form (by rw [reps_length Hrs.out]; omega)
      have hrok := Hrs.out r (List.mem_of_getElem? hr)
      have hrg := (Hs.out wr lk T).rep Hrs.out hr
      have hsz := rep_size (n := (i64s r).length) (by rw [i64s_length]; exact hrok.len)
      have hsz2 := rep_size (n := (i64s r).toArray.size) (by rw [List.size_toArray, i64s_length]; exact hrok.len)
      have T1 := T.alloc (.cells (i64s zeros).toArray 25)
      have hth := T1.has.there (b := wr.heap.size) (c := (i64s zeros).toArray) (e := 25) (List.mem_cons_self ..) 0 (i64s r).toArray.size (by rw [List.size_toArray, i64s_length, hrok.len]; decide)
      have hone := i64s_oneCell r
      have T2 := T1.setCells (i64s r) 0
      rw [laidOver_all _ _ (by rw [i64s_length, hrok.len]; rfl)] at T2
      have hrg2 := T2.has.range (List.mem_cons_self ..)
      rw [List.toList_toArray] at hrg2
      have Hr := Lib.hid hr
      have HT2 := Lib.hid T2
      have Hrok := Lib.hid hrok
      have htk : xs ++ rs.take (k + 1) = (xs ++ rs.take k) ++ [r] := by rw [List.take_add_one, hr, List.append_assoc]; rfl
      have Htk := Lib.hid htk
      clear hL T hr T1 T2 hrok htk
      go_wp2_with (first
        | (refine wpList_load_mid rfl 25 _ rfl bb (off + k * 21) rfl (i64s r) _ hrg Tryd.underlying25 rfl hsz ?_)
        | (refine wpList_store_mid rfl 25 _ _ rfl _ 0 (i64s r).toArray rfl rfl hth hsz2 hone ?_)
        | (refine wpList_load_mid rfl 25 _ rfl wr.heap.size 0 rfl (i64s r) _ hrg2 Tryd.underlying25 rfl hsz ?_)
        | (go_at_call 28; refine (ladd_any _ (R := (wr.heap.size, .cells (i64s r).toArray 25) :: R) HL.out h0 hm (HT2.out.has.perm (perm_of fun c => by simp; omega)) r Hrok.out).mono ?_; rintro e w3 ⟨⟨v, rfl⟩, l3, HL3, T3⟩)
        | fail)
      have T4 := (HT2.out.perm (l2 := lk ++ ((wr.heap.size, .cells (i64s r).toArray 25) :: R)) (by generalize (i64s r).toArray = Z; exact perm_of fun c => by simp; omega)).trans T3
      go_roundw
      case rel => exact ⟨k + 1, l3, by omega, by go_num, by rw [Htk.out]; exact HL3, (T4.perm (l2 := (wr.heap.size, .cells (i64s r).toArray 25) :: (l3 ++ R)) (by generalize (i64s r).toArray = Z; exact perm_of fun c => by simp; omega)).tail⟩
      case measure => simp [intOf]; omega
    · have hke : k = rs.length := by omega
      subst hke
      have HT := Lib.hid T
      clear T hL
      go_wp2
      go_ret
      exact ⟨rfl, lk, by have := HL.out; rwa [List.take_length] at this, HT.out⟩
end Go.Proofs.YtpnpnajheaijaaaDoor
