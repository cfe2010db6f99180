/-
  The log: what lies where; a new one.
  Conditions: none.
-/
import Derived.Test.YtpnpnajheaijaaaDoorLg9
import Derived.Test.YtpnpnajheaijaaaDoorLg10
import Derived.Laws.MakeOwn
namespace Go.Proofs.YtpnpnajheaijaaaDoor
open Go Go.RowKit

theorem flatMap_length {α β : Type} {f : α → List β} {sz : Nat} (hf : ∀ a, (f a).length = sz) (S : List α) : (S.flatMap f).length = S.length * sz := by
  induction S with
  | nil => simp
  | cons a S ih => rw [List.flatMap_cons, List.length_append, hf, ih, List.length_cons, Nat.add_mul]; omega
theorem flatMap_get {α β : Type} {f : α → List β} {sz : Nat} (hf : ∀ a, (f a).length = sz) (S : List α) (i j : Nat) (hj : j < sz) : (S.flatMap f)[i * sz + j]? = S[i]?.bind fun a => (f a)[j]? := by
  induction S generalizing i with
  | nil => simp
  | cons a S ih =>
    rw [List.flatMap_cons]
    cases i with
    | zero =>
      rw [Nat.zero_mul, Nat.zero_add, List.getElem?_append_left (by rw [hf]; exact hj)]
      rfl
    | succ i =>
      have e : (i + 1) * sz + j = sz + (i * sz + j) := by rw [Nat.add_mul]; omega
      rw [e, List.getElem?_append_right (by rw [hf]; omega), hf, Nat.add_sub_cancel_left, ih]
      rfl

/-- 'make([]T, n)' where T has several cells. -/
theorem run_make_rows {P : Program} (t e : TypeId) (i : TypeInfo) (z : Value) (ht : P.underlying t = some (.slice e)) (hi : P.info? e = some i) (hz : i.zero = some z)
    (kl kc : IntKind) (n : Nat) (hbytes : i.bytes * n ≤ 281474976710656) (h63 : n ≤ 9223372036854775807) (w : World) :
    (Instr.makeSlice t (.int kl (n : Int)) (.int kc (n : Int))).run P w = .ok (.slice (some ⟨w.heap.size, 0, none⟩) n n) (w.alloc (.cells (madeCells z.cells (n * i.size)) e)) := by
  have hb : (i.bytes : Int) * (n : Int) ≤ 281474976710656 := by
    have h : ((i.bytes * n : Nat) : Int) ≤ 281474976710656 := by omega
    rwa [Int.natCast_mul] at h
  have hr := run_make (P := P) w t e i z ht hi hz kl kc n n (by omega) (by omega) hb (by omega)
  simp only [Int.toNat_natCast] at hr
  exact hr

theorem made_rows {α : Type} {f : α → List Value} {sz : Nat} (hf : ∀ a, (f a).length = sz) (hsz : 0 < sz) (a : α) (n : Nat) : (madeCells (f a).toArray (n * sz)).toList = (List.replicate n a).flatMap f := by
  refine List.ext_getElem? fun m => ?_
  by_cases hm : m < n * sz
  · have h1 : m / sz < n := (Nat.div_lt_iff_lt_mul hsz).2 hm
    have h2 : m % sz < sz := Nat.mod_lt _ hsz
    have h3 : m = m / sz * sz + m % sz := (Nat.div_add_mod' m sz).symm
    have hr : ((List.replicate n a).flatMap f)[m]? = (f a)[m % sz]? := by
      conv => lhs; rw [h3]
      rw [flatMap_get hf _ _ _ h2]
      simp [h1]
    rw [hr]
    simp [madeCells, hm, hf]
    rw [List.getElem?_eq_getElem (by rw [hf]; exact h2)]
    rfl
  · rw [List.getElem?_eq_none (by simp [madeCells]; omega), List.getElem?_eq_none (by rw [flatMap_length hf]; simp; omega)]

/-- The sums, a report behind them. -/
def sumAdd (s r : List Int) : List Int :=
  let a := fun (k : Nat) => s.getD k 0
  let x := fun (k : Nat) => r.getD k 0
  [IntKind.i64.wrap (a 0 + 1), IntKind.i64.wrap (a 1 + IntKind.i64.wrap (x 0 - x 6)), IntKind.i64.wrap (a 2 + IntKind.i64.wrap (x 3 - x 9)), IntKind.i64.wrap (a 3 + x 15), IntKind.i64.wrap (a 4 + x 16), IntKind.i64.wrap (a 5 + x 17), IntKind.i64.wrap (a 6 + x 18), IntKind.i64.wrap (a 7 + x 20)]
def noSum : List Int := [0, 0, 0, 0, 0, 0, 0, 0]
def sumOf (xs : List (List Int)) : List Int := xs.foldl sumAdd noSum

/-- A log of m slots, behind the reports xs. -/
def LogIs (b m : Nat) (xs : List (List Int)) (l : List Blk) : Prop :=
  ∃ g cur c, l = [(b, .cells (i64s (sumOf xs) ++ [Value.slice (some ⟨g, 0, none⟩) m m, Value.int .i64 (min xs.length m : Nat), Value.int .i64 (xs.length % m : Nat)]).toArray 69), (g, .cells cur 25)] ∧
    RingIs m xs c ∧ cur.toList = c.flatMap i64s ∧ ∀ r ∈ c, r.length = 21

theorem el_rep : Elem Tryd.prog 32 25 21 168 (repVal zeros) := Elem.of Tryd.underlying32 (by kernel_rfl) rfl

set_option maxRecDepth 100000 in
theorem new_any {R : List Blk} (w : World) (m : Nat) (h0 : 1 ≤ m) (hm : m ≤ 1024) (hH : Has w R) :
    Calls Tryd.prog 12 #[.int .i64 m] w fun e w' => ∃ b l', e = .returned (.tuple #[.pointer (some ⟨b, 0, none⟩), .int .i64 0]) ∧ LogIs b m [] l' ∧ Turn R w (l' ++ R) w' := by
  obtain ⟨i, hi, hz, hsz, hby⟩ := el_rep.info
  have hmk := fun W : World => run_make_rows (P := Tryd.prog) 32 25 i _ el_rep.ht hi hz .i64 .i64 m (by rw [hby]; omega) (by omega) W
  rw [hsz] at hmk
  have hcells : (madeCells (repVal zeros).cells (m * 21)).toList = (List.replicate m zeros).flatMap i64s := by
    have h := made_rows (f := fun _ : Unit => i64s zeros) (sz := 21) (fun _ => rfl) (by omega) () m
    show (madeCells (i64s zeros).toArray (m * 21)).toList = _
    rw [h]
    induction m with
    | zero => rfl
    | succ m _ => simp [List.flatMap_replicate]
  generalize madeCells (repVal zeros).cells (m * 21) = cur at *
  have T := ((Turn.refl hH).alloc (.cells cur 25)).alloc (.cells #[.int .i64 0, .int .i64 0, .int .i64 0, .int .i64 0, .int .i64 0, .int .i64 0, .int .i64 0, .int .i64 0, .slice (some ⟨w.heap.size, 0, none⟩) m m, .int .i64 0, .int .i64 0] 69)
  have Hcells := Lib.hid hcells
  have h1 : (1 : Int) ≤ (m : Int) := by omega
  have h2 : (m : Int) ≤ 1024 := by omega
  clear hi hz hsz hby hcells
  go_enter Tryd.func12, Tryd.ntmps12
  go_wp2
  go_ret2
  rw [World.size_alloc] at T
  exact ⟨w.heap.size + 1, [(w.heap.size + 1, .cells #[.int .i64 0, .int .i64 0, .int .i64 0, .int .i64 0, .int .i64 0, .int .i64 0, .int .i64 0, .int .i64 0, .slice (some ⟨w.heap.size, 0, none⟩) m m, .int .i64 0, .int .i64 0] 69), (w.heap.size, .cells cur 25)], rfl,
    ⟨w.heap.size, cur, List.replicate m zeros, by simp [sumOf, noSum, i64s], RingIs.start m zeros, Hcells.out, fun r hr => by rw [List.eq_of_mem_replicate hr]; rfl⟩, T⟩
end Go.Proofs.YtpnpnajheaijaaaDoor
