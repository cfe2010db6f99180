/-
  The table of weak handles of layer 16: contracts of New, Get, Drop, Add.
  Conditions: none beyond what each contract states.
-/
import Derived.Test.YtinpkimflcmkgaaWk1
import Derived.Deep.RegionLaw
import Derived.Deep.RegionHeld3
namespace Go.Proofs.Ytinpkimflcmkgaa
open Go Go.RowKit

/-- 'make([]T, n)' where T has several cells. -/
theorem run_make_rows {P : Program} (t e : TypeId) (i : TypeInfo) (z : Value) (ht : P.underlying t = some (.slice e)) (hi : P.info? e = some i) (hz : i.zero = some z)
    (kl kc : IntKind) (n : Nat) (hbytes : i.bytes * n ≤ 281474976710656) (h63 : n ≤ 9223372036854775807) (w : World) :
    (Instr.makeSlice t (.int kl (n : Int)) (.int kc (n : Int))).run P w = .ok (.slice (some ⟨w.heap.size, 0, none⟩) n n) (w.alloc (.cells (madeCells z.cells (n * i.size)) e)) := by
  have hb : (i.bytes : Int) * (n : Int) ≤ 281474976710656 := by
    have h : ((i.bytes * n : Nat) : Int) ≤ 281474976710656 := by omega
    rwa [Int.natCast_mul] at h
  have hr := run_make (P := P) w t e i z ht hi hz kl kc n n (by omega) (by omega) hb (by omega)
  simp only [Int.toNat_natCast] at hr
  exact hr

theorem made_rows {α : Type} {f : α → List Value} {sz : Nat} (hf : ∀ a, (f a).length = sz) (hsz : 0 < sz) (a : α) (n : Nat) : (madeCells (f a).toArray (n * sz)).toList = (List.replicate n a).flatMap f := by
  refine List.ext_getElem? fun m => ?_
  by_cases hm : m < n * sz
  · have h1 : m / sz < n := (Nat.div_lt_iff_lt_mul hsz).2 hm
    have h2 : m % sz < sz := Nat.mod_lt _ hsz
    have h3 : m = m / sz * sz + m % sz := (Nat.div_add_mod' m sz).symm
    have hr : ((List.replicate n a).flatMap f)[m]? = (f a)[m % sz]? := by
      conv => lhs; rw [h3]
      rw [flatMap_get hf _ _ _ h2]
      simp [h1]
    rw [hr]
    simp [madeCells, hm, hf]
    rw [List.getElem?_eq_getElem (by rw [hf]; exact h2)]
    rfl
  · rw [List.getElem?_eq_none (by simp [madeCells]; omega), List.getElem?_eq_none (by rw [flatMap_length hf]; simp; omega)]

def zeroSlot : Slot := ⟨0, 0, 0⟩

section
variable {b : Nat} {S : List Slot} {l R : List Blk}

theorem el_wslot : Elem Try.prog 111 116 3 24 (.agg #[.int .i64 0, .int .u64 0, .int .u64 0]) := Elem.of Try.underlying111 (by kernel_rfl) rfl

set_option maxRecDepth 100000 in
theorem wNew_any (w : World) (m : Nat) (hm : m ≤ 4096) (hH : Has w R) :
    Calls Try.prog 30 #[.int .i64 m] w fun e w' => ∃ b l', e = .returned (.tuple #[.pointer (some ⟨b, 0, none⟩), .int .i64 0]) ∧ WeaksIs b (List.replicate m zeroSlot) l' ∧ Turn R w (l' ++ R) w' := by
  obtain ⟨i, hi, hz, hsz, hby⟩ := el_wslot.info
  have hmk := fun W : World => run_make_rows (P := Try.prog) 111 116 i _ el_wslot.ht hi hz .i64 .i64 m (by rw [hby]; omega) (by omega) W
  rw [hsz] at hmk
  have hcells : (madeCells (Value.agg #[.int .i64 0, .int .u64 0, .int .u64 0]).cells (m * 3)).toList = (List.replicate m zeroSlot).flatMap Slot.vals := made_rows Slot.vals_length (by omega) zeroSlot m
  generalize madeCells (Value.agg #[.int .i64 0, .int .u64 0, .int .u64 0]).cells (m * 3) = cur at *
  have T := ((Turn.refl hH).alloc (.cells cur 116)).alloc (.cells #[.slice (some ⟨w.heap.size, 0, none⟩) m m] 113)
  have Hcells := Lib.hid hcells
  clear hi hz hsz hby hcells
  go_enter Try.func30, Try.ntmps30
  go_wp2
  go_ret2
  rw [World.size_alloc] at T
  have hok : WkOk (List.replicate m zeroSlot) := ⟨by simpa using hm, fun s hs => by rw [List.eq_of_mem_replicate hs]; exact (by decide), fun s hs => by rw [List.eq_of_mem_replicate hs]; exact (by decide)⟩
  exact ⟨w.heap.size + 1, [(w.heap.size + 1, .cells #[.slice (some ⟨w.heap.size, 0, none⟩) m m] 113), (w.heap.size, .cells cur 116)], rfl, ⟨hok, w.heap.size, cur, by simp, Hcells.out⟩, T⟩

set_option maxRecDepth 100000 in
theorem wGet_yes (w : World) (hS : WeaksIs b S l) (hH : Has w (l ++ R)) (i : Nat) (s : Slot) (hi : S[i]? = some s) (hst : s.st ≠ 0) :
    Calls Try.prog 36 #[.pointer (some ⟨b, 0, none⟩), .int .u64 (wh i s.given)] w fun e w' => e = .returned (.tuple #[.int .u64 s.addr, .bool (decide (s.st = 1)), .int .i64 0]) ∧ ∃ n, w' = w.drewN n := by
  have hS' := hS
  obtain ⟨hok, g, cur, rfl, hc⟩ := hS
  have hf := find_yes w hS' hH i s hi hst
  have W := wcells hc hH
  have hlt : i < S.length := (List.getElem?_eq_some_iff.1 hi).1
  have hlt' : (i : Int) < (S.length : Int) := by omega
  obtain ⟨c0, at_, -, -⟩ := W
  obtain ⟨a0, a1, a2⟩ := at_ i s hi
  have Hf := Lib.hid hf
  clear hf at_ hi
  generalize wh i s.given = y at *
  by_cases h1 : s.st = 1
  · have hd : decide (s.st = 1) = true := by simpa using h1
    rw [h1] at a0
    rw [hd]
    clear h1 hd hst
    go_enter Try.func36, Try.ntmps36
    go_wp2_with (go_at_call 65; refine Hf.out.mono ?_; rintro e w' ⟨rfl, rfl⟩)
    go_quiet (fail)
    go_wp2
    go_ret3
    exact ⟨rfl, _, rfl⟩
  · have hd : decide (s.st = 1) = false := by simpa using h1
    have hb1 : ((s.st : Int) == 1) = false := by rw [beq_eq_false_iff_ne]; omega
    rw [hd]
    clear h1 hd hst
    go_enter Try.func36, Try.ntmps36
    go_wp2_with (go_at_call 65; refine Hf.out.mono ?_; rintro e w' ⟨rfl, rfl⟩)
    go_quiet (fail)
    go_wp2
    go_ret3
    exact ⟨rfl, _, rfl⟩

def NotThere (S : List Slot) (x : Nat) : Prop := ∀ i s, S[i]? = some s → s.st ≠ 0 → (x : Int) ≠ wh i s.given

set_option maxRecDepth 100000 in
theorem wGet_no (w : World) (hS : WeaksIs b S l) (hH : Has w (l ++ R)) (x : Nat) (hx : x < 18446744073709551616) (hno : NotThere S x) :
    Calls Try.prog 36 #[.pointer (some ⟨b, 0, none⟩), .int .u64 x] w fun e w' => e = .returned (.tuple #[.int .u64 0, .bool false, .int .i64 3]) ∧ w = w' := by
  have hf := find_no w hS hH x hx hno
  have Hf := Lib.hid hf
  clear hf hno
  go_enter Try.func36, Try.ntmps36
  go_wp2_with (go_at_call 65; refine Hf.out.mono ?_; rintro e w' ⟨rfl, rfl⟩)
  go_ret3
  exact ⟨rfl, rfl⟩

set_option maxRecDepth 100000 in
theorem wDrop_no (w : World) (hS : WeaksIs b S l) (hH : Has w (l ++ R)) (x : Nat) (hx : x < 18446744073709551616) (hno : NotThere S x) :
    Calls Try.prog 32 #[.pointer (some ⟨b, 0, none⟩), .int .u64 x] w fun e w' => e = .returned (.int .i64 3) ∧ w = w' := by
  have hf := find_no w hS hH x hx hno
  have Hf := Lib.hid hf
  clear hf hno
  go_enter Try.func32, Try.ntmps32
  go_wp2_with (go_at_call 65; refine Hf.out.mono ?_; rintro e w' ⟨rfl, rfl⟩)
  go_ret
  exact ⟨rfl, rfl⟩

theorem WkOk.set (h : WkOk S) (i : Nat) (s : Slot) (h1 : s.given < 4294967295) (h2 : s.st ≤ 2) : WkOk (S.set i s) :=
  ⟨by simpa using h.len, fun x hx => by rcases List.mem_or_eq_of_mem_set hx with hm | rfl; exact h.small x hm; exact h1, fun x hx => by rcases List.mem_or_eq_of_mem_set hx with hm | rfl; exact h.states x hm; exact h2⟩

theorem WeaksIs.mk' {g : Nat} {cur : Array Value} {n : Nat} (hok : WkOk S) (hn : n = S.length) (hc : cur.toList = S.flatMap Slot.vals) :
    WeaksIs b S [(b, .cells #[.slice (some ⟨g, 0, none⟩) n n] 113), (g, .cells cur 116)] := by
  subst hn
  exact ⟨hok, g, cur, rfl, hc⟩

set_option maxRecDepth 100000 in
theorem wDrop_yes (w : World) (hS : WeaksIs b S l) (hH : Has w (l ++ R)) (i : Nat) (s : Slot) (hi : S[i]? = some s) (hst : s.st ≠ 0) :
    Calls Try.prog 32 #[.pointer (some ⟨b, 0, none⟩), .int .u64 (wh i s.given)] w fun e w' => e = .returned (.int .i64 0) ∧ ∃ l', WeaksIs b (S.set i { s with st := 0 }) l' ∧ Turn (l ++ R) w (l' ++ R) w' := by
  have hf := find_yes w hS hH i s hi hst
  obtain ⟨hok, g, cur, rfl, hc⟩ := hS
  have W := wcells hc hH
  have hlt : i < S.length := (List.getElem?_eq_some_iff.1 hi).1
  have hlt' : (i : Int) < (S.length : Int) := by omega
  obtain ⟨c0, at_, fr, ne⟩ := W
  obtain ⟨a0, a1, a2⟩ := at_ i s hi
  have f0 := fr (i * 3)
  have Hf := Lib.hid hf
  have Hi := Lib.hid hi
  have hsm := hok.small s (List.mem_of_getElem? hi)
  clear hf at_ hi fr
  generalize wh i s.given = y at *
  go_enter Try.func32, Try.ntmps32
  go_wp2_with (go_at_call 65; refine Hf.out.mono ?_; rintro e w' ⟨rfl, rfl⟩)
  go_ret
  have hc' : (cur.setIfInBounds (i * 3) (.int .i64 0)).toList = (S.set i { s with st := 0 }).flatMap Slot.vals := set_toList hc i 0 (by omega) s { s with st := 0 } (.int .i64 0) Hi.out rfl
  refine ⟨rfl, _, WeaksIs.mk' (g := g) (n := S.length) (hok.set i { s with st := 0 } hsm (Nat.zero_le _)) (by simp) hc', ?_⟩
  exact ((((Turn.refl hH).perm (l2 := (g, .cells cur 116) :: ((b, .cells #[.slice (some ⟨g, 0, none⟩) S.length S.length] 113) :: R)) (perm_of fun c => by simp; omega)).setCell (i * 3) (.int .i64 0)).perm (perm_of fun c => by simp; omega))
end
end Go.Proofs.Ytinpkimflcmkgaa
