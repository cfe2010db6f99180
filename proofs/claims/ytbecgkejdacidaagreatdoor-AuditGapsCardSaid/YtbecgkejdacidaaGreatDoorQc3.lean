/-
  A part of a proof: texts packed by a program of mine (Sy5, Sn1, Sy6, Sz1, Sy7, Pb2, Sy9, Sy10, Sy11, Sy13, Sz2, Kit8, Tk1, Rfe, Sz3, Sy8, Sz4, Sz5, Pb3).
  Conditions: those that each theorem states.
-/
import Derived.Laws.MakeOwn
import Derived.Deep.QuietTactic
import Derived.BigQuiet
import Derived.OrdersIn
import Derived.OrdersHeld
import Derived.Deep.RegionHeld
import Derived.RangeFuncNested
import Derived.RangeFuncBox
import Derived.Test.YtbecgkejdacidaaGreatDoorQc2
set_option maxRecDepth 100000
set_option maxHeartbeats 12800000
namespace Go.Proofs.YtbecgkejdacidaaGreatDoor
section
open Go Go.RowKit Go.IntWalk
structure RefAt (w : World) (rb : Nat) (ao : Option Addr) (cap : Nat) (W : List Nat) (ao2 : Option Addr) (cap2 : Nat) (L : List Ty) : Prop where
 c0 : w.cell? ⟨rb, 0, none⟩ = some (.slice ao W.length cap)
 c1 : w.cell? ⟨rb, 1, none⟩ = some (.slice ao2 L.length cap2)
 ws : Src w ao W.length cap 1 (u64s W)
 ts : Src w ao2 L.length cap2 3 (tys L)
theorem RefAt.below {w w' : World} {rb : Nat} {ao : Option Addr} {cap : Nat} {W : List Nat} {ao2 : Option Addr} {cap2 : Nat} {L : List Ty} (h : RefAt w rb ao cap W ao2 cap2 L) (hk : Below w.heap.size w w') : RefAt w' rb ao cap W ao2 cap2 L :=
 ⟨(hk.cell (p := ⟨rb, 0, none⟩) (World.block_lt_of_cell? w _ h.c0)).trans h.c0, (hk.cell (p := ⟨rb, 1, none⟩) (World.block_lt_of_cell? w _ h.c1)).trans h.c1, h.ws.below hk, h.ts.below hk⟩
theorem RefIs.at_ {w : World} {rb : Nat} {ao2 : Option Addr} {cap2 : Nat} {L : List Ty} {W : List Nat} {l R : List Blk} (h : RefIs rb ao2 L.length cap2 W l) (hH : Has w (l ++ R)) (ht : Src w ao2 L.length cap2 3 (tys L)) : ∃ ao cap, RefAt w rb ao cap W ao2 cap2 L := by
 obtain ⟨ao, cap, lr, hrow, rfl⟩ := h
 have hH' := hH.perm (l' := lr ++ ((rb, .cells #[.slice ao W.length cap, .slice ao2 L.length cap2] 109) :: R)) po
 exact ⟨ao, cap, hH.cell (b := rb) (c := #[.slice ao W.length cap, .slice ao2 L.length cap2]) (e := 109) (f := (0, 0)) (by simp) 0, hH.cell (b := rb) (c := #[.slice ao W.length cap, .slice ao2 L.length cap2]) (e := 109) (f := (0, 0)) (by simp) 1, hrow.src hH', ht⟩
theorem all9 (w : World) {rb : Nat} {ao : Option Addr} {cap : Nat} {W : List Nat} {ao2 : Option Addr} {cap2 : Nat} {L : List Ty} (hR : RefAt w rb ao cap W ao2 cap2 L) (hf : W.length ≤ 65536) (hu : ∀ v ∈ W, v < 18446744073709551616) (hTy : ∀ t ∈ L, TyIn t) (hL : L.length ≤ 1000)
  (cs : List Ce) (hC : Chain L W 0 cs (W.length / 2)) :
  Calls Tryz.prog 90 #[.pointer (some ⟨rb, 0, none⟩)] w fun e w' => ∃ ao' cap' l, e = .returned (.slice ao' cs.length cap') ∧ Row 81 5 ao' cs.length cap' (ces cs) l ∧ Turn [] w l w' := by
 have Hc := uh (fun w' (hB : Below w.heap.size w w') => cells9 w' ao cap (hR.below hB).ws hf hu L hTy hL ao2 cap2 (hR.below hB).ts cs hC)
 have hn := Has.nil w
 have HR := uh (fun w' (hB : Below w.heap.size w w') => (⟨(hR.below hB).c0, (hR.below hB).c1⟩ : w'.cell? ⟨rb, 0, none⟩ = some (.slice ao W.length cap) ∧ w'.cell? ⟨rb, 1, none⟩ = some (.slice ao2 L.length cap2)))
 have HT := uh (Turn.refl hn)
 clear hR hu hTy hC hn
 go_enter Tryz.func90, Tryz.ntmps90
 go_wp2_with fail
 refine wp_abs (fun W' => Turn [] w [] W'.drew) HT.out.drew fun W1 T1 => ?_
 have hS := HR.out _ T1.below
 have HT1 := uh T1
 clear T1 HT
 refine wp_region_noPanic ?_
 refine wp_region_listed (S := fun W' => W'.cell? ⟨rb, 0, none⟩ = some (.slice ao W.length cap) ∧ W'.cell? ⟨rb, 1, none⟩ = some (.slice ao2 L.length cap2)) 14 [false, false, false, false, false, false, false, false, false, false, false, false, false, false] rfl rfl (by kernel_rfl) ?_
 refine tkA 0 6 hS ?_
 refine tkA 1 7 hS ?_
 refine tkA 2 8 hS ?_
 refine tkB 3 9 hS (fun w hSw => hSw.1) ?_
 refine tkA 4 10 hS ?_
 refine tkA 5 11 hS ?_
 refine tkA 6 12 hS ?_
 refine tkB 7 13 hS (fun w hSw => hSw.2) ?_
 refine rdyA 8 (fun K hK => ?_)
 go_simp
 refine (Hc.out _ HT1.out.below).mono ?_
 rintro e W3 ⟨ao', cap', l', rfl, hrow, T3⟩
 have HT3 := uh ((HT1.out.trans T3) : Turn [] w l' W3)
 have hS3 := HR.out _ HT3.out.below
 have Hrow := uh hrow
 refine hK.out _ _ hS3 fun _ => ?_
 clear hK K hS T3 hrow HT1
 simp only [st0, st1, st2]
 refine tkA 9 5 hS3 ?_
 refine tkA 10 15 hS3 ?_
 refine tkA 11 16 hS3 ?_
 refine tkA 12 3 hS3 ?_
 refine tkA 13 4 hS3 ?_
 refine wpAnyH_done (by kernel_rfl) ?_ _
 refine NoPanic.normal ?_
 clear hS3
 go_wp2
 go_ret
 exact ⟨ao', cap', l', rfl, Hrow.out, HT3.out⟩
theorem run_make_rows {P : Program} (t e : TypeId) (i : TypeInfo) (z : Value) (ht : P.underlying t = some (.slice e)) (hi : P.info? e = some i) (hz : i.zero = some z)
  (kl kc : IntKind) (n : Nat) (hbytes : i.bytes * n ≤ 281474976710656) (h63 : n ≤ 9223372036854775807) (w : World) :
  (Instr.makeSlice t (.int kl (n : Int)) (.int kc (n : Int))).run P w = .ok (.slice (some ⟨w.heap.size, 0, none⟩) n n) (w.alloc (.cells (madeCells z.cells (n * i.size)) e)) := by
 have hb : (i.bytes : Int) * (n : Int) ≤ 281474976710656 := by
  have h : ((i.bytes * n : Nat) : Int) ≤ 281474976710656 := by omega
  rwa [Int.natCast_mul] at h
 have hr := run_make (P := P) w t e i z ht hi hz kl kc n n (by omega) (by omega) hb (by omega)
 simp only [Int.toNat_natCast] at hr
 exact hr
def mayWords (n : Int) : Prop := 16 ≤ n ∧ n ≤ 65536 ∧ n % 2 = 0
instance (n : Int) : Decidable (mayWords n) := by unfold mayWords; infer_instance
theorem anew_no (w : World) (n : Int) (h : ¬ mayWords n) : Calls Tryz.prog 125 #[.int .i64 n] w fun e w' => e = .returned (.tuple #[.pointer none, .int .i64 2]) ∧ w' = w := by
 by_cases h1 : n < 16
 · have k1 : decide (n < 16) = true := decide_eq_true h1
   clear h
   go_enter Tryz.func125, Tryz.ntmps125
   go_wp2
   go_ret2
   exact ⟨rfl, rfl⟩
 have k1 : decide (n < 16) = false := decide_eq_false h1
 by_cases h2 : 65536 < n
 · have k2 : decide (65536 < n) = true := decide_eq_true h2
   clear h
   go_enter Tryz.func125, Tryz.ntmps125
   go_wp2
   go_ret2
   exact ⟨rfl, rfl⟩
 have k2 : decide (65536 < n) = false := decide_eq_false h2
 have h3 : ¬ n % 2 = 0 := fun h3 => h ⟨by omega, by omega, h3⟩
 have k3 : n.tmod 2 = 1 := by rw [Int.tmod_eq_emod_of_nonneg (by omega)]; omega
 have k4 : n % 2 = 1 := by omega
 clear h h3
 go_enter Tryz.func125, Tryz.ntmps125
 go_wp2
 go_ret2
 exact ⟨rfl, rfl⟩
theorem made_words (n : Nat) : madeCells (Value.int .u64 0).cells (n * 1) = (u64s (List.replicate n 0)).toArray := by
 apply Array.ext_getElem?
 intro m
 rw [Nat.mul_one]
 by_cases hm : m < n
 · have h1 : ((u64s (List.replicate n 0)).toArray)[m]? = some (.int .u64 0) := by rw [List.getElem?_toArray]; exact u64s_get (by rw [List.getElem?_replicate, if_pos hm])
   rw [h1]
   simp [madeCells, hm]
   have hc : (Value.int .u64 0).cells = #[.int .u64 0] := rfl
   rw [hc, show m % (#[Value.int .u64 0] : Array Value).size = 0 from Nat.mod_one m]
   rfl
 · rw [Array.getElem?_eq_none (by simp [madeCells]; omega), Array.getElem?_eq_none (by simp [u64s]; omega)]
theorem anew (w : World) (n : Nat) (h : mayWords n) : Calls Tryz.prog 125 #[.int .i64 n] w fun e w' => ∃ a aw, e = .returned (.tuple #[.pointer (some ⟨a, 0, none⟩), .int .i64 0]) ∧ Turn [] w (arBlks a aw (List.replicate n 0) 0) w' := by
 obtain ⟨h1, h2, h3⟩ := h
 obtain ⟨i, hi, hz, hsz, hby⟩ := el_u64.info
 have hmk := fun W : World => run_make_rows (P := Tryz.prog) 61 47 i _ el_u64.ht hi hz .i64 .i64 n (by rw [hby]; omega) (by omega) W
 rw [hsz, made_words n] at hmk
 have T := (((Turn.refl (Has.nil w)).alloc (.cells (u64s (List.replicate n 0)).toArray 47)).alloc (.cells #[.slice (some ⟨w.heap.size, 0, none⟩) n n, .int .u64 0] 219)).swap
 rw [World.size_alloc] at T
 have HT := uh T
 generalize hcur : (u64s (List.replicate n 0)).toArray = cur at *
 have Hcur := uh hcur
 clear hcur
 have k1 : decide ((n : Int) < 16) = false := decide_eq_false (by omega)
 have k2 : decide ((65536 : Int) < (n : Int)) = false := decide_eq_false (by omega)
 have k3 : ((n : Int)).tmod 2 = 0 := by rw [Int.tmod_eq_emod_of_nonneg (by omega)]; omega
 have k4 : (n : Int) % 2 = 0 := h3
 have k5 : ¬ (n : Int) < 16 := by omega
 have k6 : ¬ (65536 : Int) < (n : Int) := by omega
 have k7 : ((n : Int)).toNat = n := Int.toNat_natCast n
 clear hi hz hsz hby T h1 h2 h3
 go_enter Tryz.func125, Tryz.ntmps125
 go_wp2
 go_ret2
 refine ⟨w.heap.size + 1, rfl, w.heap.size, ?_⟩
 unfold arBlks
 rw [List.length_replicate]
 rw [Hcur.out]
 exact HT.out
theorem Row.fresh (e : TypeId) (size g n : Nat) (xs : List Value) (hx : xs.length = n * size) (hn : n ≤ maxLen) : Row e size (some ⟨g, 0, none⟩) n n xs [(g, .cells xs.toArray e)] :=
 ⟨hx, Nat.le_refl _, hn, .inr ⟨g, xs.toArray, rfl, rfl, by simp [hx], by rw [← hx]; simp⟩⟩
theorem rnew (w : World) (n : Nat) (h : mayWords n) (lao : Option Addr) (ln lcap : Nat) :
  Calls Tryz.prog 134 #[.int .i64 n, .slice lao ln lcap] w fun e w' => ∃ rb l, e = .returned (.pointer (some ⟨rb, 0, none⟩)) ∧ RefIs rb lao ln lcap (lay (List.replicate n 0) 0 (n / 2)) l ∧ Turn [] w l w' := by
 obtain ⟨h1, h2, h3⟩ := h
 obtain ⟨i, hi, hz, hsz, hby⟩ := el_u64.info
 have hmk := fun W : World => run_make_rows (P := Tryz.prog) 61 47 i _ el_u64.ht hi hz .i64 .i64 n (by rw [hby]; omega) (by omega) W
 rw [hsz, made_words n] at hmk
 have T := (((Turn.refl (Has.nil w)).alloc (.cells (u64s (List.replicate n 0)).toArray 47)).alloc (.cells #[.slice (some ⟨w.heap.size, 0, none⟩) n n, .slice lao ln lcap] 109))
 rw [World.size_alloc] at T
 have hI : RefIs (w.heap.size + 1) lao ln lcap (List.replicate n 0) [(w.heap.size + 1, .cells #[.slice (some ⟨w.heap.size, 0, none⟩) n n, .slice lao ln lcap] 109), (w.heap.size, .cells (u64s (List.replicate n 0)).toArray 47)] :=
  ⟨some ⟨w.heap.size, 0, none⟩, n, [(w.heap.size, .cells (u64s (List.replicate n 0)).toArray 47)], by rw [List.length_replicate]; exact Row.fresh _ _ _ _ _ (by simp [u64s]) (by unfold maxLen; omega), by rw [List.length_replicate]⟩
 have HL := uh (lay9 _ (R := []) hI (by rw [List.append_nil]; exact T) (by rw [List.length_replicate]; omega) 0 (n / 2) (by rw [List.length_replicate]; omega))
 generalize hcur : (u64s (List.replicate n 0)).toArray = cur at *
 clear hcur T hI
 have k4 : ((n : Int)).tdiv 2 = ((n / 2 : Nat) : Int) := tdiv_nat _ 2
 have k5 : (n : Int) / 2 = ((n / 2 : Nat) : Int) := by omega
 have k7 : ((n : Int)).toNat = n := Int.toNat_natCast n
 obtain ⟨z, hzz⟩ : ∃ z : Nat, n / 2 = z := ⟨_, rfl⟩
 rw [hzz] at k4 k5 HL ⊢
 clear hi hz hsz hby h1 h3 hzz
 go_enter Tryz.func134, Tryz.ntmps134
 go_wp2_with fail
 refine HL.out.mono ?_
 rintro e w2 ⟨⟨u, rfl⟩, l2, hI2, hT2⟩
 have HI2 := uh hI2
 have HT2 := uh hT2
 clear hI2 hT2
 go_wp2_with fail
 go_ret
 refine ⟨_, l2, rfl, HI2.out, ?_⟩
 have h := HT2.out
 rwa [List.append_nil] at h
theorem sgran (w : World) {sb a aw : Nat} {W : List Nat} (c0 : w.cell? ⟨sb, 0, none⟩ = some (.pointer (some ⟨a, 0, none⟩))) (hA : ArAt w a aw W) (hf : W.length ≤ 65536) :
  Calls Tryz.prog 13 #[.pointer (some ⟨sb, 0, none⟩)] w fun e w' => e = .returned (.int .i64 (W.length / 2 : Nat)) ∧ w' = w := by
 have Hl := uh (alen w hA)
 have hdiv : ((W.length : Int)).tdiv 2 = ((W.length / 2 : Nat) : Int) := tdiv_nat _ 2
 have hdiv2 : (W.length : Int) / 2 = ((W.length / 2 : Nat) : Int) := by omega
 have hb : W.length / 2 ≤ 32768 := by omega
 generalize W.length / 2 = z at *
 generalize W.length = y at *
 clear hA
 go_enter Tryz.func13, Tryz.ntmps13
 go_wp2_with fail
 refine Hl.out.mono ?_
 rintro e w1 ⟨rfl, rfl⟩
 clear Hl
 go_wp2_with fail
 go_ret
 exact ⟨rfl, rfl⟩
theorem sarena (w : World) {sb : Nat} {v : Value} {a : Addr} (hv : v = .pointer (some a)) (c0 : w.cell? ⟨sb, 0, none⟩ = some v) :
  Calls Tryz.prog 44 #[.pointer (some ⟨sb, 0, none⟩)] w fun e w' => e = .returned v ∧ w' = w := by
 subst hv
 go_enter Tryz.func44, Tryz.ntmps44
 go_wp2_with fail
 go_ret
 exact ⟨rfl, rfl⟩
theorem stable (w : World) {sb : Nat} {v : Value} {a : Addr} (hv : v = .pointer (some a)) (c1 : w.cell? ⟨sb, 1, none⟩ = some v) :
  Calls Tryz.prog 101 #[.pointer (some ⟨sb, 0, none⟩)] w fun e w' => e = .returned v ∧ w' = w := by
 subst hv
 go_enter Tryz.func101, Tryz.ntmps101
 go_wp2_with fail
 go_ret
 exact ⟨rfl, rfl⟩
theorem ces_get {cs : List Ce} {i : Nat} {c : Ce} (hi : cs[i]? = some c) {j : Nat} (hj : j < 5) : (ces cs)[i * 5 + j]? = (ceCells c)[j]? := by
 induction cs generalizing i with
 | nil => cases hi
 | cons a l ih =>
  show (ceCells a ++ ces l)[i * 5 + j]? = _
  cases i with
  | zero =>
   have : a = c := by simpa using hi
   subst this
   rw [Nat.zero_mul, Nat.zero_add, List.getElem?_append_left (by exact hj)]
  | succ i =>
   rw [show (i + 1) * 5 + j = 5 + (i * 5 + j) by omega, List.getElem?_append_right (by show 5 ≤ _; omega)]
   rw [show 5 + (i * 5 + j) - (ceCells a).length = i * 5 + j from Nat.add_sub_cancel_left ..]
   exact ih (by simpa using hi)
theorem Src.ce {w : World} {b off n cap : Nat} {cs : List Ce} (h : Src w (some ⟨b, off, none⟩) n cap 5 (ces cs)) {i : Nat} {c : Ce} (hi : cs[i]? = some c) : w.rangeAt b (off + i * 5) (ceCells c) := by
 intro j v hv
 have hj : j < 5 := (List.getElem?_eq_some_iff.1 hv).1
 have h1 := h.at_ _ rfl (i * 5 + j) v (by rw [ces_get hi hj]; exact hv)
 rw [add_lit] at h1
 rw [Nat.add_assoc]
 exact h1
theorem sz_cell : (Tryz.prog.info? 81).map (·.size) = some 5 := by kernel_rfl
theorem ce_one (c : Ce) : (#[.int .i64 c.1, .int .u8 c.2.tag, .int .i64 c.2.typ, .int .i64 c.2.len, .int .i64 c.2.size] : Array Value).all (·.oneCell') = true := all_one (cs := ceCells c) (by simp [Value.oneCell'])
theorem Turn.grow {l0 X A : List Blk} {w0 w w' : World} (T : Turn l0 w0 X w) (T' : Turn [] w A w') : Turn l0 w0 (A ++ X) w' := T.trans (by have h := T'.more (R := X) (by simpa using T.has); simpa using h)
theorem put9_err {w0 : World} (w : World) {rb lcap : Nat} {lao : Option Addr} {W : List Nat} {L : List Ty} {l R : List Blk} (hI : RefIs rb lao L.length lcap W l) (T : Turn [] w0 (l ++ R) w) (hS : Src w0 lao L.length lcap 3 (tys L)) (hTy : ∀ t ∈ L, TyIn t) (hL : L.length ≤ 1000) (hf : W.length ≤ 65536)
  (g id n : Int) (hno : tyErr L id n ≠ 0 ∨ g < 0 ∨ ((W.length / 2 : Nat) : Int) ≤ g) :
  Calls Tryz.prog 135 #[.pointer (some ⟨rb, 0, none⟩), .int .i64 g, .int .i64 id, .int .i64 n] w fun e w' => e = .returned (.int .i64 (if tyErr L id n ≠ 0 then tyErr L id n else 2)) ∧ Turn [] w0 (l ++ R) w' := by
 have hsz := sz_head
 have Hof := uh (fun w' (hB : Below w0.heap.size w0 w') => of7 w' L hTy hL lao lcap (hS.below hB) id n)
 obtain ⟨ao, cap, lr, hrow, rfl⟩ := hI
 have c1 : w.cell? ⟨rb, 1, none⟩ = some (.slice lao L.length lcap) := T.cell1 1
 obtain ⟨x0, x1, x2, x3, hx, hox⟩ : ∃ x0 x1 x2 x3 : Value, ofCells L id n = [x0, x1, x2, x3] ∧ (#[x0, x1, x2, x3] : Array Value).all (·.oneCell') = true := by
  unfold ofCells
  split
  · exact ⟨_, _, _, _, rfl, all_one (cs := [.int .u8 1, .int .i64 id, .int .i64 n, .int .i64 (tySize L id n : Nat)]) (by simp [Value.oneCell'])⟩
  · exact ⟨_, _, _, _, rfl, hd0_one⟩
 rw [hx] at Hof
 have HT := uh T
 have hdiv : ((W.length : Int)).tdiv 2 = ((W.length / 2 : Nat) : Int) := tdiv_nat _ 2
 have hdiv2 : (W.length : Int) / 2 = ((W.length / 2 : Nat) : Int) := by omega
 obtain ⟨z, hz⟩ : ∃ z : Nat, W.length / 2 = z := ⟨_, rfl⟩
 rw [hz] at hdiv hdiv2 hno
 generalize tyErr L id n = er at *
 clear T hS hTy hrow hx
 by_cases he : er = 0
 · subst he
   rw [if_neg (by simp)]
   have hno' : g < 0 ∨ (z : Int) ≤ g := hno.resolve_left (by simp)
   clear hno
   rcases hno' with hg | hg
   · have k1 : decide (g < 0) = true := decide_eq_true hg
     go_enter Tryz.func135, Tryz.ntmps135
     go_wp2_with fail
     refine (Hof.out _ HT.out.below).mono ?_
     rintro e w1 ⟨rfl, hB1⟩
     have T2 := (HT.out.call hB1).alloc (.cells #[.int .u8 0, .int .i64 0, .int .i64 0, .int .i64 0] 79)
     have hth : (w1.alloc (.cells #[.int .u8 0, .int .i64 0, .int .i64 0, .int .i64 0] 79)).there w1.heap.size 0 4 := T2.there1
     have HT2 := uh ((T2.laid [x0, x1, x2, x3] rfl).tail)
     clear T2 hB1
     go_wp2_with (first
      | (show sW 79; refine wpList_store_mid rfl 79 _ _ rfl _ 0 #[x0, x1, x2, x3] rfl rfl hth hsz hox ?_; clear hth)
      | fail)
     go_ret
     exact ⟨rfl, HT2.out⟩
   · have k1 : decide (g < 0) = false := decide_eq_false (by omega)
     have k2 : decide ((z : Int) ≤ g) = true := decide_eq_true hg
     have k3 : ¬ g < 0 := by omega
     go_enter Tryz.func135, Tryz.ntmps135
     go_wp2_with fail
     refine (Hof.out _ HT.out.below).mono ?_
     rintro e w1 ⟨rfl, hB1⟩
     have T2 := (HT.out.call hB1).alloc (.cells #[.int .u8 0, .int .i64 0, .int .i64 0, .int .i64 0] 79)
     have hth : (w1.alloc (.cells #[.int .u8 0, .int .i64 0, .int .i64 0, .int .i64 0] 79)).there w1.heap.size 0 4 := T2.there1
     have T3 := T2.laid [x0, x1, x2, x3] rfl
     have c0 := T3.cell2 0
     have HT2 := uh T3.tail
     clear T2 T3 hB1
     go_wp2_with (first
      | (show sW 79; refine wpList_store_mid rfl 79 _ _ rfl _ 0 #[x0, x1, x2, x3] rfl rfl hth hsz hox ?_; clear hth)
      | fail)
     go_ret
     exact ⟨rfl, HT2.out⟩
 · rw [if_pos he]
   clear hno
   have ke : (er != 0) = true := by rw [bne_iff_ne]; exact he
   go_enter Tryz.func135, Tryz.ntmps135
   go_wp2_with fail
   refine (Hof.out _ HT.out.below).mono ?_
   rintro e w1 ⟨rfl, hB1⟩
   have T2 := (HT.out.call hB1).alloc (.cells #[.int .u8 0, .int .i64 0, .int .i64 0, .int .i64 0] 79)
   have hth : (w1.alloc (.cells #[.int .u8 0, .int .i64 0, .int .i64 0, .int .i64 0] 79)).there w1.heap.size 0 4 := T2.there1
   have HT2 := uh ((T2.laid [x0, x1, x2, x3] rfl).tail)
   clear T2 hB1
   go_wp2_with (first
    | (show sW 79; refine wpList_store_mid rfl 79 _ _ rfl _ 0 #[x0, x1, x2, x3] rfl rfl hth hsz hox ?_; clear hth)
    | fail)
   go_ret
   exact ⟨rfl, HT2.out⟩
end
section
def dropFrm : Nat → List Ce → Nat
 | f, [] => f
 | f, c :: cs => dropFrm (if c.2.tag = 1 then c.1 + c.2.size else f) cs
def dropTill : Nat → List Ce → Nat
 | t, [] => t
 | t, c :: cs => if c.2.tag = 1 then t else dropTill (c.1 + c.2.size) cs
theorem dropFrm_append : ∀ (a b : List Ce) (f : Nat), dropFrm f (a ++ b) = dropFrm (dropFrm f a) b
 | [], _, _ => rfl
 | _ :: a, b, _ => dropFrm_append a b _
theorem dropFrm_gaps : ∀ (a : List Ce) (f : Nat), (∀ c ∈ a, c.2.tag ≠ 1) → dropFrm f a = f
 | [], _, _ => rfl
 | c :: a, f, h => by
  rw [dropFrm, if_neg (h c (List.mem_cons_self ..)), dropFrm_gaps a f fun d hd => h d (List.mem_cons_of_mem _ hd)]
theorem dropTill_gaps : ∀ (a b : List Ce) (t : Nat), (∀ c ∈ a, c.2.tag ≠ 1) → ∀ {L : List Ty} {W : List Nat} {m : Nat}, Chain L W t a m → dropTill t (a ++ b) = dropTill m b
 | [], b, t, _, _, _, m, h => by cases h; rfl
 | c :: a, b, t, h, L, W, m, hC => by
  obtain ⟨h1, h2, h3⟩ := hC
  rw [List.cons_append, dropTill, if_neg (h c (List.mem_cons_self ..)), h1]
  exact dropTill_gaps a b _ (fun d hd => h d (List.mem_cons_of_mem _ hd)) h3
theorem dropTill_obj {t : Nat} {b : List Ce} (h : b = [] ∨ ∃ d b1, b = d :: b1 ∧ d.2.tag = 1) : dropTill t b = t := by
 rcases h with rfl | ⟨d, b1, rfl, hd⟩
 · rfl
 · rw [dropTill, if_pos hd]
theorem dropFrm_chain {L : List Ty} {W : List Nat} {a : List Ce} {m : Nat} (hC : Chain L W 0 a m) (h : a = [] ∨ ∃ a1 d, a = a1 ++ [d] ∧ d.2.tag = 1) : dropFrm 0 a = m := by
 rcases h with rfl | ⟨a1, d, rfl, hd⟩
 · exact hC
 · obtain ⟨-, -, h3⟩ := hC.split
   rw [dropFrm_append, dropFrm, if_pos hd]
   exact h3
def dropW (W : List Nat) (pre : List Ce) (c : Ce) (post : List Ce) : List Nat := lay W (dropFrm 0 pre) (dropTill (c.1 + c.2.size) post - dropFrm 0 pre)
theorem drop_parts {L : List Ty} {W : List Nat} {pre post : List Ce} {c : Ce} {e : Nat} (hC : Chain L W 0 (pre ++ c :: post) e) :
  ∃ a ga gb b, pre = a ++ ga ∧ post = gb ++ b ∧ (∀ x ∈ ga, x.2.tag ≠ 1) ∧ (∀ x ∈ gb, x.2.tag ≠ 1) ∧ (a = [] ∨ ∃ a1 d, a = a1 ++ [d] ∧ d.2.tag = 1) ∧ (b = [] ∨ ∃ d b1, b = d :: b1 ∧ d.2.tag = 1) ∧
   Chain L W 0 a (dropFrm 0 pre) ∧ Chain L W (dropFrm 0 pre) (ga ++ c :: gb) (dropTill (c.1 + c.2.size) post) ∧ Chain L W (dropTill (c.1 + c.2.size) post) b e := by
 obtain ⟨h1, h2, h3⟩ := hC.split
 obtain ⟨a, ga, ha1, ha2, ha3⟩ := lastObj pre
 obtain ⟨gb, b, hb1, hb2, hb3⟩ := firstObj post
 subst ha1
 subst hb1
 obtain ⟨m, h4, h5⟩ := Chain.append.1 h1
 obtain ⟨q, h6, h7⟩ := Chain.append.1 h3
 have e1 : dropFrm 0 (a ++ ga) = m := by rw [dropFrm_append, dropFrm_gaps ga _ ha2]; exact dropFrm_chain h4 ha3
 have e2 : dropTill (c.1 + c.2.size) (gb ++ b) = q := by rw [dropTill_gaps gb b _ hb2 h6]; exact dropTill_obj hb3
 rw [e1, e2]
 exact ⟨a, ga, gb, b, rfl, rfl, ha2, hb2, ha3, hb3, h4, Chain.join h5 h2 h6, h7⟩
def noTouch : List Ce → Prop
 | [] => True
 | [_] => True
 | c :: d :: cs => (c.2.tag = 1 ∨ d.2.tag = 1) ∧ noTouch (d :: cs)
theorem noTouch.tail {c : Ce} {cs : List Ce} (h : noTouch (c :: cs)) : noTouch cs := by
 cases cs with
 | nil => trivial
 | cons d cs => exact h.2
theorem noTouch.cons {c : Ce} {cs : List Ce} (h : noTouch cs) (hc : c.2.tag = 1 ∨ cs = [] ∨ ∃ d b, cs = d :: b ∧ d.2.tag = 1) : noTouch (c :: cs) := by
 cases cs with
 | nil => trivial
 | cons d cs =>
  refine ⟨?_, h⟩
  rcases hc with hc | hc | ⟨d', b, hd, hd'⟩
  · exact .inl hc
  · cases hc
  · cases hd; exact .inr hd'
theorem noTouch.append : ∀ {a b : List Ce}, noTouch a → noTouch b → ((a = [] ∨ ∃ a1 d, a = a1 ++ [d] ∧ d.2.tag = 1) ∨ (b = [] ∨ ∃ d b1, b = d :: b1 ∧ d.2.tag = 1)) → noTouch (a ++ b)
 | [], _, _, hb, _ => hb
 | [c], b, _, hb, h => by
  refine noTouch.cons hb ?_
  rcases h with (h | ⟨a1, d, h, hd⟩) | h
  · cases h
  · have : a1 = [] ∧ c = d := by
      cases a1 with
      | nil => simpa using h
      | cons x a1 => have := congrArg List.length h; simp at this
    obtain ⟨-, rfl⟩ := this
    exact .inl hd
  · exact .inr h
 | c :: d :: a, b, ha, hb, h => by
  refine ⟨ha.1, ?_⟩
  refine noTouch.append (a := d :: a) ha.2 hb ?_
  rcases h with (h | ⟨a1, x, h, hx⟩) | h
  · cases h
  · refine .inl (.inr ?_)
    cases a1 with
    | nil => have := congrArg List.length h; simp at this
    | cons y a1 =>
     rw [List.cons_append] at h
     exact ⟨a1, x, (List.cons.inj h).2, hx⟩
  · exact .inr h
theorem noTouch.left : ∀ {a b : List Ce}, noTouch (a ++ b) → noTouch a
 | [], _, _ => trivial
 | [_], _, _ => trivial
 | _ :: d :: a, b, h => ⟨h.1, noTouch.left (a := d :: a) (b := b) h.2⟩
theorem noTouch.right : ∀ {a b : List Ce}, noTouch (a ++ b) → noTouch b
 | [], _, h => h
 | _ :: a, _, h => noTouch.right (a := a) h.tail
theorem Good.drop_all {L : List Ty} {W : List Nat} {pre post : List Ce} {c : Ce} (h : Good L W (pre ++ c :: post)) (hn : noTouch (pre ++ c :: post)) :
  ∃ cs', Good L (dropW W pre c post) cs' ∧ noTouch cs' ∧ objs cs' = objs pre ++ objs post := by
 obtain ⟨a, ga, gb, b, rfl, rfl, ha2, hb2, ha3, hb3, h4, h5, h6⟩ := drop_parts h.chain
 have h' : Good L W (a ++ ((ga ++ c :: gb) ++ b)) := by
  have e : a ++ ((ga ++ c :: gb) ++ b) = (a ++ ga) ++ c :: (gb ++ b) := by simp
  rw [e]; exact h
 refine ⟨a ++ (dropFrm 0 (a ++ ga), gapHd (dropTill (c.1 + c.2.size) (gb ++ b) - dropFrm 0 (a ++ ga))) :: b, h'.drop (by simp) ⟨h4, h5⟩, ?_, ?_⟩
 · have hb' : noTouch b := noTouch.right (a := (a ++ ga) ++ c :: gb) (by simpa using hn)
   have ha' : noTouch a := noTouch.left (b := ga ++ c :: (gb ++ b)) (by simpa using hn)
   exact ha'.append (hb'.cons (.inr hb3)) (.inl ha3)
 · rw [objs_append, objs_append, objs_append, objs_none ha2, objs_none hb2, List.append_nil, List.nil_append]
   congr 1
   unfold objs
   rw [List.filter_cons_of_neg (by rw [isObj_iff]; exact gapHd_tag _)]
theorem noTouch_gapc (g n : Nat) : noTouch (gapc g n) := by unfold gapc; split <;> trivial
theorem noTouch.put {a b : List Ce} {c : Ce} (hn : noTouch (a ++ c :: b)) (hc : c.2.tag ≠ 1) {g : Nat} {h : Hd} (hh : h.tag = 1) : noTouch (a ++ putC c g h ++ b) := by
 have ha : noTouch a := hn.left
 have hcb : noTouch (c :: b) := hn.right
 have hb : noTouch b := hcb.tail
 have hb3 : b = [] ∨ ∃ d b1, b = d :: b1 ∧ d.2.tag = 1 := by
  cases b with
  | nil => exact .inl rfl
  | cons d b => exact .inr ⟨d, b, rfl, hcb.1.resolve_left hc⟩
 have ha3 : a = [] ∨ ∃ a1 d, a = a1 ++ [d] ∧ d.2.tag = 1 := by
  rcases List.eq_nil_or_concat a with rfl | ⟨a1, d, rfl⟩
  · exact .inl rfl
  · refine .inr ⟨a1, d, by simp, ?_⟩
    have h1 : noTouch (d :: c :: b) := noTouch.right (a := a1) (by simpa using hn)
    exact h1.1.resolve_right hc
 have h1 : noTouch (gapc (g + h.size) (c.1 + c.2.size - g - h.size) ++ b) := (noTouch_gapc _ _).append hb (.inr hb3)
 have h2 : noTouch ((g, h) :: (gapc (g + h.size) (c.1 + c.2.size - g - h.size) ++ b)) := h1.cons (.inl hh)
 have h3 : noTouch (gapc c.1 (g - c.1) ++ (g, h) :: (gapc (g + h.size) (c.1 + c.2.size - g - h.size) ++ b)) := (noTouch_gapc _ _).append h2 (.inr (.inr ⟨_, _, rfl, hh⟩))
 have h4 := ha.append h3 (.inl ha3)
 unfold putC
 simpa using h4
theorem chain_next {L : List Ty} {W : List Nat} : ∀ {cs : List Ce} {g e : Nat}, Chain L W g cs e → ∀ {j : Nat} {c d : Ce}, cs[j]? = some c → cs[j + 1]? = some d → d.1 = c.1 + c.2.size
 | [], _, _, _, _, _, _, h, _ => by simp at h
 | x :: cs, g, e, hC, 0, c, d, hc, hd => by
  obtain rfl : x = c := by simpa using hc
  obtain ⟨h1, -, h3⟩ := hC
  cases cs with
  | nil => simp at hd
  | cons y cs =>
   obtain rfl : y = d := by simpa using hd
   rw [h3.1, h1]
 | x :: cs, g, e, hC, j + 1, c, d, hc, hd => chain_next hC.2.2 (j := j) (by simpa using hc) (by simpa using hd)
theorem chain_first {L : List Ty} {W : List Nat} {cs : List Ce} {g e : Nat} (hC : Chain L W g cs e) {c : Ce} (hc : cs[0]? = some c) : c.1 = g := by
 cases cs with
 | nil => simp at hc
 | cons x cs =>
  obtain rfl : x = c := by simpa using hc
  exact hC.1
theorem take_next {cs : List Ce} {j : Nat} {d : Ce} (h : cs[j]? = some d) : cs.take (j + 1) = cs.take j ++ [d] := by rw [List.take_add_one, h]; rfl
theorem drop_next {cs : List Ce} {j : Nat} {d : Ce} (h : cs[j]? = some d) : cs.drop j = d :: cs.drop (j + 1) := by
 obtain ⟨hj, rfl⟩ := List.getElem?_eq_some_iff.1 h
 exact List.drop_eq_getElem_cons hj
def Dn (cs : List Ce) (F j x : Nat) : Prop := (∃ d, cs[j]? = some d ∧ d.1 = x) ∧ dropFrm 0 (cs.take j) = F
theorem Dn.first {L : List Ty} {W : List Nat} {cs : List Ce} {e F x : Nat} (hC : Chain L W 0 cs e) (h : Dn cs F 0 x) : x = F := by
 obtain ⟨⟨d, h1, rfl⟩, h2⟩ := h
 rw [chain_first hC h1, ← h2]
 rfl
theorem Dn.obj {L : List Ty} {W : List Nat} {cs : List Ce} {e F x j : Nat} (hC : Chain L W 0 cs e) (h : Dn cs F (j + 1) x) {d : Ce} (hd : cs[j]? = some d) (ht : d.2.tag = 1) : x = F := by
 obtain ⟨⟨d', h1, rfl⟩, h2⟩ := h
 rw [chain_next hC hd h1, ← h2, take_next hd, dropFrm_append, dropFrm, if_pos ht]
 rfl
theorem Dn.gap {cs : List Ce} {F x j : Nat} (h : Dn cs F (j + 1) x) {d : Ce} (hd : cs[j]? = some d) (ht : d.2.tag ≠ 1) : Dn cs F j d.1 := by
 obtain ⟨-, h2⟩ := h
 refine ⟨⟨d, hd, rfl⟩, ?_⟩
 rw [← h2, take_next hd, dropFrm_append, dropFrm, if_neg ht]
 rfl
theorem dropTill_here {cs : List Ce} {m : Nat} {d : Ce} (h : cs[m]? = some d) (t : Nat) (ht : d.2.tag = 1) : dropTill t (cs.drop m) = t := by rw [drop_next h, dropTill, if_pos ht]
theorem dropTill_on {cs : List Ce} {m : Nat} {d : Ce} (h : cs[m]? = some d) (t : Nat) (ht : d.2.tag ≠ 1) : dropTill t (cs.drop m) = dropTill (d.1 + d.2.size) (cs.drop (m + 1)) := by rw [drop_next h, dropTill, if_neg ht]
theorem dropTill_end {cs : List Ce} {m : Nat} (h : cs.length ≤ m) (t : Nat) : dropTill t (cs.drop m) = t := by rw [List.drop_eq_nil_of_le h]; rfl
/-! ### A Settle -/
theorem objq_some {L : List Ty} {W : List Nat} {g : Int} {h : Hd} (hg : objq L W g = some h) : 0 ≤ g ∧ stands L W g.toNat h ∧ h.tag = 1 := by
 unfold objq at hg
 cases hh : headAt W g with
 | none => rw [hh] at hg; cases hg
 | some h' =>
  rw [hh] at hg
  simp only at hg
  split at hg
  · rename_i hc
    cases hg
    obtain ⟨h1, h2, h3, -⟩ := headAt_some hh
    obtain ⟨g, rfl⟩ : ∃ q : Nat, g = q := ⟨g.toNat, by omega⟩
    refine ⟨h2, ⟨?_, (fit_iff L h).1 hc.2.1, by rw [Int.toNat_natCast]; omega⟩, hc.1⟩
    have hlt : 2 * g < W.length := by omega
    refine ⟨W[2 * g], List.getElem?_eq_getElem hlt, ?_⟩
    have := (headAt_in (W := W) (g := g) (v := W[2 * g]) (by omega) (List.getElem?_eq_getElem hlt)).1
    rw [← this, hh]
  · cases hg
theorem objq_of {L : List Ty} {W : List Nat} {g : Nat} {h : Hd} (hs : stands L W g h) (ht : h.tag = 1) : objq L W (g : Int) = some h := by
 have hp := hs.pos
 obtain ⟨⟨v, h1, h2⟩, h3, h4⟩ := hs
 unfold objq
 rw [(headAt_in (by omega) h1).1, h2]
 simp only
 rw [if_pos ⟨ht, (fit_iff L h).2 h3, by omega⟩]
def endOf : Nat → List Ce → Nat
 | e, [] => e
 | _, c :: cs => endOf (c.1 + c.2.size) cs
theorem endOf_snoc : ∀ (os : List Ce) (c : Ce) (e : Nat), endOf e (os ++ [c]) = c.1 + c.2.size
 | [], _, _ => rfl
 | _ :: os, c, _ => endOf_snoc os c _
theorem rises_snoc {L : List Ty} {W : List Nat} : ∀ {os : List Ce} {c : Ce} {e : Nat}, rises L W e (os ++ [c]) ↔ rises L W e os ∧ endOf e os ≤ c.1 ∧ stands L W c.1 c.2 ∧ c.2.tag = 1
 | [], c, e => ⟨fun h => ⟨trivial, h.1, h.2.1, h.2.2.1⟩, fun h => ⟨h.2.1, h.2.2.1, h.2.2.2, trivial⟩⟩
 | d :: os, c, e => by
  constructor
  · intro h
    have h1 := rises_snoc.1 h.2.2.2
    exact ⟨⟨h.1, h.2.1, h.2.2.1, h1.1⟩, h1.2⟩
  · intro h
    exact ⟨h.1.1, h.1.2.1, h.1.2.2.1, rises_snoc.2 ⟨h.1.2.2.2, h.2⟩⟩
def cesAt (os : List Ce) : List Int := os.map fun c => (c.1 : Int)
def settles (L : List Ty) (W : List Nat) (at_ : List Int) (os : List Ce) : Prop := at_ = cesAt os ∧ rises L W 0 os
theorem noTouch_settleC (n : Nat) : ∀ (os : List Ce) (e : Nat), (∀ c ∈ os, c.2.tag = 1) → noTouch (settleC n os e)
 | [], e, _ => noTouch_gapc ..
 | c :: os, e, h => by
  rw [settleC]
  have h1 := noTouch_settleC n os (c.1 + c.2.size) fun d hd => h d (List.mem_cons_of_mem _ hd)
  have hc := h c (List.mem_cons_self ..)
  exact (noTouch_gapc _ _).append (h1.cons (.inl hc)) (.inr (.inr ⟨_, _, rfl, hc⟩))
end
section
open Go Go.RowKit Go.IntWalk
theorem Src.ce1 {w : World} {b off n cap : Nat} {cs : List Ce} (h : Src w (some ⟨b, off, none⟩) n cap 5 (ces cs)) {i : Nat} {c : Ce} (hi : cs[i]? = some c) :
  w.cell? ⟨b, off + i * 5, none⟩ = some (.int .i64 c.1) ∧ w.cell? ⟨b, off + i * 5 + 1, none⟩ = some (.int .u8 c.2.tag) ∧ w.cell? ⟨b, off + i * 5 + 4, none⟩ = some (.int .i64 c.2.size) :=
 have h1 := h.ce hi
 ⟨h1 0 _ rfl, h1 1 _ rfl, h1 4 _ rfl⟩
theorem drop9_none {w0 : World} (w : World) {rb lcap : Nat} {lao : Option Addr} {W : List Nat} {L : List Ty} {l R : List Blk} (hI : RefIs rb lao L.length lcap W l) (T : Turn [] w0 (l ++ R) w) (hS : Src w0 lao L.length lcap 3 (tys L)) (hTy : ∀ t ∈ L, TyIn t) (hL : L.length ≤ 1000) (hf : W.length ≤ 65536)
  (hu : ∀ v ∈ W, v < 18446744073709551616) (cs : List Ce) (hC : Chain L W 0 cs (W.length / 2)) (g : Int) (hno : ∀ c ∈ cs, ¬ ((c.1 : Int) = g ∧ c.2.tag = 1)) :
  Calls Tryz.prog 136 #[.pointer (some ⟨rb, 0, none⟩), .int .i64 g] w fun e w' => e = .returned (.int .i64 3) ∧ Turn [] w0 (l ++ R) w' := by
 obtain ⟨ao0, cap0, hR⟩ := hI.at_ T.has (hS.below T.below)
 have Hall := uh (all9 w hR hf hu hTy hL cs hC)
 have hlen := hC.len
 obtain ⟨z, hz⟩ : ∃ z : Nat, W.length / 2 = z := ⟨_, rfl⟩
 have hzb : z ≤ 32768 := by omega
 rw [hz] at hlen
 have HT := uh T
 have hCm := uh (fun c (h : c ∈ cs) => hC.mem c h)
 clear T hS hTy hu hC hR hI
 go_enter Tryz.func136, Tryz.ntmps136
 go_wp2_with fail
 refine Hall.out.mono ?_
 rintro e w2 ⟨a11, p11, l11, rfl, hrow11, T4⟩
 have HT4 := uh (HT.out.grow T4)
 have Hr11 := uh hrow11
 clear T4 HT hrow11
 go_wp2_with fail
 have HF := uh (fun (h : 0 < cs.length) => ((Hr11.out.src HT4.out.has).form (by rw [ces_length]; omega)))
 go_loopw [6] (fun v6 wr => ∃ i : Nat, i ≤ cs.length ∧ v6 = .int .i64 i ∧ Turn [] w0 (l11 ++ (l ++ R)) wr) (fun v6 _ => cs.length - (intOf v6).toNat)
 case atStart => exact ⟨0, Nat.zero_le _, by go_num, HT4.out⟩
 case round =>
  clear HT4
  obtain ⟨i, hi, rfl, T⟩ := hrel
  by_cases hlt : i < cs.length
  · have hlt' : (i : Int) < (cs.length : Int) := by omega
    obtain ⟨c, hc⟩ : ∃ c, cs[i]? = some c := ⟨cs[i], List.getElem?_eq_getElem hlt⟩
    have hn := hno c (List.mem_of_getElem? hc)
    obtain ⟨b, off, rfl, -⟩ := HF.out (by omega)
    obtain ⟨d0, d1, -⟩ := (Hr11.out.src T.has).ce1 hc
    obtain ⟨cg, ⟨xa, xb, xc, xd⟩⟩ := c
    simp only at hn d0 d1
    have HT2 := uh T
    clear T hc
    by_cases hg : (cg : Int) = g
    · have k1 : ((cg : Int) != g) = false := by rw [bne_eq_false_iff_eq]; exact hg
      have k2 : ((xa : Int) != 1) = true := by rw [bne_iff_ne]; intro h; exact hn ⟨hg, by omega⟩
      have k3 : (xa != 1) = true := by rw [bne_iff_ne]; intro h; exact hn ⟨hg, by omega⟩
      clear hg hn hno
      go_wp2_with fail
      go_roundw
      case rel => exact ⟨i + 1, by omega, by go_num, HT2.out⟩
      case measure => simp [intOf]; omega
    · have k1 : ((cg : Int) != g) = true := by rw [bne_iff_ne]; exact hg
      clear hg hn hno
      go_wp2_with fail
      go_roundw
      case rel => exact ⟨i + 1, by omega, by go_num, HT2.out⟩
      case measure => simp [intOf]; omega
  · have hnl : ¬ (i : Int) < (cs.length : Int) := by omega
    have HT2 := uh T.drop
    clear T hno
    go_wp2_with fail
    go_ret
    exact ⟨rfl, HT2.out⟩
theorem drop9 {w0 : World} (w : World) {rb lcap : Nat} {lao : Option Addr} {W : List Nat} {L : List Ty} {l R : List Blk} (hI : RefIs rb lao L.length lcap W l) (T : Turn [] w0 (l ++ R) w) (hS : Src w0 lao L.length lcap 3 (tys L)) (hTy : ∀ t ∈ L, TyIn t) (hL : L.length ≤ 1000) (hf : W.length ≤ 65536)
  (hu : ∀ v ∈ W, v < 18446744073709551616) (pre post : List Ce) (c : Ce) (hC : Chain L W 0 (pre ++ c :: post) (W.length / 2)) (ht : c.2.tag = 1) :
  Calls Tryz.prog 136 #[.pointer (some ⟨rb, 0, none⟩), .int .i64 c.1] w fun e w' => e = .returned (.int .i64 0) ∧ ∃ l', RefIs rb lao L.length lcap (dropW W pre c post) l' ∧ Turn [] w0 (l' ++ R) w' := by
 obtain ⟨ao0, cap0, hR⟩ := hI.at_ T.has (hS.below T.below)
 obtain ⟨cs, hcs⟩ : ∃ cs, pre ++ c :: post = cs := ⟨_, rfl⟩
 have Hall := uh (all9 w hR hf hu hTy hL _ hC)
 have hpre : ∀ (j : Nat) (d : Ce), j < pre.length → cs[j]? = some d → d.1 ≠ c.1 := by
  intro j d hj hd
  rw [← hcs, List.getElem?_append_left hj] at hd
  have h1 := (hC.split.1).mem d (List.mem_of_getElem? hd)
  have := h1.2.2.pos
  omega
 have hatc : cs[pre.length]? = some c := by rw [← hcs, List.getElem?_append_right (Nat.le_refl _), Nat.sub_self]; rfl
 have hdp : cs.drop (pre.length + 1) = post := by rw [← hcs]; simp
 have hC' : Chain L W 0 cs (W.length / 2) := by rw [← hcs]; exact hC
 have hD0 : Dn cs (dropFrm 0 pre) pre.length c.1 := ⟨⟨c, hatc, rfl⟩, by rw [← hcs, List.take_left]⟩
 obtain ⟨a, ga, gb, b0, e1, e2, -, -, -, -, hx1, hx2, hx3⟩ := drop_parts hC
 have hle1 := hx2.le
 have hle2 := hx3.le
 clear e1 e2 hx1 hx2 hx3 a ga gb b0
 have hlen := hC'.len
 rw [hcs] at Hall
 have hplt : pre.length < cs.length := (List.getElem?_eq_some_iff.1 hatc).1
 have Hlay := uh (fun w' (l1 : List Blk) (V : Turn [] w0 (l ++ l1) w') => lay9 w' (R := l1) hI V hf (dropFrm 0 pre) (dropTill (c.1 + c.2.size) post - dropFrm 0 pre) (by omega))
 unfold dropW
 have HC := uh hC'
 have Hpre := uh hpre
 have HT := uh T
 have HD0 := uh hD0
 have hCm := uh (fun c (h : c ∈ cs) => hC'.mem c h)
 rw [← hdp] at Hlay hle1 hle2 ⊢
 obtain ⟨p, hp⟩ : ∃ p, pre.length = p := ⟨_, rfl⟩
 obtain ⟨Fr, hFr⟩ : ∃ Fr, dropFrm 0 pre = Fr := ⟨_, rfl⟩
 rw [hp] at Hlay hle1 hle2 Hpre HD0 hatc hplt ⊢
 rw [hFr] at Hlay hle1 HD0 ⊢
 obtain ⟨z, hz⟩ : ∃ z : Nat, W.length / 2 = z := ⟨_, rfl⟩
 have hzb : z ≤ 32768 := by omega
 rw [hz] at hlen hle2 hCm HC
 have hcm := hCm.out c (List.mem_of_getElem? hatc)
 obtain ⟨cg, ⟨ca, cb, cc, cd⟩⟩ := c
 simp only at ht hcm Hlay hle1 hle2 HD0 Hpre ⊢
 subst ht
 have hcb : cg + cd ≤ z := hcm.2.1
 obtain ⟨Ti, hTi⟩ : ∃ Ti, dropTill (cg + cd) (cs.drop (p + 1)) = Ti := ⟨_, rfl⟩
 rw [hTi] at Hlay hle1 hle2 ⊢
 have HTi := uh hTi
 clear T hS hTy hu hC hR hI hC' hpre hD0 hdp hcs hz hp hFr hcm hTi pre post
 go_enter Tryz.func136, Tryz.ntmps136
 go_wp2_with fail
 refine Hall.out.mono ?_
 rintro e w2 ⟨a11, p11, l11, rfl, hrow11, T4⟩
 have HT4 := uh (HT.out.grow T4)
 have Hr11 := uh hrow11
 clear T4 HT hrow11
 go_wp2_with fail
 obtain ⟨b, off, rfl, -⟩ := ((Hr11.out.src HT4.out.has).form (by rw [ces_length]; omega))
 go_loopw [6] (fun v6 wr => ∃ i : Nat, i ≤ p ∧ v6 = .int .i64 i ∧ Turn [] w0 (l11 ++ (l ++ R)) wr) (fun v6 _ => cs.length - (intOf v6).toNat)
 case atStart => exact ⟨0, Nat.zero_le _, by go_num, HT4.out⟩
 case round =>
  clear HT4
  obtain ⟨i, hi, rfl, T⟩ := hrel
  have hlt' : (i : Int) < (cs.length : Int) := by omega
  by_cases hlt : i < p
  · obtain ⟨d, hd⟩ : ∃ c, cs[i]? = some c := ⟨cs[i]'(by omega), List.getElem?_eq_getElem _⟩
    have hne := Hpre.out i d hlt hd
    obtain ⟨d0, -, -⟩ := (Hr11.out.src T.has).ce1 hd
    have k1 : ((d.1 : Int) != (cg : Int)) = true := by rw [bne_iff_ne]; omega
    have k2 : (d.1 != cg) = true := by rw [bne_iff_ne]; exact hne
    have HT2 := uh T
    clear T hd hne
    go_wp2_with fail
    go_roundw
    case rel => exact ⟨i + 1, by omega, by go_num, HT2.out⟩
    case measure => simp [intOf]; omega
  · obtain rfl : i = p := by omega
    obtain ⟨d0, d1, d4⟩ := (Hr11.out.src T.has).ce1 hatc
    simp only at d0 d1 d4
    have HT2 := uh T
    clear T
    go_upto_region 6 with fail
    go_quiet (fail)
    clear d0 d1 d4
    go_wp2_with fail
    go_loopw [7, 9] (fun v7 v9 wr => ∃ j x : Nat, j ≤ i ∧ v9 = .int .i64 ((j : Int) - 1) ∧ v7 = .int .i64 x ∧ Dn cs Fr j x ∧ Turn [] w0 (l11 ++ (l ++ R)) wr) (fun _ v9 _ => (intOf v9 + 1).toNat)
    case atStart => exact ⟨i, cg, Nat.le_refl _, by go_num, rfl, HD0.out, HT2.out.drewN _⟩
    case round =>
     clear HT2
     obtain ⟨j, x, hj, rfl, rfl, hdn, T⟩ := hrel
     by_cases hexit : j = 0 ∨ ∃ j' d, j = j' + 1 ∧ cs[j']? = some d ∧ d.2.tag = 1
     · obtain rfl : x = Fr := by
         rcases hexit with rfl | ⟨j', d, rfl, hd, hdt⟩
         · exact hdn.first HC.out
         · exact hdn.obj HC.out hd hdt
       have HT3 := uh T
       clear hdn hj HD0
       rcases hexit with rfl | ⟨j', d, rfl, hd, hdt⟩
       case' inl => (clear T; go_wp2_with fail)
       case' inr => (
        obtain ⟨-, d1, -⟩ := (Hr11.out.src T.has).ce1 hd
        rw [hdt] at d1
        have hjl : j' < cs.length := (List.getElem?_eq_some_iff.1 hd).1
        have hjl2 : (j' : Int) < (cs.length : Int) := by omega
        clear T hd hdt
        go_wp2_with fail
        clear d1 hjl hjl2)
       all_goals (
        go_loopw [8, 10] (fun v8 v10 wr => ∃ m t : Nat, i < m ∧ m ≤ cs.length ∧ v10 = .int .i64 m ∧ v8 = .int .i64 t ∧ dropTill t (cs.drop m) = Ti ∧ t ≤ z ∧ Turn [] w0 (l11 ++ (l ++ R)) wr) (fun _ v10 _ => cs.length - (intOf v10).toNat)
        case atStart => exact ⟨i + 1, cg + cd, by omega, by omega, by go_num, by go_num, HTi.out, hcb, HT3.out⟩
        case round =>
         clear HT3 HTi
         obtain ⟨m, t, hm1, hm2, rfl, rfl, hti, htz, T⟩ := hrel
         by_cases hexit : m = cs.length ∨ ∃ d, cs[m]? = some d ∧ d.2.tag = 1
         · obtain rfl : t = Ti := by
             rcases hexit with rfl | ⟨d, hd, hdt⟩
             · rw [dropTill_end (Nat.le_refl _)] at hti; exact hti
             · rw [dropTill_here hd _ hdt] at hti; exact hti
           have HT3 := uh (T.perm (l2 := l ++ (l11 ++ R)) po)
           have HL := uh (fun w' V => Hlay.out w' (l11 ++ R) V)
           have hsub : (t : Int) - (x : Int) = ((t - x : Nat) : Int) := by omega
           clear hti Hlay
           rcases hexit with hml | ⟨d, hd, hdt⟩
           case' inl => (
            have k1 : ¬ (m : Int) < (cs.length : Int) := by omega
            clear T hml
            go_wp2_with fail)
           case' inr => (
            obtain ⟨-, d1, -⟩ := (Hr11.out.src T.has).ce1 hd
            rw [hdt] at d1
            have hjl : m < cs.length := (List.getElem?_eq_some_iff.1 hd).1
            have hjl2 : (m : Int) < (cs.length : Int) := by omega
            clear T hd hdt
            go_wp2_with fail)
           all_goals (
            refine (HL.out _ HT3.out).mono ?_
            rintro e W7 ⟨⟨u, rfl⟩, l7, hI7, T7⟩
            have HT7 := uh ((T7.perm (l2 := l11 ++ (l7 ++ R)) po).drop)
            have HI7 := uh hI7
            clear T7 hI7 HT3 HL
            go_wp2_with fail
            go_ret
            exact ⟨rfl, l7, HI7.out, HT7.out⟩)
         · have hml : m < cs.length := by
             rcases Nat.lt_or_ge m cs.length with h | h
             · exact h
             · exact absurd (.inl (by omega)) hexit
           obtain ⟨d, hd⟩ : ∃ c, cs[m]? = some c := ⟨cs[m], List.getElem?_eq_getElem hml⟩
           have hdt : d.2.tag ≠ 1 := fun h => hexit (.inr ⟨d, hd, h⟩)
           rw [dropTill_on hd _ hdt] at hti
           have hdb := (hCm.out d (List.mem_of_getElem? hd)).2.1
           obtain ⟨d0, d1, d4⟩ := (Hr11.out.src T.has).ce1 hd
           have k1 : ((d.2.tag : Int) != 1) = true := by rw [bne_iff_ne]; omega
           have k2 : (d.2.tag != 1) = true := by rw [bne_iff_ne]; exact hdt
           have hjl2 : (m : Int) < (cs.length : Int) := by omega
           obtain ⟨dg, ⟨da, db, dc, dd⟩⟩ := d
           simp only at d0 d1 d4 hdb hti k1 k2
           have Hti := uh hti
           have HT3 := uh T
           clear T hd hdt hexit hti
           go_upto_region 14 with fail
           go_quiet (fail)
           clear d0 d1 d4
           go_wp2_with fail
           go_roundw
           case rel => exact ⟨m + 1, dg + dd, by omega, by omega, by go_num, by go_num, Hti.out, hdb, HT3.out.drewN _⟩
           case measure => simp [intOf]; omega)
     · have hj0 : j ≠ 0 := fun h => hexit (.inl h)
       obtain ⟨j', rfl⟩ : ∃ j', j = j' + 1 := ⟨j - 1, by omega⟩
       obtain ⟨d, hd⟩ : ∃ c, cs[j']? = some c := ⟨cs[j']'(by omega), List.getElem?_eq_getElem _⟩
       have hdt : d.2.tag ≠ 1 := fun h => hexit (.inr ⟨j', d, rfl, hd, h⟩)
       have hdn2 := uh (hdn.gap hd hdt)
       obtain ⟨d0, d1, -⟩ := (Hr11.out.src T.has).ce1 hd
       have k1 : ((d.2.tag : Int) != 1) = true := by rw [bne_iff_ne]; omega
       have k2 : (d.2.tag != 1) = true := by rw [bne_iff_ne]; exact hdt
       have hjl2 : (j' : Int) < (cs.length : Int) := by omega
       have HT3 := uh T
       clear T hd hdt hexit hdn
       go_wp2_with fail
       go_roundw
       case rel => exact ⟨j', d.1, by omega, by go_num, rfl, hdn2.out, HT3.out⟩
       case measure => simp [intOf]
theorem stands_ty {L : List Ty} {W : List Nat} {g : Nat} {h : Hd} (hs : stands L W g h) (ht : h.tag = 1) (hTy : ∀ t ∈ L, TyIn t) : (tyAt L h.typ).err h.len = 0 ∧ TyIn (tyAt L h.typ) := by
 have h1 := (fit_iff L h).2 hs.2.1
 unfold fitErr at h1
 rw [if_neg (by simpa using hs.2.1.1), if_neg (by simpa using ht)] at h1
 have h2 : tyErr L h.typ h.len = 0 := by
  by_cases h9 : tyErr L h.typ h.len = 0
  · exact h9
  · rw [if_neg (fun x => h9 x.1)] at h1; exact absurd h1 (by decide)
 unfold tyErr at h2
 unfold tyAt
 cases hg : getTy L h.typ with
 | none => rw [hg] at h2; exact absurd h2 (by simp)
 | some t =>
  rw [hg] at h2
  obtain ⟨k, -, hk, -⟩ := getTy_some hg
  exact ⟨h2, hTy t (List.mem_of_getElem? hk)⟩
theorem step_store {P : Program} {ops : Array Oper} {Q : Exit → Act → World → Prop} {o : Oper} {ts : List Value} {ds : List Deferred} {K : Act → World → Prop} {E : Prop} {w : World} (hdst : o.dst = none) (hg : o.guard = none) (ty : TypeId) (x y : Operand) (ho : o.op = .store ty x y)
  (b off : Nat) (cells : Array Value) (hx : Act.eval { tmps := ts.toArray, defers := ds } x = .pointer (some ⟨b, off, none⟩)) (hy : Act.eval { tmps := ts.toArray, defers := ds } y = .agg cells)
  (ht : w.there b off cells.size) (hi : (P.info? ty).map (·.size) = some cells.size) (h1 : cells.all (·.oneCell') = true) (hK : K { tmps := ts.toArray, defers := ds } (w.setCells b off cells.toList)) :
  if Region.wanted o (yielded ops (Act.tmps { tmps := ts.toArray, defers := ds })) = true then Oper.wp P o { tmps := ts.toArray, defers := ds } w K Q else E := by
 have hw : Region.wanted o (yielded ops (Act.tmps { tmps := ts.toArray, defers := ds })) = true := by simp [Region.wanted, hg]
 rw [if_pos hw]
 refine wp_store_mid ty x y ho b off cells hx hy ht hi h1 ?_
 simpa [Act.put, hdst] using hK
theorem any_mid {I G : Nat → Nat → World → Prop} {C : Prop} (h1 : Hid (∀ bh bt V, I bh bt V → G bh bt V) → C) (h2 : ∀ bh bt V, I bh bt V → G bh bt V) : C := h1 (uh h2)
theorem wp_mid {P : Program} {c : Code} {Q : Exit → Act → World → Prop} {a : Act} {w : World} {I : Nat → Nat → World → Prop} {F : Nat → Nat → Act} (h : c.wp P (fun e a w => e = .normal ∧ ∃ bh bt : Nat, a = F bh bt ∧ I bh bt w) a w) (hq : ∀ bh bt w, I bh bt w → Q .normal (F bh bt) w) : c.wp P Q a w :=
 wp_mono h fun e a w ⟨he, bh, bt, ha, hI⟩ => by subst he; subst ha; exact hq bh bt w hI
theorem slots9 {w0 : World} (w : World) {rb lcap : Nat} {lao : Option Addr} {W : List Nat} {L : List Ty} {l R : List Blk} (hI : RefIs rb lao L.length lcap W l) (T : Turn [] w0 (l ++ R) w) (hS : Src w0 lao L.length lcap 3 (tys L)) (hTy : ∀ t ∈ L, TyIn t) (hL : L.length ≤ 1000) (hf : W.length ≤ 65536)
  (hu : ∀ v ∈ W, v < 18446744073709551616) (pre post : List Ce) (c : Ce) (hC : Chain L W 0 (pre ++ c :: post) (W.length / 2)) (ht : c.2.tag = 1) :
  Calls Tryz.prog 137 #[.pointer (some ⟨rb, 0, none⟩), .int .i64 c.1] w fun e w' => e = .returned (.int .i64 ((tyAt L c.2.typ).slots c.2.len : Nat)) ∧ Turn [] w0 (l ++ R) w' := by
 obtain ⟨ao0, cap0, hR⟩ := hI.at_ T.has (hS.below T.below)
 obtain ⟨cs, hcs⟩ : ∃ cs, pre ++ c :: post = cs := ⟨_, rfl⟩
 have Hall := uh (all9 w hR hf hu hTy hL _ hC)
 have hpre : ∀ (j : Nat) (d : Ce), j < pre.length → cs[j]? = some d → d.1 ≠ c.1 := by
  intro j d hj hd
  rw [← hcs, List.getElem?_append_left hj] at hd
  have h1 := (hC.split.1).mem d (List.mem_of_getElem? hd)
  have := h1.2.2.pos
  omega
 have hatc : cs[pre.length]? = some c := by rw [← hcs, List.getElem?_append_right (Nat.le_refl _), Nat.sub_self]; rfl
 have hstc := hC.split.2.1
 have hC' : Chain L W 0 cs (W.length / 2) := by rw [← hcs]; exact hC
 have hlen := hC'.len
 rw [hcs] at Hall
 have hplt : pre.length < cs.length := (List.getElem?_eq_some_iff.1 hatc).1
 have hoq := objq_of hstc ht
 have hte : (tyAt L c.2.typ).err c.2.len = 0 ∧ TyIn (tyAt L c.2.typ) := by
  exact stands_ty hstc ht hTy
 obtain ⟨ao, cap, lr, hrow, rfl⟩ := hI
 have Hof := uh (fun w' (l11 Y : List Blk) (V : Turn [] w0 (Y ++ (l11 ++ ((rb, .cells #[.slice ao W.length cap, .slice lao L.length lcap] 109) :: lr ++ R))) w') => of8 w' ao cap (hrow.src (R := (Y ++ l11) ++ ((rb, .cells #[.slice ao W.length cap, .slice lao L.length lcap] 109) :: R)) (V.has.perm po)) hf hu L hTy hL lao lcap (hS.below V.below) (c.1 : Int))
 rw [hoq] at Hof
 simp only at Hof
 have Hsl := uh (fun w' => rslots w' (tyAt L c.2.typ) hte.2 c.2.len)
 rw [if_pos hte.1, hte.1, Int.toNat_natCast] at Hsl
 have HS0 := uh (fun w' (l11 Y : List Blk) (V : Turn [] w0 (Y ++ (l11 ++ ((rb, .cells #[.slice ao W.length cap, .slice lao L.length lcap] 109) :: lr ++ R))) w') =>
         (⟨V.has.cell (b := rb) (c := #[.slice ao W.length cap, .slice lao L.length lcap]) (e := 109) (f := (0, 0)) (by simp) 0, V.has.cell (b := rb) (c := #[.slice ao W.length cap, .slice lao L.length lcap]) (e := 109) (f := (0, 0)) (by simp) 1⟩ : w'.cell? ⟨rb, 0, none⟩ = some (.slice ao W.length cap) ∧ w'.cell? ⟨rb, 1, none⟩ = some (.slice lao L.length lcap)))
 have hszH := sz_head
 have hszT := sz_type
 have Hpre := uh hpre
 have HT := uh T
 have hzb : W.length / 2 ≤ 32768 := by omega
 generalize tyAt L c.2.typ = t at *
 obtain ⟨tk, tw, tm⟩ := t
 obtain ⟨p, hp⟩ : ∃ p, pre.length = p := ⟨_, rfl⟩
 rw [hp] at Hpre hatc hplt
 obtain ⟨cg, ⟨ca, cb, cc, cd⟩⟩ := c
 simp only at ht Hpre Hof Hsl hlen ⊢
 subst ht
 have hoH := hd_one ⟨1, cb, cc, cd⟩
 have hoT := ty_one ⟨tk, tw, tm⟩
 simp only at hoH hoT
 generalize hsv : Ty.slots ⟨tk, tw, tm⟩ cc = sv at *
 clear T hS hTy hu hC hR hC' hpre hcs hp hstc hrow hte hoq hsv pre post
 go_enter Tryz.func137, Tryz.ntmps137
 go_wp2_with fail
 refine Hall.out.mono ?_
 rintro e w2 ⟨a11, p11, l11, rfl, hrow11, T4⟩
 have HT4 := uh (HT.out.grow T4)
 have Hr11 := uh hrow11
 have HS := uh (fun w' Y V => HS0.out w' l11 Y V)
 have Hof := uh (fun w' Y V => Hof.out w' l11 Y V)
 clear T4 HT hrow11 HS0
 go_wp2_with fail
 obtain ⟨b, off, rfl, -⟩ := ((Hr11.out.src HT4.out.has).form (by rw [ces_length]; omega))
 go_loopw [6] (fun v6 wr => ∃ i : Nat, i ≤ p ∧ v6 = .int .i64 i ∧ Turn [] w0 (l11 ++ ((rb, .cells #[.slice ao W.length cap, .slice lao L.length lcap] 109) :: lr ++ R)) wr) (fun v6 _ => cs.length - (intOf v6).toNat)
 case atStart => exact ⟨0, Nat.zero_le _, by go_num, HT4.out⟩
 case round =>
  clear HT4
  obtain ⟨i, hi, rfl, T⟩ := hrel
  have hlt' : (i : Int) < (cs.length : Int) := by omega
  by_cases hlt : i < p
  · obtain ⟨d, hd⟩ : ∃ c, cs[i]? = some c := ⟨cs[i]'(by omega), List.getElem?_eq_getElem _⟩
    have hne := Hpre.out i d hlt hd
    obtain ⟨d0, -, -⟩ := (Hr11.out.src T.has).ce1 hd
    have k1 : ((d.1 : Int) == (cg : Int)) = false := by rw [beq_eq_false_iff_ne]; omega
    have k2 : (d.1 == cg) = false := by rw [beq_eq_false_iff_ne]; exact hne
    have HT2 := uh T
    clear T hd hne
    go_wp2_with fail
    go_roundw
    case rel => exact ⟨i + 1, by omega, by go_num, HT2.out⟩
    case measure => simp [intOf]; omega
  · obtain rfl : i = p := by omega
    obtain ⟨d0, d1, -⟩ := (Hr11.out.src T.has).ce1 hatc
    simp only at d0 d1
    have HT2 := uh T.drew
    clear T
    go_upto_region 6 with fail
    clear d0 d1
    refine wp_abs (fun W' => Turn [] w0 (l11 ++ ((rb, .cells #[.slice ao W.length cap, .slice lao L.length lcap] 109) :: lr ++ R)) W'.drew) HT2.out fun W1 T1 => ?_
    have HT1 : Hid (Turn [] w0 (l11 ++ ((rb, .cells #[.slice ao W.length cap, .slice lao L.length lcap] 109) :: lr ++ R)) W1.drew) := uh T1
    clear T1 HT2
    apply wp_mid (I := fun bh bt w => Turn [] w0 ((bh, .cells #[.int .u8 1, .int .i64 cb, .int .i64 cc, .int .i64 cd] 79) :: (bt, .cells #[.int .u8 tk, .int .i64 tw, .int .u64 tm] 49) :: (l11 ++ ((rb, .cells #[.slice ao W.length cap, .slice lao L.length lcap] 109) :: lr ++ R))) w)
    case h =>
     have hS1 := HS.out _ [] HT1.out
     refine wp_region_noPanic ?_
     refine wp_region_listed (S := fun W' => W'.cell? ⟨rb, 0, none⟩ = some (.slice ao W.length cap) ∧ W'.cell? ⟨rb, 1, none⟩ = some (.slice lao L.length lcap)) 19 [false, false, false, false, false, false, false, false, false, false, false, false, false, false, false, false, false, false, false] rfl rfl (by kernel_rfl) ?_
     refine tkA 0 37 hS1 ?_
     refine tkA 1 38 hS1 ?_
     refine tkA 2 39 hS1 ?_
     refine tkB 3 40 hS1 (fun w hSw => hSw.1) ?_
     refine tkA 4 41 hS1 ?_
     refine tkA 5 42 hS1 ?_
     refine tkA 6 43 hS1 ?_
     refine tkB 7 44 hS1 (fun w hSw => hSw.2) ?_
     refine tkA 8 45 hS1 ?_
     have T0 : Turn [] w0 ([] ++ (l11 ++ ((rb, .cells #[.slice ao W.length cap, .slice lao L.length lcap] 109) :: lr ++ R))) W1.drew := HT1.out
     clear hS1
     generalize W1.drew = V0 at T0 ⊢
     have HT0h := uh T0
     clear T0
     apply any_mid (I := fun bh bt V => Turn [] w0 ((bh, .cells #[.int .u8 0, .int .i64 0, .int .i64 0, .int .i64 0] 79) :: (bt, .cells #[.int .u8 0, .int .i64 0, .int .u64 0] 49) :: (l11 ++ ((rb, .cells #[.slice ao W.length cap, .slice lao L.length lcap] 109) :: lr ++ R))) V)
     case h1 =>
      intro hG
      have T0 := HT0h.out
      refine wpAnyH_ready (rs := [9, 14, 15]) (by kernel_rfl) (by simp) (AllReadyH.cons rfl (fun K hK => ?_) (AllReadyH.cons rfl (fun K hK => ?_) (AllReadyH.cons rfl (fun K hK => ?_) AllReadyH.nil)))
      · go_simp
        refine (Hof.out _ _ T0).mono ?_
        rintro e V1 ⟨rfl, hB⟩
        have T1 := T0.call hB
        refine hK.out _ _ (HS.out _ _ T1) fun _ => ?_
        clear hK K hB T0
        simp only [st0, st1, st2]
        have hS1 := HS.out _ _ T1
        refine tkA 10 36 hS1 ?_
        refine tkA 11 47 hS1 ?_
        refine tkA 12 48 hS1 ?_
        refine tkA 13 49 hS1 ?_
        clear hS1
        refine wpAnyH_ready (rs := [14, 15]) (by kernel_rfl) (by simp) (AllReadyH.cons rfl (fun K hK => ?_) (AllReadyH.cons rfl (fun K hK => ?_) AllReadyH.nil))
        · go_simp
          have T2 : Turn [] w0 ([(V1.heap.size, .cells #[.int .u8 0, .int .i64 0, .int .i64 0, .int .i64 0] 79)] ++ (l11 ++ ((rb, .cells #[.slice ao W.length cap, .slice lao L.length lcap] 109) :: lr ++ R))) (V1.alloc (.cells #[.int .u8 0, .int .i64 0, .int .i64 0, .int .i64 0] 79)) := T1.alloc (.cells #[.int .u8 0, .int .i64 0, .int .i64 0, .int .i64 0] 79)
          refine hK.out _ _ (HS.out _ _ T2) fun _ => ?_
          clear hK K T1
          simp only [st0, st1, st2]
          generalize V1.alloc (.cells #[.int .u8 0, .int .i64 0, .int .i64 0, .int .i64 0] 79) = V2 at *
          generalize V1.heap.size = bh at *
          refine rdyA 15 (fun K hK => ?_)
          · go_simp
            have T3 : Turn [] w0 ([(V2.heap.size, .cells #[.int .u8 0, .int .i64 0, .int .u64 0] 49), (bh, .cells #[.int .u8 0, .int .i64 0, .int .i64 0, .int .i64 0] 79)] ++ (l11 ++ ((rb, .cells #[.slice ao W.length cap, .slice lao L.length lcap] 109) :: lr ++ R))) (V2.alloc (.cells #[.int .u8 0, .int .i64 0, .int .u64 0] 49)) := T2.alloc (.cells #[.int .u8 0, .int .i64 0, .int .u64 0] 49)
            refine hK.out _ _ (HS.out _ _ T3) fun _ => ?_
            clear hK K T2
            simp only [st0, st1, st2]
            generalize V2.alloc (.cells #[.int .u8 0, .int .i64 0, .int .u64 0] 49) = V3 at *
            generalize V2.heap.size = bt at *
            exact hG.out bh bt V3 (T3.perm po)
        · go_simp
          have T2 : Turn [] w0 ([(V1.heap.size, .cells #[.int .u8 0, .int .i64 0, .int .u64 0] 49)] ++ (l11 ++ ((rb, .cells #[.slice ao W.length cap, .slice lao L.length lcap] 109) :: lr ++ R))) (V1.alloc (.cells #[.int .u8 0, .int .i64 0, .int .u64 0] 49)) := T1.alloc (.cells #[.int .u8 0, .int .i64 0, .int .u64 0] 49)
          refine hK.out _ _ (HS.out _ _ T2) fun _ => ?_
          clear hK K T1
          simp only [st0, st1, st2]
          generalize V1.alloc (.cells #[.int .u8 0, .int .i64 0, .int .u64 0] 49) = V2 at *
          generalize V1.heap.size = bt at *
          refine rdyA 14 (fun K hK => ?_)
          · go_simp
            have T3 : Turn [] w0 ([(V2.heap.size, .cells #[.int .u8 0, .int .i64 0, .int .i64 0, .int .i64 0] 79), (bt, .cells #[.int .u8 0, .int .i64 0, .int .u64 0] 49)] ++ (l11 ++ ((rb, .cells #[.slice ao W.length cap, .slice lao L.length lcap] 109) :: lr ++ R))) (V2.alloc (.cells #[.int .u8 0, .int .i64 0, .int .i64 0, .int .i64 0] 79)) := T2.alloc (.cells #[.int .u8 0, .int .i64 0, .int .i64 0, .int .i64 0] 79)
            refine hK.out _ _ (HS.out _ _ T3) fun _ => ?_
            clear hK K T2
            simp only [st0, st1, st2]
            generalize V2.alloc (.cells #[.int .u8 0, .int .i64 0, .int .i64 0, .int .i64 0] 79) = V3 at *
            generalize V2.heap.size = bh at *
            exact hG.out bh bt V3 (T3.perm po)
      · go_simp
        have T1 : Turn [] w0 ([(V0.heap.size, .cells #[.int .u8 0, .int .i64 0, .int .i64 0, .int .i64 0] 79)] ++ (l11 ++ ((rb, .cells #[.slice ao W.length cap, .slice lao L.length lcap] 109) :: lr ++ R))) (V0.alloc (.cells #[.int .u8 0, .int .i64 0, .int .i64 0, .int .i64 0] 79)) := T0.alloc (.cells #[.int .u8 0, .int .i64 0, .int .i64 0, .int .i64 0] 79)
        refine hK.out _ _ (HS.out _ _ T1) fun _ => ?_
        clear hK K T0
        simp only [st0, st1, st2]
        generalize V0.alloc (.cells #[.int .u8 0, .int .i64 0, .int .i64 0, .int .i64 0] 79) = V1 at *
        generalize V0.heap.size = bh at *
        refine wpAnyH_ready (rs := [9, 15]) (by kernel_rfl) (by simp) (AllReadyH.cons rfl (fun K hK => ?_) (AllReadyH.cons rfl (fun K hK => ?_) AllReadyH.nil))
        · go_simp
          refine (Hof.out _ _ T1).mono ?_
          rintro e V2 ⟨rfl, hB⟩
          have T2 := T1.call hB
          refine hK.out _ _ (HS.out _ _ T2) fun _ => ?_
          clear hK K hB T1
          simp only [st0, st1, st2]
          have hS2 := HS.out _ _ T2
          refine tkA 10 36 hS2 ?_
          refine tkA 11 47 hS2 ?_
          refine tkA 12 48 hS2 ?_
          refine tkA 13 49 hS2 ?_
          clear hS2
          refine rdyA 15 (fun K hK => ?_)
          · go_simp
            have T3 : Turn [] w0 ([(V2.heap.size, .cells #[.int .u8 0, .int .i64 0, .int .u64 0] 49), (bh, .cells #[.int .u8 0, .int .i64 0, .int .i64 0, .int .i64 0] 79)] ++ (l11 ++ ((rb, .cells #[.slice ao W.length cap, .slice lao L.length lcap] 109) :: lr ++ R))) (V2.alloc (.cells #[.int .u8 0, .int .i64 0, .int .u64 0] 49)) := T2.alloc (.cells #[.int .u8 0, .int .i64 0, .int .u64 0] 49)
            refine hK.out _ _ (HS.out _ _ T3) fun _ => ?_
            clear hK K T2
            simp only [st0, st1, st2]
            generalize V2.alloc (.cells #[.int .u8 0, .int .i64 0, .int .u64 0] 49) = V3 at *
            generalize V2.heap.size = bt at *
            exact hG.out bh bt V3 (T3.perm po)
        · go_simp
          have T2 : Turn [] w0 ([(V1.heap.size, .cells #[.int .u8 0, .int .i64 0, .int .u64 0] 49), (bh, .cells #[.int .u8 0, .int .i64 0, .int .i64 0, .int .i64 0] 79)] ++ (l11 ++ ((rb, .cells #[.slice ao W.length cap, .slice lao L.length lcap] 109) :: lr ++ R))) (V1.alloc (.cells #[.int .u8 0, .int .i64 0, .int .u64 0] 49)) := T1.alloc (.cells #[.int .u8 0, .int .i64 0, .int .u64 0] 49)
          refine hK.out _ _ (HS.out _ _ T2) fun _ => ?_
          clear hK K T1
          simp only [st0, st1, st2]
          generalize V1.alloc (.cells #[.int .u8 0, .int .i64 0, .int .u64 0] 49) = V2 at *
          generalize V1.heap.size = bt at *
          refine rdyA 9 (fun K hK => ?_)
          · go_simp
            refine (Hof.out _ _ T2).mono ?_
            rintro e V3 ⟨rfl, hB⟩
            have T3 := T2.call hB
            refine hK.out _ _ (HS.out _ _ T3) fun _ => ?_
            clear hK K hB T2
            simp only [st0, st1, st2]
            have hS3 := HS.out _ _ T3
            refine tkA 10 36 hS3 ?_
            refine tkA 11 47 hS3 ?_
            refine tkA 12 48 hS3 ?_
            refine tkA 13 49 hS3 ?_
            clear hS3
            exact hG.out bh bt V3 (T3.perm po)
      · go_simp
        have T1 : Turn [] w0 ([(V0.heap.size, .cells #[.int .u8 0, .int .i64 0, .int .u64 0] 49)] ++ (l11 ++ ((rb, .cells #[.slice ao W.length cap, .slice lao L.length lcap] 109) :: lr ++ R))) (V0.alloc (.cells #[.int .u8 0, .int .i64 0, .int .u64 0] 49)) := T0.alloc (.cells #[.int .u8 0, .int .i64 0, .int .u64 0] 49)
        refine hK.out _ _ (HS.out _ _ T1) fun _ => ?_
        clear hK K T0
        simp only [st0, st1, st2]
        generalize V0.alloc (.cells #[.int .u8 0, .int .i64 0, .int .u64 0] 49) = V1 at *
        generalize V0.heap.size = bt at *
        refine wpAnyH_ready (rs := [9, 14]) (by kernel_rfl) (by simp) (AllReadyH.cons rfl (fun K hK => ?_) (AllReadyH.cons rfl (fun K hK => ?_) AllReadyH.nil))
        · go_simp
          refine (Hof.out _ _ T1).mono ?_
          rintro e V2 ⟨rfl, hB⟩
          have T2 := T1.call hB
          refine hK.out _ _ (HS.out _ _ T2) fun _ => ?_
          clear hK K hB T1
          simp only [st0, st1, st2]
          have hS2 := HS.out _ _ T2
          refine tkA 10 36 hS2 ?_
          refine tkA 11 47 hS2 ?_
          refine tkA 12 48 hS2 ?_
          refine tkA 13 49 hS2 ?_
          clear hS2
          refine rdyA 14 (fun K hK => ?_)
          · go_simp
            have T3 : Turn [] w0 ([(V2.heap.size, .cells #[.int .u8 0, .int .i64 0, .int .i64 0, .int .i64 0] 79), (bt, .cells #[.int .u8 0, .int .i64 0, .int .u64 0] 49)] ++ (l11 ++ ((rb, .cells #[.slice ao W.length cap, .slice lao L.length lcap] 109) :: lr ++ R))) (V2.alloc (.cells #[.int .u8 0, .int .i64 0, .int .i64 0, .int .i64 0] 79)) := T2.alloc (.cells #[.int .u8 0, .int .i64 0, .int .i64 0, .int .i64 0] 79)
            refine hK.out _ _ (HS.out _ _ T3) fun _ => ?_
            clear hK K T2
            simp only [st0, st1, st2]
            generalize V2.alloc (.cells #[.int .u8 0, .int .i64 0, .int .i64 0, .int .i64 0] 79) = V3 at *
            generalize V2.heap.size = bh at *
            exact hG.out bh bt V3 (T3.perm po)
        · go_simp
          have T2 : Turn [] w0 ([(V1.heap.size, .cells #[.int .u8 0, .int .i64 0, .int .i64 0, .int .i64 0] 79), (bt, .cells #[.int .u8 0, .int .i64 0, .int .u64 0] 49)] ++ (l11 ++ ((rb, .cells #[.slice ao W.length cap, .slice lao L.length lcap] 109) :: lr ++ R))) (V1.alloc (.cells #[.int .u8 0, .int .i64 0, .int .i64 0, .int .i64 0] 79)) := T1.alloc (.cells #[.int .u8 0, .int .i64 0, .int .i64 0, .int .i64 0] 79)
          refine hK.out _ _ (HS.out _ _ T2) fun _ => ?_
          clear hK K T1
          simp only [st0, st1, st2]
          generalize V1.alloc (.cells #[.int .u8 0, .int .i64 0, .int .i64 0, .int .i64 0] 79) = V2 at *
          generalize V1.heap.size = bh at *
          refine rdyA 9 (fun K hK => ?_)
          · go_simp
            refine (Hof.out _ _ T2).mono ?_
            rintro e V3 ⟨rfl, hB⟩
            have T3 := T2.call hB
            refine hK.out _ _ (HS.out _ _ T3) fun _ => ?_
            clear hK K hB T2
            simp only [st0, st1, st2]
            have hS3 := HS.out _ _ T3
            refine tkA 10 36 hS3 ?_
            refine tkA 11 47 hS3 ?_
            refine tkA 12 48 hS3 ?_
            refine tkA 13 49 hS3 ?_
            clear hS3
            exact hG.out bh bt V3 (T3.perm po)
     case h2 =>
      intro bh bt V0 U0
      refine rdyA 16 (fun K hK => ?_)
      have hth0 := U0.there1
      have U1 := U0.laid [.int .u8 1, .int .i64 cb, .int .i64 cc, .int .i64 cd] rfl
      refine step_store rfl rfl 79 _ _ rfl _ 0 #[.int .u8 1, .int .i64 cb, .int .i64 cc, .int .i64 cd] rfl rfl hth0 hszH hoH ?_
      refine hK.out _ _ (HS.out _ [_, _] U1) fun _ => ?_
      clear hK K hth0
      simp only [st0, st1, st2]
      generalize V0.setCells bh 0 _ = V9 at *
      refine rdyA 17 (fun K hK => ?_)
      have hth1 := U1.there2
      have U2 := U1.laid2 [.int .u8 tk, .int .i64 tw, .int .u64 tm] rfl
      refine step_store rfl rfl 49 _ _ rfl _ 0 #[.int .u8 tk, .int .i64 tw, .int .u64 tm] rfl rfl hth1 hszT hoT ?_
      refine hK.out _ _ (HS.out _ [_, _] U2) fun _ => ?_
      clear hK K hth1
      simp only [st0, st1, st2]
      have hSz := HS.out _ [_, _] U2
      refine tkA 18 9 hSz ?_
      clear hSz
      refine wpAnyH_done (by kernel_rfl) ?_ _
      refine NoPanic.normal ?_
      exact ⟨rfl, bh, bt, rfl, U2⟩
    case hq =>
     intro bh bt w5 T5
     have hc3 := ((Hr11.out.src (R := (bh, .cells #[.int .u8 1, .int .i64 cb, .int .i64 cc, .int .i64 cd] 79) :: (bt, .cells #[.int .u8 tk, .int .i64 tw, .int .u64 tm] 49) :: ((rb, .cells #[.slice ao W.length cap, .slice lao L.length lcap] 109) :: lr ++ R)) (T5.has.perm po)).ce hatc) 3 _ rfl
     have Hk := uh (fun w' (lx : List Blk) (V : Turn [] w0 (lx ++ ((bh, .cells #[.int .u8 1, .int .i64 cb, .int .i64 cc, .int .i64 cd] 79) :: (bt, .cells #[.int .u8 tk, .int .i64 tw, .int .u64 tm] 49) :: (l11 ++ ((rb, .cells #[.slice ao W.length cap, .slice lao L.length lcap] 109) :: lr ++ R)))) w') =>
      (⟨V.has.range (b := bt) (c := #[.int .u8 tk, .int .i64 tw, .int .u64 tm]) (e := 49) (f := (0, 0)) (by simp), ((Hr11.out.src (R := lx ++ ((bh, .cells #[.int .u8 1, .int .i64 cb, .int .i64 cc, .int .i64 cd] 79) :: (bt, .cells #[.int .u8 tk, .int .i64 tw, .int .u64 tm] 49) :: ((rb, .cells #[.slice ao W.length cap, .slice lao L.length lcap] 109) :: lr ++ R))) (V.has.perm po)).ce hatc) 3 _ rfl⟩ :
        w'.rangeAt bt 0 [.int .u8 tk, .int .i64 tw, .int .u64 tm] ∧ w'.cell? ⟨b, off + i * 5 + 3, none⟩ = some (.int .i64 cc)))
     have T5' : Turn [] w0 ([] ++ ((bh, .cells #[.int .u8 1, .int .i64 cb, .int .i64 cc, .int .i64 cd] 79) :: (bt, .cells #[.int .u8 tk, .int .i64 tw, .int .u64 tm] 49) :: (l11 ++ ((rb, .cells #[.slice ao W.length cap, .slice lao L.length lcap] 109) :: lr ++ R)))) w5 := T5
     have HX := uh T5'.drew
     clear T5 T5' hc3 HS Hof
     go_upto_region 7 with fail
     refine wp_abs (fun W' => Turn [] w0 ([] ++ ((bh, .cells #[.int .u8 1, .int .i64 cb, .int .i64 cc, .int .i64 cd] 79) :: (bt, .cells #[.int .u8 tk, .int .i64 tw, .int .u64 tm] 49) :: (l11 ++ ((rb, .cells #[.slice ao W.length cap, .slice lao L.length lcap] 109) :: lr ++ R)))) W'.drew) HX.out fun W6 T6 => ?_
     have hS6 := Hk.out _ [] T6
     have HT6 := uh T6
     clear T6 HX
     refine wp_region_noPanic ?_
     refine wp_region_listed (S := fun W' => W'.rangeAt bt 0 [.int .u8 tk, .int .i64 tw, .int .u64 tm] ∧ W'.cell? ⟨b, off + i * 5 + 3, none⟩ = some (.int .i64 cc)) 13 [false, false, false, false, false, false, false, false, false, false, false, false, false] rfl rfl (by kernel_rfl) ?_
     refine tkC 0 51 hS6 (fun w' hSw => load_mid_run 49 _ rfl bt 0 rfl [.int .u8 tk, .int .i64 tw, .int .u64 tm] _ hSw.1 Tryz.underlying49 rfl hszT) ?_
     refine tkA 1 52 hS6 ?_
     refine tkA 2 53 hS6 ?_
     refine tkA 3 54 hS6 ?_
     refine tkA 4 55 hS6 ?_
     refine tkA 5 56 hS6 ?_
     refine tkB 6 57 hS6 (fun w hSw => hSw.2) ?_
     refine rdyA 7 (fun K hK => ?_)
     go_simp
     refine (Hsl.out _).mono ?_
     rintro e W7 ⟨rfl, hB⟩
     have T7 := HT6.out.call hB
     have hS7 := Hk.out _ [] T7
     have HT7 := uh T7
     clear T7 HT6 hB hS6
     refine hK.out _ _ hS7 fun _ => ?_
     clear hK K
     simp only [st0, st1, st2]
     refine tkA 8 50 hS7 ?_
     refine tkA 9 59 hS7 ?_
     refine tkA 10 60 hS7 ?_
     refine tkA 11 10 hS7 ?_
     refine tkA 12 11 hS7 ?_
     refine wpAnyH_done (by kernel_rfl) ?_ _
     refine NoPanic.normal ?_
     clear hS7 Hk
     have HT8 := uh ((HT7.out.perm (l2 := ((bh, .cells #[.int .u8 1, .int .i64 cb, .int .i64 cc, .int .i64 cd] 79) :: (bt, .cells #[.int .u8 tk, .int .i64 tw, .int .u64 tm] 49) :: l11) ++ ((rb, .cells #[.slice ao W.length cap, .slice lao L.length lcap] 109) :: lr ++ R)) po).drop)
     clear HT7
     go_wp2_with fail
     go_ret
     exact ⟨rfl, HT8.out⟩
def ints (l : List Int) : List Value := l.map (Value.int .i64)
theorem ints_get {l : List Int} {i : Nat} {x : Int} (h : l[i]? = some x) : (ints l)[i]? = some (.int .i64 x) := by simp [ints, h]
theorem ints_len (l : List Int) : (ints l).length = l.length := by simp [ints]
theorem cesAt_get {os : List Ce} {i : Nat} {c : Ce} (h : os[i]? = some c) : (cesAt os)[i]? = some (c.1 : Int) := by simp [cesAt, h]
theorem cesAt_len (os : List Ce) : (cesAt os).length = os.length := by simp [cesAt]
def sizesOf (os : List Ce) : List Nat := os.map fun c => c.2.size
theorem sizesOf_next {os : List Ce} {i : Nat} {c : Ce} (h : os[i]? = some c) : sizesOf (os.take (i + 1)) = sizesOf (os.take i) ++ [c.2.size] := by rw [take_next h]; simp [sizesOf]
theorem endOf_next {os : List Ce} {i : Nat} {c : Ce} (h : os[i]? = some c) : endOf 0 (os.take (i + 1)) = c.1 + c.2.size := by rw [take_next h, endOf_snoc]
theorem rises_at {L : List Ty} {W : List Nat} : ∀ {os : List Ce} {e : Nat}, rises L W e os → ∀ {i : Nat} {c : Ce}, os[i]? = some c → endOf e (os.take i) ≤ c.1 ∧ stands L W c.1 c.2 ∧ c.2.tag = 1
 | d :: os, e, h, 0, c, hc => by
  obtain rfl : d = c := by simpa using hc
  exact ⟨h.1, h.2.1, h.2.2.1⟩
 | d :: os, e, h, i + 1, c, hc => rises_at h.2.2.2 (i := i) (by simpa using hc)
theorem settleW_next {n : Nat} {W : List Nat} {os : List Ce} {i : Nat} {c : Ce} {e : Nat} (h : os[i]? = some c) : settleW n W (os.drop i) e = settleW n (lay W e (c.1 - e)) (os.drop (i + 1)) (c.1 + c.2.size) := by rw [drop_next h, settleW]
theorem settleW_last {n : Nat} {W : List Nat} {os : List Ce} {i : Nat} {e : Nat} (h : os.length ≤ i) : settleW n W (os.drop i) e = lay W e (n - e) := by rw [List.drop_eq_nil_of_le h, settleW]
theorem endOf_take_le {L : List Ty} {W : List Nat} {os : List Ce} (h : rises L W 0 os) : ∀ i, endOf 0 (os.take i) ≤ W.length / 2
 | 0 => by rw [List.take_zero]; exact Nat.zero_le _
 | i + 1 => by
  cases hc : os[i]? with
  | none =>
   rw [List.take_add_one, hc]
   have := endOf_take_le h i
   simpa using this
  | some c =>
   rw [endOf_next hc]
   exact (rises_at h hc).2.1.2.2
theorem rises_len {L : List Ty} {W : List Nat} : ∀ {os : List Ce} {e : Nat}, rises L W e os → e ≤ W.length / 2 → os.length + e ≤ W.length / 2
 | [], e, _, h => by simpa using h
 | c :: os, e, h, _ => by
  have h1 := h.2.1.pos
  have h2 := rises_len h.2.2.2 h.2.1.2.2
  have h3 := h.1
  simp only [List.length_cons]
  omega
theorem settle9 {w0 : World} (w : World) {rb lcap : Nat} {lao : Option Addr} {W : List Nat} {L : List Ty} {l R : List Blk} (hI : RefIs rb lao L.length lcap W l) (T : Turn [] w0 (l ++ R) w) (hS : Src w0 lao L.length lcap 3 (tys L)) (hTy : ∀ t ∈ L, TyIn t) (hL : L.length ≤ 1000) (hf : W.length ≤ 65536)
  (hu : ∀ v ∈ W, v < 18446744073709551616) (os : List Ce) (hr : rises L W 0 os) (aa : Option Addr) (acap : Nat) (hA : Src w0 aa os.length acap 1 (ints (cesAt os))) :
  Calls Tryz.prog 139 #[.pointer (some ⟨rb, 0, none⟩), .slice aa os.length acap] w fun e w' => e = .returned (.int .i64 0) ∧ ∃ l', RefIs rb lao L.length lcap (settleW (W.length / 2) W os 0) l' ∧ Turn [] w0 (l' ++ R) w' := by
 have HI0 := uh hI
 obtain ⟨ao, cap, lr, hrow, rfl⟩ := hI
 have hl0 := rises_len hr (Nat.zero_le _)
 have hzb : W.length / 2 ≤ 32768 := by omega
 have HS0 := uh (fun w' (lr5 Y : List Blk) (V : Turn [] w0 (Y ++ (lr5 ++ ((rb, .cells #[.slice ao W.length cap, .slice lao L.length lcap] 109) :: lr ++ R))) w') =>
         (⟨V.has.cell (b := rb) (c := #[.slice ao W.length cap, .slice lao L.length lcap]) (e := 109) (f := (0, 0)) (by simp) 0, V.has.cell (b := rb) (c := #[.slice ao W.length cap, .slice lao L.length lcap]) (e := 109) (f := (0, 0)) (by simp) 1⟩ : w'.cell? ⟨rb, 0, none⟩ = some (.slice ao W.length cap) ∧ w'.cell? ⟨rb, 1, none⟩ = some (.slice lao L.length lcap)))
 have Hof0 := uh (fun w' (lr5 Y : List Blk) (V : Turn [] w0 (Y ++ (lr5 ++ ((rb, .cells #[.slice ao W.length cap, .slice lao L.length lcap] 109) :: lr ++ R))) w') => of8 w' ao cap (hrow.src (R := (Y ++ lr5) ++ ((rb, .cells #[.slice ao W.length cap, .slice lao L.length lcap] 109) :: R)) (V.has.perm po)) hf hu L hTy hL lao lcap (hS.below V.below))
 have hszH := sz_head
 have hszT := sz_type
 have Hr := uh (fun i c => rises_at hr (i := i) (c := c))
 have Hle := uh (endOf_take_le hr)
 have HT := uh T
 have HA := uh (fun (h : 0 < os.length) w' (hB : Below w0.heap.size w0 w') => (hA.below hB).form (by rw [ints_len, cesAt_len]; exact h))
 have HA0 := uh (fun (h : 0 < os.length) => hA.form (by rw [ints_len, cesAt_len]; exact h))
 clear T hS hu hrow hA
 go_enter Tryz.func139, Tryz.ntmps139
 go_wp2_with fail
 go_loopw [5, 6, 7] (fun v5 v6 v7 wr => ∃ (i : Nat) (a5 : Option Addr) (p5 : Nat) (lr5 : List Blk), i ≤ os.length ∧ v7 = .int .i64 i ∧ v6 = .int .i64 (endOf 0 (os.take i) : Nat) ∧ v5 = .slice a5 i p5 ∧ Row 3 1 a5 i p5 (nats (sizesOf (os.take i))) lr5 ∧ Turn [] w0 (lr5 ++ ((rb, .cells #[.slice ao W.length cap, .slice lao L.length lcap] 109) :: lr ++ R)) wr) (fun _ _ v7 _ => os.length - (intOf v7).toNat)
 case atStart => exact ⟨0, none, 0, [], Nat.zero_le _, rfl, rfl, rfl, Row.nil _ _, HT.out⟩
 case round =>
  clear HT
  obtain ⟨i, a5, p5, lr5, hi, rfl, rfl, rfl, hr5, T⟩ := hrel
  by_cases hlt : i < os.length
  · have hlt' : (i : Int) < (os.length : Int) := by omega
    obtain ⟨c, hc⟩ : ∃ c, os[i]? = some c := ⟨os[i], List.getElem?_eq_getElem hlt⟩
    obtain ⟨hce, hst, hct⟩ := Hr.out i c hc
    have hoq := objq_of hst hct
    have hte := stands_ty hst hct hTy
    have Hof := uh (fun w' Y V => Hof0.out w' lr5 Y V (c.1 : Int))
    rw [hoq] at Hof
    simp only at Hof
    have Hs1 := uh (sizesOf_next hc)
    have He1 := uh (endOf_next hc)
    have hroom := hst.2.2
    have Hat0 := uh (cesAt_get hc)
    obtain ⟨ab, aoff, rfl, hat0⟩ := HA0.out (by omega)
    have Hat := uh (fun w' (hB : Below w0.heap.size w0 w') => (hB.cell (p := ⟨ab, aoff + i, none⟩) (World.block_lt_of_cell? w0 _ (hat0 i _ (ints_get Hat0.out)))).trans (hat0 i _ (ints_get Hat0.out)))
    have HS := uh (fun w' Y (V : Turn [] w0 (Y ++ (lr5 ++ ((rb, .cells #[.slice ao W.length cap, .slice lao L.length lcap] 109) :: lr ++ R))) w') => (⟨(HS0.out w' lr5 Y V).1, (HS0.out w' lr5 Y V).2, Hat.out w' V.below⟩ : w'.cell? ⟨rb, 0, none⟩ = some (.slice ao W.length cap) ∧ w'.cell? ⟨rb, 1, none⟩ = some (.slice lao L.length lcap) ∧ w'.cell? ⟨ab, aoff + i, none⟩ = some (.int .i64 c.1)))
    generalize tyAt L c.2.typ = t at *
    obtain ⟨tk, tw, tm⟩ := t
    obtain ⟨cg, ⟨ca, cb, cc, cd⟩⟩ := c
    simp only at hct Hof HS Hat He1 Hs1 hce hroom
    subst hct
    have hoH := hd_one ⟨1, cb, cc, cd⟩
    have hoT := ty_one ⟨tk, tw, tm⟩
    simp only at hoH hoT
    generalize endOf 0 (os.take i) = en at *
    have k1 : decide ((cg : Int) < (en : Int)) = false := decide_eq_false (by omega)
    have k2 : decide (cg < en) = false := decide_eq_false (by omega)
    have HT2 := uh T.drew
    have Hr5 := uh hr5
    have h63 : i + 1 ≤ maxLen := by unfold maxLen; omega
    have hby : (i + 1) * 8 ≤ 140737488355328 := by omega
    clear T hr5 hst hoq hte hc hat0 HA HA0 Hat0
    go_upto_region 6 with fail
    refine wp_abs (fun W' => Turn [] w0 (lr5 ++ ((rb, .cells #[.slice ao W.length cap, .slice lao L.length lcap] 109) :: lr ++ R)) W'.drew) HT2.out fun W1 T1 => ?_
    have HT1 : Hid (Turn [] w0 (lr5 ++ ((rb, .cells #[.slice ao W.length cap, .slice lao L.length lcap] 109) :: lr ++ R)) W1.drew) := uh T1
    clear T1 HT2
    apply wp_mid (I := fun bh bt w => Turn [] w0 ((bh, .cells #[.int .u8 1, .int .i64 cb, .int .i64 cc, .int .i64 cd] 79) :: (bt, .cells #[.int .u8 tk, .int .i64 tw, .int .u64 tm] 49) :: (lr5 ++ ((rb, .cells #[.slice ao W.length cap, .slice lao L.length lcap] 109) :: lr ++ R))) w)
    case h =>
     have hS1 := HS.out _ [] HT1.out
     refine wp_region_noPanic ?_
     refine wp_region_listed (S := fun W' => W'.cell? ⟨rb, 0, none⟩ = some (.slice ao W.length cap) ∧ W'.cell? ⟨rb, 1, none⟩ = some (.slice lao L.length lcap) ∧ W'.cell? ⟨ab, aoff + i, none⟩ = some (.int .i64 cg)) 22 [false, false, false, false, false, false, false, false, false, false, false, false, false, false, false, false, false, false, false, false, false, false] rfl rfl (by kernel_rfl) ?_
     refine tkA 0 19 hS1 ?_
     refine tkA 1 20 hS1 ?_
     refine tkA 2 21 hS1 ?_
     refine tkB 3 22 hS1 (fun w hSw => hSw.1) ?_
     refine tkA 4 23 hS1 ?_
     refine tkA 5 24 hS1 ?_
     refine tkA 6 25 hS1 ?_
     refine tkB 7 26 hS1 (fun w hSw => hSw.2.1) ?_
     refine tkA 8 27 hS1 ?_
     refine tkA 9 28 hS1 ?_
     refine tkA 10 29 hS1 ?_
     refine tkB 11 30 hS1 (fun w hSw => hSw.2.2) ?_
     have T0 : Turn [] w0 ([] ++ (lr5 ++ ((rb, .cells #[.slice ao W.length cap, .slice lao L.length lcap] 109) :: lr ++ R))) W1.drew := HT1.out
     clear hS1
     generalize W1.drew = V0 at T0 ⊢
     have HT0h := uh T0
     clear T0
     apply any_mid (I := fun bh bt V => Turn [] w0 ((bh, .cells #[.int .u8 0, .int .i64 0, .int .i64 0, .int .i64 0] 79) :: (bt, .cells #[.int .u8 0, .int .i64 0, .int .u64 0] 49) :: (lr5 ++ ((rb, .cells #[.slice ao W.length cap, .slice lao L.length lcap] 109) :: lr ++ R))) V)
     case h1 =>
      intro hG
      have T0 := HT0h.out
      refine wpAnyH_ready (rs := [12, 17, 18]) (by kernel_rfl) (by simp) (AllReadyH.cons rfl (fun K hK => ?_) (AllReadyH.cons rfl (fun K hK => ?_) (AllReadyH.cons rfl (fun K hK => ?_) AllReadyH.nil)))
      · go_simp
        refine (Hof.out _ _ T0).mono ?_
        rintro e V1 ⟨rfl, hB⟩
        have T1 := T0.call hB
        refine hK.out _ _ (HS.out _ _ T1) fun _ => ?_
        clear hK K hB T0
        simp only [st0, st1, st2]
        have hS1 := HS.out _ _ T1
        refine tkA 13 18 hS1 ?_
        refine tkA 14 32 hS1 ?_
        refine tkA 15 33 hS1 ?_
        refine tkA 16 34 hS1 ?_
        clear hS1
        refine wpAnyH_ready (rs := [17, 18]) (by kernel_rfl) (by simp) (AllReadyH.cons rfl (fun K hK => ?_) (AllReadyH.cons rfl (fun K hK => ?_) AllReadyH.nil))
        · go_simp
          have T2 : Turn [] w0 ([(V1.heap.size, .cells #[.int .u8 0, .int .i64 0, .int .i64 0, .int .i64 0] 79)] ++ (lr5 ++ ((rb, .cells #[.slice ao W.length cap, .slice lao L.length lcap] 109) :: lr ++ R))) (V1.alloc (.cells #[.int .u8 0, .int .i64 0, .int .i64 0, .int .i64 0] 79)) := T1.alloc (.cells #[.int .u8 0, .int .i64 0, .int .i64 0, .int .i64 0] 79)
          refine hK.out _ _ (HS.out _ _ T2) fun _ => ?_
          clear hK K T1
          simp only [st0, st1, st2]
          generalize V1.alloc (.cells #[.int .u8 0, .int .i64 0, .int .i64 0, .int .i64 0] 79) = V2 at *
          generalize V1.heap.size = bh at *
          refine rdyA 18 (fun K hK => ?_)
          · go_simp
            have T3 : Turn [] w0 ([(V2.heap.size, .cells #[.int .u8 0, .int .i64 0, .int .u64 0] 49), (bh, .cells #[.int .u8 0, .int .i64 0, .int .i64 0, .int .i64 0] 79)] ++ (lr5 ++ ((rb, .cells #[.slice ao W.length cap, .slice lao L.length lcap] 109) :: lr ++ R))) (V2.alloc (.cells #[.int .u8 0, .int .i64 0, .int .u64 0] 49)) := T2.alloc (.cells #[.int .u8 0, .int .i64 0, .int .u64 0] 49)
            refine hK.out _ _ (HS.out _ _ T3) fun _ => ?_
            clear hK K T2
            simp only [st0, st1, st2]
            generalize V2.alloc (.cells #[.int .u8 0, .int .i64 0, .int .u64 0] 49) = V3 at *
            generalize V2.heap.size = bt at *
            exact hG.out bh bt V3 (T3.perm po)
        · go_simp
          have T2 : Turn [] w0 ([(V1.heap.size, .cells #[.int .u8 0, .int .i64 0, .int .u64 0] 49)] ++ (lr5 ++ ((rb, .cells #[.slice ao W.length cap, .slice lao L.length lcap] 109) :: lr ++ R))) (V1.alloc (.cells #[.int .u8 0, .int .i64 0, .int .u64 0] 49)) := T1.alloc (.cells #[.int .u8 0, .int .i64 0, .int .u64 0] 49)
          refine hK.out _ _ (HS.out _ _ T2) fun _ => ?_
          clear hK K T1
          simp only [st0, st1, st2]
          generalize V1.alloc (.cells #[.int .u8 0, .int .i64 0, .int .u64 0] 49) = V2 at *
          generalize V1.heap.size = bt at *
          refine rdyA 17 (fun K hK => ?_)
          · go_simp
            have T3 : Turn [] w0 ([(V2.heap.size, .cells #[.int .u8 0, .int .i64 0, .int .i64 0, .int .i64 0] 79), (bt, .cells #[.int .u8 0, .int .i64 0, .int .u64 0] 49)] ++ (lr5 ++ ((rb, .cells #[.slice ao W.length cap, .slice lao L.length lcap] 109) :: lr ++ R))) (V2.alloc (.cells #[.int .u8 0, .int .i64 0, .int .i64 0, .int .i64 0] 79)) := T2.alloc (.cells #[.int .u8 0, .int .i64 0, .int .i64 0, .int .i64 0] 79)
            refine hK.out _ _ (HS.out _ _ T3) fun _ => ?_
            clear hK K T2
            simp only [st0, st1, st2]
            generalize V2.alloc (.cells #[.int .u8 0, .int .i64 0, .int .i64 0, .int .i64 0] 79) = V3 at *
            generalize V2.heap.size = bh at *
            exact hG.out bh bt V3 (T3.perm po)
      · go_simp
        have T1 : Turn [] w0 ([(V0.heap.size, .cells #[.int .u8 0, .int .i64 0, .int .i64 0, .int .i64 0] 79)] ++ (lr5 ++ ((rb, .cells #[.slice ao W.length cap, .slice lao L.length lcap] 109) :: lr ++ R))) (V0.alloc (.cells #[.int .u8 0, .int .i64 0, .int .i64 0, .int .i64 0] 79)) := T0.alloc (.cells #[.int .u8 0, .int .i64 0, .int .i64 0, .int .i64 0] 79)
        refine hK.out _ _ (HS.out _ _ T1) fun _ => ?_
        clear hK K T0
        simp only [st0, st1, st2]
        generalize V0.alloc (.cells #[.int .u8 0, .int .i64 0, .int .i64 0, .int .i64 0] 79) = V1 at *
        generalize V0.heap.size = bh at *
        refine wpAnyH_ready (rs := [12, 18]) (by kernel_rfl) (by simp) (AllReadyH.cons rfl (fun K hK => ?_) (AllReadyH.cons rfl (fun K hK => ?_) AllReadyH.nil))
        · go_simp
          refine (Hof.out _ _ T1).mono ?_
          rintro e V2 ⟨rfl, hB⟩
          have T2 := T1.call hB
          refine hK.out _ _ (HS.out _ _ T2) fun _ => ?_
          clear hK K hB T1
          simp only [st0, st1, st2]
          have hS2 := HS.out _ _ T2
          refine tkA 13 18 hS2 ?_
          refine tkA 14 32 hS2 ?_
          refine tkA 15 33 hS2 ?_
          refine tkA 16 34 hS2 ?_
          clear hS2
          refine rdyA 18 (fun K hK => ?_)
          · go_simp
            have T3 : Turn [] w0 ([(V2.heap.size, .cells #[.int .u8 0, .int .i64 0, .int .u64 0] 49), (bh, .cells #[.int .u8 0, .int .i64 0, .int .i64 0, .int .i64 0] 79)] ++ (lr5 ++ ((rb, .cells #[.slice ao W.length cap, .slice lao L.length lcap] 109) :: lr ++ R))) (V2.alloc (.cells #[.int .u8 0, .int .i64 0, .int .u64 0] 49)) := T2.alloc (.cells #[.int .u8 0, .int .i64 0, .int .u64 0] 49)
            refine hK.out _ _ (HS.out _ _ T3) fun _ => ?_
            clear hK K T2
            simp only [st0, st1, st2]
            generalize V2.alloc (.cells #[.int .u8 0, .int .i64 0, .int .u64 0] 49) = V3 at *
            generalize V2.heap.size = bt at *
            exact hG.out bh bt V3 (T3.perm po)
        · go_simp
          have T2 : Turn [] w0 ([(V1.heap.size, .cells #[.int .u8 0, .int .i64 0, .int .u64 0] 49), (bh, .cells #[.int .u8 0, .int .i64 0, .int .i64 0, .int .i64 0] 79)] ++ (lr5 ++ ((rb, .cells #[.slice ao W.length cap, .slice lao L.length lcap] 109) :: lr ++ R))) (V1.alloc (.cells #[.int .u8 0, .int .i64 0, .int .u64 0] 49)) := T1.alloc (.cells #[.int .u8 0, .int .i64 0, .int .u64 0] 49)
          refine hK.out _ _ (HS.out _ _ T2) fun _ => ?_
          clear hK K T1
          simp only [st0, st1, st2]
          generalize V1.alloc (.cells #[.int .u8 0, .int .i64 0, .int .u64 0] 49) = V2 at *
          generalize V1.heap.size = bt at *
          refine rdyA 12 (fun K hK => ?_)
          · go_simp
            refine (Hof.out _ _ T2).mono ?_
            rintro e V3 ⟨rfl, hB⟩
            have T3 := T2.call hB
            refine hK.out _ _ (HS.out _ _ T3) fun _ => ?_
            clear hK K hB T2
            simp only [st0, st1, st2]
            have hS3 := HS.out _ _ T3
            refine tkA 13 18 hS3 ?_
            refine tkA 14 32 hS3 ?_
            refine tkA 15 33 hS3 ?_
            refine tkA 16 34 hS3 ?_
            clear hS3
            exact hG.out bh bt V3 (T3.perm po)
      · go_simp
        have T1 : Turn [] w0 ([(V0.heap.size, .cells #[.int .u8 0, .int .i64 0, .int .u64 0] 49)] ++ (lr5 ++ ((rb, .cells #[.slice ao W.length cap, .slice lao L.length lcap] 109) :: lr ++ R))) (V0.alloc (.cells #[.int .u8 0, .int .i64 0, .int .u64 0] 49)) := T0.alloc (.cells #[.int .u8 0, .int .i64 0, .int .u64 0] 49)
        refine hK.out _ _ (HS.out _ _ T1) fun _ => ?_
        clear hK K T0
        simp only [st0, st1, st2]
        generalize V0.alloc (.cells #[.int .u8 0, .int .i64 0, .int .u64 0] 49) = V1 at *
        generalize V0.heap.size = bt at *
        refine wpAnyH_ready (rs := [12, 17]) (by kernel_rfl) (by simp) (AllReadyH.cons rfl (fun K hK => ?_) (AllReadyH.cons rfl (fun K hK => ?_) AllReadyH.nil))
        · go_simp
          refine (Hof.out _ _ T1).mono ?_
          rintro e V2 ⟨rfl, hB⟩
          have T2 := T1.call hB
          refine hK.out _ _ (HS.out _ _ T2) fun _ => ?_
          clear hK K hB T1
          simp only [st0, st1, st2]
          have hS2 := HS.out _ _ T2
          refine tkA 13 18 hS2 ?_
          refine tkA 14 32 hS2 ?_
          refine tkA 15 33 hS2 ?_
          refine tkA 16 34 hS2 ?_
          clear hS2
          refine rdyA 17 (fun K hK => ?_)
          · go_simp
            have T3 : Turn [] w0 ([(V2.heap.size, .cells #[.int .u8 0, .int .i64 0, .int .i64 0, .int .i64 0] 79), (bt, .cells #[.int .u8 0, .int .i64 0, .int .u64 0] 49)] ++ (lr5 ++ ((rb, .cells #[.slice ao W.length cap, .slice lao L.length lcap] 109) :: lr ++ R))) (V2.alloc (.cells #[.int .u8 0, .int .i64 0, .int .i64 0, .int .i64 0] 79)) := T2.alloc (.cells #[.int .u8 0, .int .i64 0, .int .i64 0, .int .i64 0] 79)
            refine hK.out _ _ (HS.out _ _ T3) fun _ => ?_
            clear hK K T2
            simp only [st0, st1, st2]
            generalize V2.alloc (.cells #[.int .u8 0, .int .i64 0, .int .i64 0, .int .i64 0] 79) = V3 at *
            generalize V2.heap.size = bh at *
            exact hG.out bh bt V3 (T3.perm po)
        · go_simp
          have T2 : Turn [] w0 ([(V1.heap.size, .cells #[.int .u8 0, .int .i64 0, .int .i64 0, .int .i64 0] 79), (bt, .cells #[.int .u8 0, .int .i64 0, .int .u64 0] 49)] ++ (lr5 ++ ((rb, .cells #[.slice ao W.length cap, .slice lao L.length lcap] 109) :: lr ++ R))) (V1.alloc (.cells #[.int .u8 0, .int .i64 0, .int .i64 0, .int .i64 0] 79)) := T1.alloc (.cells #[.int .u8 0, .int .i64 0, .int .i64 0, .int .i64 0] 79)
          refine hK.out _ _ (HS.out _ _ T2) fun _ => ?_
          clear hK K T1
          simp only [st0, st1, st2]
          generalize V1.alloc (.cells #[.int .u8 0, .int .i64 0, .int .i64 0, .int .i64 0] 79) = V2 at *
          generalize V1.heap.size = bh at *
          refine rdyA 12 (fun K hK => ?_)
          · go_simp
            refine (Hof.out _ _ T2).mono ?_
            rintro e V3 ⟨rfl, hB⟩
            have T3 := T2.call hB
            refine hK.out _ _ (HS.out _ _ T3) fun _ => ?_
            clear hK K hB T2
            simp only [st0, st1, st2]
            have hS3 := HS.out _ _ T3
            refine tkA 13 18 hS3 ?_
            refine tkA 14 32 hS3 ?_
            refine tkA 15 33 hS3 ?_
            refine tkA 16 34 hS3 ?_
            clear hS3
            exact hG.out bh bt V3 (T3.perm po)
     case h2 =>
      intro bh bt V0 U0
      refine rdyA 19 (fun K hK => ?_)
      have hth0 := U0.there1
      have U1 := U0.laid [.int .u8 1, .int .i64 cb, .int .i64 cc, .int .i64 cd] rfl
      refine step_store rfl rfl 79 _ _ rfl _ 0 #[.int .u8 1, .int .i64 cb, .int .i64 cc, .int .i64 cd] rfl rfl hth0 hszH hoH ?_
      refine hK.out _ _ (HS.out _ [_, _] U1) fun _ => ?_
      clear hK K hth0
      simp only [st0, st1, st2]
      generalize V0.setCells bh 0 _ = V9 at *
      refine rdyA 20 (fun K hK => ?_)
      have hth1 := U1.there2
      have U2 := U1.laid2 [.int .u8 tk, .int .i64 tw, .int .u64 tm] rfl
      refine step_store rfl rfl 49 _ _ rfl _ 0 #[.int .u8 tk, .int .i64 tw, .int .u64 tm] rfl rfl hth1 hszT hoT ?_
      refine hK.out _ _ (HS.out _ [_, _] U2) fun _ => ?_
      clear hK K hth1
      simp only [st0, st1, st2]
      have hSz := HS.out _ [_, _] U2
      refine tkA 21 10 hSz ?_
      clear hSz
      refine wpAnyH_done (by kernel_rfl) ?_ _
      refine NoPanic.normal ?_
      exact ⟨rfl, bh, bt, rfl, U2⟩
    case hq =>
     intro bh bt w5 T5
     have c3 := T5.cell1 3
     have hat := Hat.out w5 T5.below
     have HT5 := uh T5
     clear T5 HS Hof
     go_wp2_with (first
      | (at_builtin; refine wpList_append_row rfl _ _ rfl el_int rfl Hr5.out (R := (w5.heap.size, .cells #[.int .i64 cd] 3) :: (bh, .cells #[.int .u8 1, .int .i64 cb, .int .i64 cc, .int .i64 cd] 79) :: (bt, .cells #[.int .u8 tk, .int .i64 tw, .int .u64 tm] 49) :: ((rb, .cells #[.slice ao W.length cap, .slice lao L.length lcap] 109) :: lr ++ R)) ((HT5.out.alloc (.cells #[.int .i64 cd] 3)).perm po).has rfl (news := [.int .i64 cd]) rfl (news_of (heap_alloc_new _ _)) (by simp [Value.oneCell']) h63 hby ?_; intro a9 p9 l9 w9 hr9 V9 hno; have HT9 := uh (((HT5.out.alloc (.cells #[.int .i64 cd] 3)).perm (l2 := lr5 ++ ((w5.heap.size, .cells #[.int .i64 cd] 3) :: (bh, .cells #[.int .u8 1, .int .i64 cb, .int .i64 cc, .int .i64 cd] 79) :: (bt, .cells #[.int .u8 tk, .int .i64 tw, .int .u64 tm] 49) :: ((rb, .cells #[.slice ao W.length cap, .slice lao L.length lcap] 109) :: lr ++ R))) po).trans V9); have Hr9 := uh hr9; clear hr9 V9 hno)
      | fail)
     have hat9 := Hat.out _ HT9.out.below
     have c39 : w9.cell? ⟨bh, 3, none⟩ = some (.int .i64 cd) := HT9.out.has.cell (b := bh) (c := #[.int .u8 1, .int .i64 cb, .int .i64 cc, .int .i64 cd]) (e := 79) (f := (0, 0)) (by simp) 3
     have HT8 := uh ((HT9.out.perm (l2 := [(w5.heap.size, .cells #[.int .i64 cd] 3), (bh, .cells #[.int .u8 1, .int .i64 cb, .int .i64 cc, .int .i64 cd] 79), (bt, .cells #[.int .u8 tk, .int .i64 tw, .int .u64 tm] 49)] ++ (l9 ++ ((rb, .cells #[.slice ao W.length cap, .slice lao L.length lcap] 109) :: lr ++ R))) po).drop)
     clear HT9 HT5 c3 hat
     go_quiet (fail)
     go_wp2_with fail
     go_roundw
     case rel => exact ⟨i + 1, a9, p9, l9, by omega, by go_num, by rw [He1.out]; go_num, rfl, by rw [Hs1.out, nats_append]; exact Hr9.out, HT8.out.drewN _⟩
     case measure => simp [intOf]; omega
  · obtain rfl : i = os.length := by omega
    have hnl : ¬ ((os.length : Nat) : Int) < (os.length : Int) := by omega
    rw [List.take_length] at hr5
    have HT2 := uh (T.perm (l2 := ((rb, .cells #[.slice ao W.length cap, .slice lao L.length lcap] 109) :: lr) ++ (lr5 ++ R)) po)
    have Hr5 := uh hr5
    have hdiv : ((W.length : Int)).tdiv 2 = ((W.length / 2 : Nat) : Int) := tdiv_nat _ 2
    have hdiv2 : (W.length : Int) / 2 = ((W.length / 2 : Nat) : Int) := by omega
    have HSz := uh (fun (h : 0 < os.length) w' (lj : List Blk) (V : Turn [] w0 (lj ++ (lr5 ++ R)) w') => (hr5.src (R := lj ++ R) (V.has.perm po)).form (by rw [nats_length]; unfold sizesOf; simpa using h))
    have HSz0 := uh (fun (h : 0 < os.length) => (hr5.src (R := ((rb, .cells #[.slice ao W.length cap, .slice lao L.length lcap] 109) :: lr) ++ R) (HT2.out.has.perm po)).form (by rw [nats_length]; unfold sizesOf; simpa using h))
    clear T hr5 hi hlt
    go_wp2_with fail
    go_loopw [6, 11] (fun v6 v11 wr => ∃ (j en : Nat) (Wj : List Nat) (lj : List Blk), j ≤ os.length ∧ v11 = .int .i64 j ∧ v6 = .int .i64 en ∧ en = endOf 0 (os.take j) ∧ settleW (W.length / 2) Wj (os.drop j) en = settleW (W.length / 2) W os 0 ∧ Wj.length = W.length ∧ RefIs rb lao L.length lcap Wj lj ∧ Turn [] w0 (lj ++ (lr5 ++ R)) wr) (fun _ v11 _ => os.length - (intOf v11).toNat)
    case atStart => exact ⟨0, 0, W, (rb, .cells #[.slice ao W.length cap, .slice lao L.length lcap] 109) :: lr, Nat.zero_le _, by go_num, by go_num, rfl, rfl, rfl, HI0.out, HT2.out⟩
    case round =>
     clear HT2
     obtain ⟨j, en, Wj, lj, hj, rfl, rfl, hen, hsw, hwl, hIj, T⟩ := hrel
     by_cases hlt : j < os.length
     · have hlt' : (j : Int) < (os.length : Int) := by omega
       obtain ⟨c, hc⟩ : ∃ c, os[j]? = some c := ⟨os[j], List.getElem?_eq_getElem hlt⟩
       obtain ⟨hce, hst, hct⟩ := Hr.out j c hc
       rw [← hen] at hce
       have hroom := hst.2.2
       have hpos := hst.pos
       rw [settleW_next hc] at hsw
       have He1 := uh (endOf_next hc)
       obtain ⟨ab, aoff, rfl, hat0⟩ := HA0.out (by omega)
       have Hat := uh (fun w' (hB : Below w0.heap.size w0 w') => (hB.cell (p := ⟨ab, aoff + j, none⟩) (World.block_lt_of_cell? w0 _ (hat0 j _ (ints_get (cesAt_get hc))))).trans (hat0 j _ (ints_get (cesAt_get hc))))
       obtain ⟨sb, soff, rfl, -⟩ := HSz0.out (by omega)
       have hsz1 : (nats (sizesOf os))[j]? = some (.int .i64 c.2.size) := by simp [nats, sizesOf, hc]
       have Hsj := uh (fun w' (lj : List Blk) (V : Turn [] w0 (lj ++ (lr5 ++ R)) w') => ((Hr5.out.src (R := lj ++ R) (V.has.perm po)).at_ _ rfl j _ hsz1))
       have HL := uh (lay9 wr hIj T (by rw [hwl]; exact hf) en (c.1 - en) (by rw [hwl]; omega))
       have hsub : (c.1 : Int) - (en : Int) = ((c.1 - en : Nat) : Int) := by omega
       have hat := Hat.out _ T.below
       have Hsw := uh hsw
       obtain ⟨cg, ⟨ca, cb, cc, cd⟩⟩ := c
       simp only at hsub hat Hsw HL He1 hroom hce Hsj Hat
       have HWl := uh hwl
       clear hc hst hct hIj T hsw hat0 hsz1 HSz HSz0 HA HA0 hwl hen hpos
       go_wp2_with fail
       refine HL.out.mono ?_
       rintro e w5 ⟨⟨u, rfl⟩, l5, hI5, T5⟩
       have hat := Hat.out _ T5.below
       have hsj := Hsj.out _ _ T5
       rw [add_lit] at hsj
       have HT5 := uh T5
       have HI5 := uh hI5
       clear T5 hI5 HL Hat Hsj
       go_wp2_with fail
       go_quiet (fail)
       go_wp2_with fail
       go_roundw
       case rel => exact ⟨j + 1, cg + cd, _, l5, by omega, by go_num, by go_num, He1.out.symm, Hsw.out, by rw [lay_len]; exact HWl.out, HI5.out, HT5.out.drewN _⟩
       case measure => simp [intOf]; omega
     · obtain rfl : j = os.length := by omega
       rw [settleW_last (Nat.le_refl _)] at hsw
       have hb := Hle.out os.length
       rw [← hen] at hb
       have HL := uh (lay9 wr hIj T (by rw [hwl]; exact hf) en (W.length / 2 - en) (by rw [hwl]; omega))
       rw [hsw] at HL
       obtain ⟨aj, pj, lj', hrj, rfl⟩ := hIj
       have c0 : wr.cell? ⟨rb, 0, none⟩ = some (.slice aj Wj.length pj) := T.cell1 0
       rw [hwl] at c0
       have hsub : ((W.length / 2 : Nat) : Int) - (en : Int) = ((W.length / 2 - en : Nat) : Int) := by omega
       clear hrj T hsw hen hwl Hle
       obtain ⟨z, hz⟩ : ∃ z : Nat, W.length / 2 = z := ⟨_, rfl⟩
       rw [hz] at hdiv hdiv2 hsub HL hb hzb ⊢
       have HZ := uh hz
       clear hz
       go_wp2_with fail
       refine HL.out.mono ?_
       rintro e w5 ⟨⟨u, rfl⟩, l5, hI5, T5⟩
       have HT5 := uh ((T5.perm (l2 := lr5 ++ (l5 ++ R)) po).drop)
       have HI5 := uh hI5
       clear T5 hI5 HL c0
       go_wp2_with fail
       go_ret
       exact ⟨rfl, l5, by rw [HZ.out]; exact HI5.out, HT5.out⟩
def SpIs (sb tb : Nat) (W B : List Nat) (l : List Blk) : Prop :=
 ∃ a aw bb, ∃ (n : Int) (lb : List Blk), BitIs bb B (W.length / 2) lb ∧ l = arBlks a aw W n ++ (spBlk sb a tb bb :: lb)
theorem snew (w : World) (hF : Fields w) (tb n : Nat) (h : mayWords n) :
  Calls Tryz.prog 48 #[.int .i64 n, .pointer (some ⟨tb, 0, none⟩)] w fun e w' => ∃ sb l, e = .returned (.tuple #[.pointer (some ⟨sb, 0, none⟩), .int .i64 0]) ∧ SpIs sb tb (lay (List.replicate n 0) 0 (n / 2)) (List.replicate ((n / 2 + 63) / 64) 0) l ∧ Turn [] w l w' := by
 have ⟨h1, h2, h3⟩ := h
 have Ha := uh (anew w n h)
 have Hb := uh (fun w' => bnew w' (n / 2) (by omega))
 have HF := uh (fun w' (hB : Below w.heap.size w w') => range_below hF hB)
 have hdiv : ((n : Int)).tdiv 2 = ((n / 2 : Nat) : Int) := tdiv_nat _ 2
 have hdiv2 : (n : Int) / 2 = ((n / 2 : Nat) : Int) := by omega
 have hl0 : (List.replicate n 0).length = n := List.length_replicate
 have Hl0 := uh hl0
 have hll : (lay (List.replicate n 0) 0 (n / 2)).length = n := by rw [lay_len]; exact hl0
 have Hll := uh hll
 have hsm : n ≤ 65536 := by omega
 obtain ⟨z, hz⟩ : ∃ z : Nat, n / 2 = z := ⟨_, rfl⟩
 rw [hz] at hdiv hdiv2 Hb Hll ⊢
 have HZ := uh hz
 clear hF h h1 h2 h3 hl0 hll hz
 go_enter Tryz.func48, Tryz.ntmps48
 go_wp2_with fail
 refine Ha.out.mono ?_
 rintro e w1 ⟨a, aw, rfl, T1⟩
 have HT1 := uh T1
 clear T1 Ha
 go_wp2_with fail
 refine (Hb.out _).mono ?_
 rintro e w2 ⟨bb, lb, rfl, hb, T2⟩
 have HT2 := uh (HT1.out.grow T2)
 have HBi := uh hb
 clear T2 hb Hb HT1
 have HT3 := uh ((HT2.out.alloc (.cells #[.pointer (some ⟨a, 0, none⟩), .pointer (some ⟨tb, 0, none⟩), .pointer (some ⟨bb, 0, none⟩)] 146)).perm (l2 := arBlks a aw (List.replicate n 0) 0 ++ (spBlk w2.heap.size a tb bb :: lb)) (perm_of fun c => by simp [spBlk]; omega))
 clear HT2
 have hcs : (w2.alloc (.cells #[.pointer (some ⟨a, 0, none⟩), .pointer (some ⟨tb, 0, none⟩), .pointer (some ⟨bb, 0, none⟩)] 146)).cell? ⟨w2.heap.size, 0, none⟩ = some (.pointer (some ⟨a, 0, none⟩)) := HT3.out.has.cell (b := w2.heap.size) (c := #[.pointer (some ⟨a, 0, none⟩), .pointer (some ⟨tb, 0, none⟩), .pointer (some ⟨bb, 0, none⟩)]) (e := 146) (f := (0, 0)) (by simp [spBlk]) 0
 have HG := uh (sgran _ hcs (arBlks_at HT3.out.has (by rw [Hl0.out]; exact hsm)) (by rw [Hl0.out]; exact hsm))
 have HL := uh (sgap _ (HF.out _ HT3.out.below) HT3.out (List.mem_cons_self ..) (by rw [Hl0.out]; exact hsm) 0 z (by rw [Hl0.out]; have := HZ.out; omega))
 rw [Hl0.out, HZ.out] at HG
 clear hcs HF
 go_wp2_with fail
 refine HG.out.mono ?_
 rintro e w4 ⟨rfl, rfl⟩
 clear HG
 go_wp2_with fail
 refine HL.out.mono ?_
 rintro e w5 ⟨⟨u, rfl⟩, c', T5⟩
 have HT5 := uh T5
 clear T5 HL HT3
 go_wp2_with fail
 refine bodyPost_ret (results_tmp2 rfl _ _ _) rfl ?_
 exact ⟨_, _, rfl, ⟨a, aw, bb, c', lb, by rw [Hll.out, HZ.out]; exact HBi.out, rfl⟩, HT5.out⟩
end
section
open Go Go.RowKit
section
variable {F : Fence} {n : Nat} {P : Program} {ops : Array Oper} {Q : Exit → Act → World → Prop} {md : Region.Mode} {S : World → Prop}
def YieldsHI (P : Program) (ops : Array Oper) (S : World → Prop) (o : Oper) (v : Value) (a : Act) : Prop := YieldsIf P ops S o v a ∧ ∀ w, o.about P w a.eval = none
theorem YieldsHI.go {i : Nat} {o : Oper} {v : Value} {a : Act} (hro : F.round = none) (hi : ops[i]? = some o) (hy : YieldsHI P ops S o v a)
  {K : Act → World → Prop} {w : World} (hS : S w) (h : K (a.put o.dst v) w) : wpOpIn F n P ops Q i K a w := by
 unfold wpOpIn
 simp only [hi]
 have hab : ∀ f, o.about P w a.eval = some f → F.fn f := fun f hf => by rw [hy.2 w] at hf; cases hf
 rcases hy.1 with ⟨hw, hv⟩ | ⟨hw, rfl⟩
 · simp only [hw, if_true, Oper.wpIn, hro, Oper.semAt_none, hv w hS, Oper.uponIn]; exact ⟨hab, h⟩
 · simp only [hw, Bool.false_eq_true, if_false]; exact ⟨hab, h⟩
theorem YieldsHI.of_same {o : Oper} {v : Value} {a a' : Act} (hy : YieldsHI P ops S o v a) (he : execOp a'.eval o = execOp a.eval o)
  (hw : Region.wanted o (yielded ops a'.tmps) = Region.wanted o (yielded ops a.tmps)) (hb : ∀ w, o.about P w a'.eval = o.about P w a.eval) : YieldsHI P ops S o v a' :=
 ⟨hy.1.of_same he hw, fun w => by rw [hb w]; exact hy.2 w⟩
theorem wpOpIn_putHI {j : Nat} {oi oj : Oper} {v : Value} (hro : F.round = none) (hj : ops[j]? = some oj) (hap : oi.apart ops oj = true)
  (hsi : ∀ cs b, oi.op ≠ .select cs b) (hsj : ∀ cs b, oj.op ≠ .select cs b)
  (hQ : ∀ c a w, Q (.panic c) (a.put oi.dst v) w → Q (.panic c) a w) {K : Act → World → Prop} {a : Act} {w : World}
  (hy : YieldsHI P ops S oi v a) (h : wpOpIn F n P ops Q j K (a.put oi.dst v) w) :
  wpOpIn F n P ops Q j (fun a' w' => YieldsHI P ops S oi v a' ∧ K (a'.put oi.dst v) w') a w := by
 obtain ⟨h1, h2, h3⟩ := Oper.apart_spec hap
 have keep : ∀ (a : Act), YieldsHI P ops S oi v a → ∀ u, YieldsHI P ops S oi v (a.put oj.dst u) := fun a hy u =>
  hy.of_same (execOp_put oi hsi a oj.dst u h3) (wanted_put oi a oj.dst u h3) (fun w => about_put oi w a oj.dst u h3)
 have keepD : ∀ d, YieldsHI P ops S oi v { a with defers := d :: a.defers } := fun d => hy.of_same rfl rfl (fun _ => rfl)
 unfold wpOpIn at *
 simp only [hj] at *
 rw [wanted_put oj a oi.dst v h1, about_put oj w a oi.dst v h1] at h
 split
 · rename_i hw
   simp only [hw, if_true] at h
   unfold Oper.wpIn at *
   rw [about_put oj w a oi.dst v h1] at h
   refine ⟨h.1, ?_⟩
   have h := h.2
   rw [hro, Oper.semAt_none, execOp_put oj hsj a oi.dst v h1] at h
   rw [hro, Oper.semAt_none]
   generalize (execOp a.eval oj).run P w = r at *
   cases r with
   | ok x w' =>
    cases x <;> simp only [Oper.uponIn] at h ⊢
    case value u => exact ⟨keep a hy u, by rw [← Act.put_comm a v u h2]; exact h⟩
    case skip => exact ⟨keep a hy _, by rw [← Act.put_comm a v undef h2]; exact h⟩
    case defer d =>
     refine ⟨keep _ (keepD d) _, ?_⟩
     rw [← Act.put_comm _ v undef h2, ← Act.put_defers]
     exact h
    case enter f args =>
     refine ⟨h.1, CallsIn.mono h.2 fun e w'' he => ?_⟩
     cases e with
     | returned u => exact ⟨keep a hy u, by rw [← Act.put_comm a v u h2]; exact he⟩
     | panicked c => exact hQ _ _ _ he
     | outgrown => exact he
    case row row args => exact ⟨h.1, RowsIn.mono h.2 fun u w'' he => ⟨keep a hy u, by rw [← Act.put_comm a v u h2]; exact he⟩⟩
    case round l f tmps assign body =>
     refine ⟨h.1, RoundIn.mono h.2 fun e w'' he => ?_⟩
     cases e with
     | returned u => exact ⟨keep a hy u, by rw [← Act.put_comm a v u h2]; exact he⟩
     | panicked c => exact hQ _ _ _ he
     | outgrown => exact he
   | halt x w' =>
    cases x <;> simp only [Oper.uponIn] at h ⊢
    case panic u => exact hQ _ _ _ h
 · rename_i hw
   simp only [hw] at h
   exact ⟨h.1, keep a hy _, by rw [← Act.put_comm a v undef h2]; exact h.2⟩
def wpAnyHI (F : Fence) (n : Nat) (P : Program) (md : Region.Mode) (ops : Array Oper) (Q : Exit → Act → World → Prop) (S : World → Prop) : Nat → Array Bool → Act → World → Prop
 | 0, listed, a, w => Region.ready md ops listed = [] ∧ Q .normal a w
 | fuel + 1, listed, a, w =>
  (Region.ready md ops listed = [] → Q .normal a w) ∧
  ∀ i ∈ Region.ready md ops listed, wpOpIn F n P ops Q i (fun a' w' => S w' ∧ wpAnyHI F n P md ops Q S fuel (listed.setIfInBounds i true) a' w') a w
theorem wpAnyIn_of_heldHI : ∀ (fuel : Nat) (listed : Array Bool) (a : Act) (w : World), wpAnyHI F n P md ops Q S fuel listed a w → wpAnyIn F n P md ops Q fuel listed a w
 | 0, _, _, _, h => h
 | fuel + 1, _, _, _, h => ⟨h.1, fun i hi => wpOpIn_mono (fun a' w' h' => wpAnyIn_of_heldHI fuel _ a' w' h'.2) (h.2 i hi)⟩
theorem wpAnyHI_first {i : Nat} {oi : Oper} {v : Value} (hro : F.round = none) (hi : ops[i]? = some oi) (hsel : ∀ (j : Nat) (o : Oper) cs b, ops[j]? = some o → o.op ≠ .select cs b)
  (hQ : ∀ c a w, Q (.panic c) (a.put oi.dst v) w → Q (.panic c) a w) :
  ∀ (fuel : Nat) (listed : Array Bool) (a : Act) (w : World),
   (∀ j oj, ops[j]? = some oj → j ≠ i → listed.getD j true = false → (∀ e ∈ oj.after, Region.binds md e = true → e.on ≠ i) → oi.apart ops oj = true) →
   i ∈ Region.ready md ops listed → YieldsHI P ops S oi v a → S w →
   wpAnyHI F n P md ops Q S fuel (listed.setIfInBounds i true) (a.put oi.dst v) w → wpAnyHI F n P md ops Q S (fuel + 1) listed a w := by
 intro fuel
 induction fuel with
 | zero =>
  intro listed a w _ hr hy hS H
  refine ⟨fun h => (by rw [h] at hr; cases hr), fun j hj => ?_⟩
  by_cases hji : j = i
  · subst hji; exact hy.go hro hi hS ⟨hS, H⟩
  · have := ready_mono hj hji
    rw [H.1] at this
    cases this
 | succ fuel ih =>
  intro listed a w hfree hr hy hS H
  refine ⟨fun h => (by rw [h] at hr; cases hr), fun j hj => ?_⟩
  by_cases hji : j = i
  · subst hji; exact hy.go hro hi hS ⟨hS, H⟩
  · have h1 := H.2 j (ready_mono hj hji)
    obtain ⟨hjun, oj, hoj, hall⟩ := mem_ready.1 hj
    have hnot : ∀ e ∈ oj.after, Region.binds md e = true → e.on ≠ i := fun e he hb heq => by
     have h1 := hall e he hb
     have h0 := (mem_ready.1 hr).1
     rw [heq] at h1
     rcases Nat.lt_or_ge i listed.size with h' | h'
     · simp [h'] at h0 h1; rw [h0] at h1; cases h1
     · simp [Array.getElem?_eq_none h'] at h1
    have h2 := wpOpIn_putHI hro hoj (hfree j oj hoj hji hjun hnot) (fun cs b => hsel i oi cs b hi) (fun cs b => hsel j oj cs b hoj) hQ hy h1
    have hfree' : ∀ k ok, ops[k]? = some ok → k ≠ i → (listed.setIfInBounds j true).getD k true = false →
      (∀ e ∈ ok.after, Region.binds md e = true → e.on ≠ i) → oi.apart ops ok = true := fun k ok hk hki hun hno => by
     refine hfree k ok hk hki ?_ hno
     by_cases hjk : j = k
     · subst hjk; exact hjun
     · rw [getD_set_ne true hjk] at hun; exact hun
    refine wpOpIn_mono (fun a' w' h3 => ⟨h3.2.1, ih (listed.setIfInBounds j true) a' w' hfree' (ready_mono hr (Ne.symm hji)) h3.1 h3.2.1 ?_⟩) h2
    rw [Array.setIfInBounds_comm _ _ hji]
    exact h3.2.2
theorem wpIn_region_listedHI {id : Nat} {a : Act} {w : World} (k : Nat) (L : List Bool) (hk : ops.size = k) (hL : (Array.replicate k false).toList = L) (hm : P.follows .mixedOrders = true)
  (h : wpAnyHI F n P .any ops Q S k L.toArray a w.drew) : (Code.region id ops true).wpIn F n P Q a w := by
 subst hk
 subst hL
 exact wpIn_region_any hm (wpAnyIn_of_heldHI _ _ _ _ h)
theorem takeGI {fuel : Nat} {w : World} (i d : Nat) {oi : Oper} {v : Value} {L : List Bool} {ts : List Value} {ds : List Deferred} (hro : F.round = none) (hi : ops[i]? = some oi) (hdst : oi.dst = some d) (hw : Region.wanted oi (yielded ops ts.toArray) = true)
  (hs : Region.noSelect ops = true) (hf : Region.free md ops L.toArray i = true) (hr : (Region.ready md ops L.toArray).contains i = true)
  (hQ : ∀ c (a : Act) v w, Q (.panic c) (a.put (some d) v) w → Q (.panic c) a w) (hS : S w) (hab : ∀ w, oi.about P w (Act.eval { tmps := ts.toArray, defers := ds }) = none)
  (hy : ∀ w, S w → (execOp (Act.eval { tmps := ts.toArray, defers := ds }) oi).run P w = .ok (.value v) w)
  (h : wpAnyHI F n P md ops Q S fuel (L.set i true).toArray { tmps := (ts.set d v).toArray, defers := ds } w) : wpAnyHI F n P md ops Q S (fuel + 1) L.toArray { tmps := ts.toArray, defers := ds } w := by
 refine wpAnyHI_first hro hi (Region.noSelect_spec hs) (fun c a w h => hQ c a v w (by rw [← hdst]; exact h)) fuel _ _ _ (Region.free_spec hi hf) (by simpa using hr) ⟨Or.inl ⟨hw, hy⟩, hab⟩ hS ?_
 simpa [Act.put, hdst] using h
theorem takeSI {fuel : Nat} {w : World} (i d : Nat) {oi : Oper} {L : List Bool} {ts : List Value} {ds : List Deferred} (hro : F.round = none) (hi : ops[i]? = some oi) (hdst : oi.dst = some d) (hw : Region.wanted oi (yielded ops ts.toArray) = false)
  (hs : Region.noSelect ops = true) (hf : Region.free md ops L.toArray i = true) (hr : (Region.ready md ops L.toArray).contains i = true)
  (hQ : ∀ c (a : Act) v w, Q (.panic c) (a.put (some d) v) w → Q (.panic c) a w) (hS : S w) (hab : ∀ w, oi.about P w (Act.eval { tmps := ts.toArray, defers := ds }) = none)
  (h : wpAnyHI F n P md ops Q S fuel (L.set i true).toArray { tmps := (ts.set d undef).toArray, defers := ds } w) : wpAnyHI F n P md ops Q S (fuel + 1) L.toArray { tmps := ts.toArray, defers := ds } w := by
 refine wpAnyHI_first hro hi (Region.noSelect_spec hs) (fun c a w h => hQ c a undef w (by rw [← hdst]; exact h)) fuel _ _ _ (Region.free_spec hi hf) (by simpa using hr) ⟨Or.inr ⟨hw, rfl⟩, hab⟩ hS ?_
 simpa [Act.put, hdst] using h
theorem wpAnyHI_done {listed : Array Bool} {a : Act} {w : World} (hr : Region.ready md ops listed = []) (h : Q .normal a w) :
  ∀ fuel, wpAnyHI F n P md ops Q S fuel listed a w
 | 0 => ⟨hr, h⟩
 | _ + 1 => ⟨fun _ => h, by rw [hr]; simp⟩
theorem wpAnyHI_call {i : Nat} {o : Oper} {fuel : Nat} {listed : Array Bool} {a : Act} {w : World} (hr : Region.ready md ops listed = [i]) (ho : ops[i]? = some o)
  (h : ∀ K' : Act → World → Prop, Shut (∀ a w, S w → wpAnyHI F n P md ops Q S fuel (listed.setIfInBounds i true) a w → K' a w) → if Region.wanted o (yielded ops a.tmps) = true then Oper.wpIn F n P o a w K' Q else (∀ f, o.about P w a.eval = some f → F.fn f) ∧ K' (a.put o.dst undef) w) :
  wpAnyHI F n P md ops Q S (fuel + 1) listed a w := by
 refine ⟨fun h0 => (by rw [hr] at h0; cases h0), fun j hj => ?_⟩
 rw [hr] at hj
 obtain rfl : j = i := by simpa using hj
 exact wpOpIn_step ho (fun K' hK => h K' (fun a w hS hW => hK a w ⟨hS, hW⟩))
theorem wpAnyHI_two {i j : Nat} {oi oj : Oper} {fuel : Nat} {listed : Array Bool} {a : Act} {w : World} (hr : Region.ready md ops listed = [i, j]) (hi : ops[i]? = some oi) (hj : ops[j]? = some oj)
  (h : ∀ K' : Act → World → Prop, Shut (∀ a w, S w → wpAnyHI F n P md ops Q S fuel (listed.setIfInBounds i true) a w → K' a w) → if Region.wanted oi (yielded ops a.tmps) = true then Oper.wpIn F n P oi a w K' Q else (∀ f, oi.about P w a.eval = some f → F.fn f) ∧ K' (a.put oi.dst undef) w)
  (h' : ∀ K' : Act → World → Prop, Shut (∀ a w, S w → wpAnyHI F n P md ops Q S fuel (listed.setIfInBounds j true) a w → K' a w) → if Region.wanted oj (yielded ops a.tmps) = true then Oper.wpIn F n P oj a w K' Q else (∀ f, oj.about P w a.eval = some f → F.fn f) ∧ K' (a.put oj.dst undef) w) :
  wpAnyHI F n P md ops Q S (fuel + 1) listed a w := by
 refine ⟨fun h0 => (by rw [hr] at h0; cases h0), fun x hx => ?_⟩
 rw [hr] at hx
 rcases List.mem_cons.1 hx with rfl | hx
 · exact wpOpIn_step hi (fun K' hK => h K' (fun a w hS hW => hK a w ⟨hS, hW⟩))
 · obtain rfl : x = j := by simpa using hx
   exact wpOpIn_step hj (fun K' hK => h' K' (fun a w hS hW => hK a w ⟨hS, hW⟩))
end
section
variable {F : Fence} {n : Nat} {P : Program} {ops : Array Oper} {Q : Exit → Act → World → Prop} {md : Region.Mode} {S : World → Prop}
theorem tkI {fuel : Nat} {w : World} (i d : Nat) {oi : Oper} {v : Value} {L : List Bool} {ts : List Value} {ds : List Deferred} (hro : F.round = none) (hS : S w) {L2 : List Bool} {ts2 : List Value} (h : wpAnyHI F n P md ops Q S fuel L2.toArray { tmps := ts2.toArray, defers := ds } w)
  (hi : ops[i]? = some oi := by rfl) (hdst : oi.dst = some d := by rfl) (hw : Region.wanted oi (yielded ops ts.toArray) = true := by rfl)
  (hs : Region.noSelect ops = true := by kernel_rfl) (hf : Region.free md ops L.toArray i = true := by kernel_rfl) (hr : (Region.ready md ops L.toArray).contains i = true := by kernel_rfl)
  (hQ : ∀ c (a : Act) v w, Q (.panic c) (a.put (some d) v) w → Q (.panic c) a w := by exact fun _ _ _ _ h => h) (hab : ∀ w, oi.about P w (Act.eval { tmps := ts.toArray, defers := ds }) = none := by exact fun _ => rfl)
  (hy : ∀ w, S w → (execOp (Act.eval { tmps := ts.toArray, defers := ds }) oi).run P w = .ok (.value v) w := by intro w hSw; clear hSw; go_simp; try rfl)
  (hL : L.set i true = L2 := by simp only [st1, st2]; try exact rfl) (ht : ts.set d v = ts2 := by simp only [st1, st2]; try exact rfl) :
  wpAnyHI F n P md ops Q S (fuel + 1) L.toArray { tmps := ts.toArray, defers := ds } w := takeGI i d hro hi hdst hw hs hf hr hQ hS hab hy (by rw [hL, ht]; exact h)
theorem tkJ {fuel : Nat} {w : World} {C : World → Prop} (i d : Nat) {oi : Oper} {v : Value} {L : List Bool} {ts : List Value} {ds : List Deferred} (hro : F.round = none) (hS : S w) (hC : ∀ w, S w → C w) {L2 : List Bool} {ts2 : List Value} (h : wpAnyHI F n P md ops Q S fuel L2.toArray { tmps := ts2.toArray, defers := ds } w)
  (hi : ops[i]? = some oi := by rfl) (hdst : oi.dst = some d := by rfl) (hw : Region.wanted oi (yielded ops ts.toArray) = true := by rfl)
  (hs : Region.noSelect ops = true := by kernel_rfl) (hf : Region.free md ops L.toArray i = true := by kernel_rfl) (hr : (Region.ready md ops L.toArray).contains i = true := by kernel_rfl)
  (hQ : ∀ c (a : Act) v w, Q (.panic c) (a.put (some d) v) w → Q (.panic c) a w := by exact fun _ _ _ _ h => h) (hab : ∀ w, oi.about P w (Act.eval { tmps := ts.toArray, defers := ds }) = none := by exact fun _ => rfl)
  (hy : ∀ w, C w → (execOp (Act.eval { tmps := ts.toArray, defers := ds }) oi).run P w = .ok (.value v) w := by intro w hc; go_simp; try rfl)
  (hL : L.set i true = L2 := by simp only [st1, st2]; try exact rfl) (ht : ts.set d v = ts2 := by simp only [st1, st2]; try exact rfl) :
  wpAnyHI F n P md ops Q S (fuel + 1) L.toArray { tmps := ts.toArray, defers := ds } w := takeGI i d hro hi hdst hw hs hf hr hQ hS hab (fun w hw => hy w (hC w hw)) (by rw [hL, ht]; exact h)
theorem tkT {fuel : Nat} {w : World} (i d : Nat) {oi : Oper} {L : List Bool} {ts : List Value} {ds : List Deferred} (hro : F.round = none) (hS : S w) {L2 : List Bool} {ts2 : List Value} (h : wpAnyHI F n P md ops Q S fuel L2.toArray { tmps := ts2.toArray, defers := ds } w)
  (hi : ops[i]? = some oi := by rfl) (hdst : oi.dst = some d := by rfl) (hw : Region.wanted oi (yielded ops ts.toArray) = false := by rfl)
  (hs : Region.noSelect ops = true := by kernel_rfl) (hf : Region.free md ops L.toArray i = true := by kernel_rfl) (hr : (Region.ready md ops L.toArray).contains i = true := by kernel_rfl)
  (hQ : ∀ c (a : Act) v w, Q (.panic c) (a.put (some d) v) w → Q (.panic c) a w := by exact fun _ _ _ _ h => h) (hab : ∀ w, oi.about P w (Act.eval { tmps := ts.toArray, defers := ds }) = none := by exact fun _ => rfl)
  (hL : L.set i true = L2 := by simp only [st1, st2]; try exact rfl) (ht : ts.set d undef = ts2 := by simp only [st1, st2]; try exact rfl) :
  wpAnyHI F n P md ops Q S (fuel + 1) L.toArray { tmps := ts.toArray, defers := ds } w := takeSI i d hro hi hdst hw hs hf hr hQ hS hab (by rw [hL, ht]; exact h)
end
end
section
open Go Go.RowKit
def ownPostX {α : Type} (B : Nat) (Kp Kx : World → World → Prop) (I : List α → World → Prop) (Ix : Code → List α → World → Prop) (xs : List α) (W : World) : Exit → Act → World → Prop
 | .normal, _, W' => KeepsFrom B W W' ∧ Kp W W' ∧ I xs W'
 | .ret, _, W' => KeepsFrom B W W' ∧ Kx W W' ∧ Ix .ret xs W'
 | .exit id, _, W' => KeepsFrom B W W' ∧ Kx W W' ∧ Ix (.exit id) xs W'
 | .goto t, _, W' => KeepsFrom B W W' ∧ Kx W W' ∧ Ix (.goto t) xs W'
 | .panic _, _, _ => False
 | .outgrown, _, _ => False
section
variable {F : Fence} {n : Nat} {P : Program}
def SeqX {α : Type} (F : Fence) (n : Nat) (P : Program) (g : Nat) (lb : Array Value) (encs : α → Array Value) (Kp Kx : World → World → Prop) (Nx : List α → α → Prop) (S : List α → Prop) (w : World) : Prop :=
 ∀ (l : Nat) (J Jx : List α → World → Prop) (W : World), Below w.heap.size w W → AbidesFrom W.heap.size J → AbidesFrom W.heap.size Jx →
  (∀ pre x W1, Nx pre x → J pre W1 → YieldAt F (n - 1) P l (encs x) W1 fun e W' =>
    (e = .returned (.bool true) ∧ J (pre ++ [x]) W' ∧ Kp W1 W') ∨ (e = .returned (.bool false) ∧ Jx (pre ++ [x]) W' ∧ Kx W1 W')) →
  J [] W →
  CallsIn F n P g (#[.func (.yield l) #[] #[]] ++ lb) W fun e W' => (∃ v, e = .returned v) ∧ ((∃ xs, S xs ∧ J xs W') ∨ (∃ pre, Jx pre W'))
theorem wpIn_rangeFunc_x {α : Type} {g : Operand} {ps : Array Tmp} {assign body : Code} {Q : Exit → Act → World → Prop} {a : Act} {w : World}
  (hro : F.round = none) (h1 : 1 ≤ n) {gf : Nat} {lb : Array Value} (hg : a.eval g = .func (.func gf) #[] lb) (hFg : F.fn gf) (eg : ∀ args w, (callFunc gf args).run P w = .ok (.enter gf args) w)
  {encs : α → Array Value} {Kp Kx : World → World → Prop} {Nx : List α → α → Prop} {S : List α → Prop} {w0 : World} (hseq : SeqX F (n - 1) P gf lb encs Kp Kx Nx S w0)
  (hKt : ∀ {A B C : World}, Kp A B → Kp B C → Kp A C) (hKb : ∀ (W : World) (l : Nat) (o o' : Obj), w.heap.size ≤ l → W.heap[l]? = some o → o.isCells = false → o.isWalk = false → Kp W (W.putObj l o')) (hKx : ∀ {A B C : World}, Kp A B → Kx B C → Kx A C) (hKxb : ∀ {A B C : World}, Kx A B → Kp B C → Kx A C) (hb0 : Below w0.heap.size w0 w) (hps : ∀ x, (encs x).size = ps.size)
  (I : List α → World → Prop) (Ix : Code → List α → World → Prop) (M : α → Act → List α → World → Prop) (hI : OwnFrom w.heap.size I) (hIx : ∀ c, OwnFrom w.heap.size (Ix c)) (hM : ∀ x a', OwnFrom w.heap.size (M x a')) (h0 : I [] w)
  (hassign : ∀ (l : Nat) (pre : List α) (x : α) (W : World), Nx pre x → I pre W →
    assign.wpIn (F.inRound l) (n - 1 - 1) P (Exit.then (fun a' W' => KeepsFrom w.heap.size W W' ∧ Kp W W' ∧ M x a' pre W') (fun _ _ _ => False)) { tmps := (ps.zip (encs x)).foldl (fun t (p, v) => t.setIfInBounds p v) a.tmps, defers := [] } W)
  (hbody : ∀ (l : Nat) (pre : List α) (x : α) (a' : Act) (W : World), Nx pre x → M x a' pre W → body.wpIn (F.inRound l) (n - 1 - 1) P (ownPostX w.heap.size Kp Kx I Ix (pre ++ [x]) W) a' W)
  (hdone : ∀ (D : Nat) (xs : List α) (W : World), w.heap.size ≤ D → S xs → I xs W → W.heap[D]? = some (.deferred (some [])) → Q .normal { a with defers := { target := .collected D, args := #[] } :: a.defers } W)
  (hstop : ∀ (D : Nat) (c : Code) (pre : List α) (W : World), w.heap.size ≤ D → Ix c pre W → W.heap[D]? = some (.deferred (some [])) → c.wpIn F n P Q { a with defers := { target := .collected D, args := #[] } :: a.defers } W) :
  (Code.rangeFunc g ps assign body).wpIn F n P Q a w := by
 refine wpIn_rangeFunc fun fn hfn => ?_
 rw [hro]
 let rc : LoopState → Option Code → Loop := fun st pe => { state := st, pending := pe, fn, tmps := a.tmps, params := ps, assign, body, defers := w.heap.size }
 have hsz1 : ((w.alloc (.deferred (some []))).alloc (.loop (rc .ready none))).heap.size = w.heap.size + 2 := by simp
 have hm1 : Marks w.heap.size (rc .ready none) ((w.alloc (.deferred (some []))).alloc (.loop (rc .ready none))) := by
  refine ⟨(Below.heap_alloc _ _ _ (by simp)).trans (World.alloc_heap_new w _), ?_⟩
  have := World.alloc_heap_new (w.alloc (.deferred (some []))) (.loop (rc .ready none))
  rwa [World.size_alloc] at this
 have hi1 : I [] ((w.alloc (.deferred (some []))).alloc (.loop (rc .ready none))) := hI.alloc _ (hI.alloc _ h0)
 have hb1 : Below w0.heap.size w0 ((w.alloc (.deferred (some []))).alloc (.loop (rc .ready none))) := hb0.trans ((((Below.refl _ w).alloc (Nat.le_refl _) _).alloc (by simp) _).mono hb0.size)
 have hrun := run_enterLoop_outer (P := P) (w := w) fn a.tmps ps assign body
 change _ = Result.ok _ ((w.alloc (.deferred (some []))).alloc (.loop (rc .ready none))) at hrun
 generalize ((w.alloc (.deferred (some []))).alloc (.loop (rc .ready none))) = W1 at hsz1 hm1 hi1 hb1 hrun
 refine ⟨w.heap.size + 1, [{ target := .collected w.heap.size, args := #[] }], W1, { target := .fn (.func gf) lb, args := #[.func (.yield (w.heap.size + 1)) #[] #[]] }, W1, gf,
  #[.func (.yield (w.heap.size + 1)) #[] #[]] ++ lb, W1, hrun, ?_, ?_, ?_, fun _ => h1, ?_⟩
 · simp only [resolve, hg]
   simp [go_sem]
 · intro f' hf'; simp [Target.leads] at hf'; subst hf'; exact hFg
 · simp [invoke, go_sem, eg]
 have hrow : ∀ {A : World} {row : Option Nat}, (∀ r, row = some r → W1.heap.size ≤ r ∧ ∃ o : Obj, A.heap[r]? = some o ∧ o.isWalk = true) → (∀ r, row = some r → w.heap.size ≤ r ∧ ∃ o : Obj, A.heap[r]? = some o ∧ o.isCells = false) :=
  fun hr r e => by obtain ⟨hB, o, ho, hw⟩ := hr r e; exact ⟨by omega, o, ho, Obj.not_cells_of_walk hw⟩
 refine (hseq (w.heap.size + 1) (fun pre W => I pre W ∧ Marks w.heap.size (rc .ready none) W) (fun pre W => ∃ c, Ix c pre W ∧ Marks w.heap.size (rc .done (some c)) W) W1 hb1
  (fun s A B row hs hg' hr => ⟨hI s A B row hs.1 hg' (hrow hr), hs.2.grown hg' fun j e => (hr j e).2⟩)
  (fun s A B row ⟨c, hc, hm⟩ hg' hr => ⟨c, hIx c s A B row hc hg' (hrow hr), hm.grown hg' fun j e => (hr j e).2⟩) ?_ ⟨hi1, hm1⟩).mono ?_
 · rintro pre x W hnx ⟨hi, hm⟩
   refine ⟨fn, _, assign, body, run_yield hm.loop (hps x), roundIn_of_wpIn hfn (wpIn_mono (hassign _ pre x W hnx hi) ?_)⟩
   rintro e a' Wa hp
   cases e with
   | normal =>
    obtain ⟨hka, hkpa, hMa⟩ := hp
    have hma := hm.keeps hka
    refine ⟨_, run_beginRound hma.loop rfl, ?_⟩
    have hmb := hma.put (rc .busy none)
    have hkb : Kp W (Wa.putObj (w.heap.size + 1) (.loop (rc .busy none))) := hKt hkpa (hKb _ _ _ _ (Nat.le_succ _) hma.loop rfl rfl)
    refine wpIn_mono (hbody _ pre x a' _ hnx ((hM x a').putObj _ hMa (Nat.le_succ _) hma.loop rfl)) ?_
    have leave : ∀ (jump : Option Code) (W3 : World), KeepsFrom w.heap.size (Wa.putObj (w.heap.size + 1) (.loop (rc .busy none))) W3 →
      (Instr.endRound (w.heap.size + 1) jump).run P W3 = .ok (.bool jump.isNone) (W3.putObj (w.heap.size + 1) (.loop (rc (if jump.isNone then .ready else .done) jump))) ∧
      W3.heap[w.heap.size + 1]? = some (.loop (rc .busy none)) ∧ Marks w.heap.size (rc (if jump.isNone then .ready else .done) jump) (W3.putObj (w.heap.size + 1) (.loop (rc (if jump.isNone then .ready else .done) jump))) := fun jump W3 hk3 =>
     ⟨run_endRound (P := P) jump (hmb.keeps hk3).loop, (hmb.keeps hk3).loop, (hmb.keeps hk3).put _⟩
    rintro e a3 W3 hp
    cases e with
    | normal =>
     obtain ⟨hk3, hkp3, hi3⟩ := hp
     obtain ⟨hr, hl3, hm3⟩ := leave none W3 hk3
     exact ⟨_, _, hr, .inl ⟨rfl, ⟨hI.putObj _ hi3 (Nat.le_succ _) hl3 rfl, hm3⟩, hKt (hKt hkb hkp3) (hKb _ _ _ _ (Nat.le_succ _) hl3 rfl rfl)⟩⟩
    | ret =>
     obtain ⟨hk3, hkx3, hi3⟩ := hp
     obtain ⟨hr, hl3, hm3⟩ := leave (some .ret) W3 hk3
     exact ⟨_, _, hr, .inr ⟨rfl, ⟨.ret, (hIx _).putObj _ hi3 (Nat.le_succ _) hl3 rfl, hm3⟩, hKxb (hKx hkb hkx3) (hKb _ _ _ _ (Nat.le_succ _) hl3 rfl rfl)⟩⟩
    | exit id =>
     obtain ⟨hk3, hkx3, hi3⟩ := hp
     obtain ⟨hr, hl3, hm3⟩ := leave (some (.exit id)) W3 hk3
     exact ⟨_, _, hr, .inr ⟨rfl, ⟨.exit id, (hIx _).putObj _ hi3 (Nat.le_succ _) hl3 rfl, hm3⟩, hKxb (hKx hkb hkx3) (hKb _ _ _ _ (Nat.le_succ _) hl3 rfl rfl)⟩⟩
    | goto t =>
     obtain ⟨hk3, hkx3, hi3⟩ := hp
     obtain ⟨hr, hl3, hm3⟩ := leave (some (.goto t)) W3 hk3
     exact ⟨_, _, hr, .inr ⟨rfl, ⟨.goto t, (hIx _).putObj _ hi3 (Nat.le_succ _) hl3 rfl, hm3⟩, hKxb (hKx hkb hkx3) (hKb _ _ _ _ (Nat.le_succ _) hl3 rfl rfl)⟩⟩
    | panic ch => exact hp.elim
    | outgrown => exact hp.elim
   | ret => exact hp.elim
   | exit id => exact hp.elim
   | goto t => exact hp.elim
   | panic ch => exact hp.elim
   | outgrown => exact hp.elim
 · rintro e W2 ⟨⟨v, rfl⟩, (⟨xs, hS, hi, hm⟩ | ⟨pre, c, hi, hm⟩)⟩
   · exact ⟨none, _, run_endLoop (P := P) hm.loop (by simp [rc]), hdone _ xs _ (Nat.le_refl _) hS (hI.putObj _ hi (Nat.le_succ _) hm.loop rfl) ((World.putObj_heap_other (by omega)).trans hm.dfr)⟩
   · exact ⟨some c, _, run_endLoop (P := P) hm.loop (by simp [rc]), hstop _ c pre _ (Nat.le_refl _) ((hIx c).putObj _ hi (Nat.le_succ _) hm.loop rfl) ((World.putObj_heap_other (by omega)).trans hm.dfr)⟩
theorem wpIn_rangeFunc_f {α β : Type} {FA : α → β → Act} {g : Operand} {ps : Array Tmp} {assign body : Code} {Q : Exit → Act → World → Prop} {a : Act} {w : World}
  (hro : F.round = none) (h1 : 1 ≤ n) {gf : Nat} {lb : Array Value} (hg : a.eval g = .func (.func gf) #[] lb) (hFg : F.fn gf) (eg : ∀ args w, (callFunc gf args).run P w = .ok (.enter gf args) w)
  {encs : α → Array Value} {Kp Kx : World → World → Prop} {Nx : List α → α → Prop} {S : List α → Prop} {w0 : World} (hseq : SeqX F (n - 1) P gf lb encs Kp Kx Nx S w0)
  (hKt : ∀ {A B C : World}, Kp A B → Kp B C → Kp A C) (hKb : ∀ (W : World) (l : Nat) (o o' : Obj), w.heap.size ≤ l → W.heap[l]? = some o → o.isCells = false → o.isWalk = false → Kp W (W.putObj l o')) (hKx : ∀ {A B C : World}, Kp A B → Kx B C → Kx A C) (hKxb : ∀ {A B C : World}, Kx A B → Kp B C → Kx A C) (hb0 : Below w0.heap.size w0 w) (hps : ∀ x, (encs x).size = ps.size)
  (I : List α → World → Prop) (Ix : Code → List α → World → Prop) (M : α → β → List α → World → Prop) (hI : OwnFrom w.heap.size I) (hIx : ∀ c, OwnFrom w.heap.size (Ix c)) (hM : ∀ x nb, OwnFrom w.heap.size (M x nb)) (h0 : I [] w)
  (hassign : ∀ (l : Nat) (pre : List α) (x : α) (W : World), Nx pre x → I pre W →
    assign.wpIn (F.inRound l) (n - 1 - 1) P (Exit.then (fun a' W' => KeepsFrom w.heap.size W W' ∧ Kp W W' ∧ ∃ nb, a' = FA x nb ∧ M x nb pre W') (fun _ _ _ => False)) { tmps := (ps.zip (encs x)).foldl (fun t (p, v) => t.setIfInBounds p v) a.tmps, defers := [] } W)
  (hbody : ∀ (l : Nat) (pre : List α) (x : α) (nb : β) (W : World), Nx pre x → M x nb pre W → body.wpIn (F.inRound l) (n - 1 - 1) P (ownPostX w.heap.size Kp Kx I Ix (pre ++ [x]) W) (FA x nb) W)
  (hdone : ∀ (D : Nat) (xs : List α) (W : World), w.heap.size ≤ D → S xs → I xs W → W.heap[D]? = some (.deferred (some [])) → Q .normal { a with defers := { target := .collected D, args := #[] } :: a.defers } W)
  (hstop : ∀ (D : Nat) (c : Code) (pre : List α) (W : World), w.heap.size ≤ D → Ix c pre W → W.heap[D]? = some (.deferred (some [])) → c.wpIn F n P Q { a with defers := { target := .collected D, args := #[] } :: a.defers } W) :
  (Code.rangeFunc g ps assign body).wpIn F n P Q a w :=
 wpIn_rangeFunc_x hro h1 hg hFg eg hseq hKt hKb hKx hKxb hb0 hps I Ix (fun x a' pre W => ∃ nb, a' = FA x nb ∧ M x nb pre W) hI hIx (fun x _ s A B row ⟨nb, ha, hm⟩ hg hr => ⟨nb, ha, hM x nb s A B row hm hg hr⟩) h0 hassign (fun l pre x _ W hnx ⟨nb, ha, hm⟩ => by subst ha; exact hbody l pre x nb W hnx hm) hdone hstop
end
end
section
open Go Go.RowKit Go.Shelf Go.IntWalk
attribute [local go_sem] Oper.semAt_some
structure KpC (n₀ Bs : Nat) (D : Nat → Prop) (A B : World) : Prop where
 below : Below n₀ A B
 box : B.heap[Bs]? = A.heap[Bs]?
 size : A.heap.size ≤ B.heap.size
 same : ∀ b o, A.heap[b]? = some o → o.isCells = true → ¬ D b → B.heap[b]? = some o
structure KxC (Bs sb m : Nat) (A B : World) : Prop where
 box : B.heap[Bs]? = A.heap[Bs]?
 sbk : B.heap[sb]? = A.heap[sb]?
 same : ∀ b o, A.heap[b]? = some o → o.isCells = true → m ≤ b → B.heap[b]? = some o
theorem KpC.x {n₀ Bs sb m : Nat} {D : Nat → Prop} {A B C : World} (hs : sb < n₀) (hD : ∀ b, D b → b < m) (h : KpC n₀ Bs D A B) (k : KxC Bs sb m B C) : KxC Bs sb m A C :=
 ⟨k.box.trans h.box, k.sbk.trans (h.below.block sb hs), fun b o h1 h2 h3 => k.same b o (h.same b o h1 h2 (fun hd => by have := hD b hd; omega)) h2 h3⟩
theorem KxC.p {n₀ Bs sb m : Nat} {D : Nat → Prop} {A B C : World} (hs : sb < n₀) (hD : ∀ b, D b → b < m) (h : KxC Bs sb m A B) (k : KpC n₀ Bs D B C) : KxC Bs sb m A C :=
 ⟨k.box.trans h.box, (k.below.block sb hs).trans h.sbk, fun b o h1 h2 h3 => k.same b o (h.same b o h1 h2 h3) h2 (fun hd => by have := hD b hd; omega)⟩
theorem cell_of_same {A B : World} {b : Nat} (h : B.heap[b]? = A.heap[b]?) (i : Nat) : B.cell? ⟨b, i, none⟩ = A.cell? ⟨b, i, none⟩ := World.cell?_of_block h
theorem wpIn_region_noPanic {F : Fence} {n : Nat} {P : Program} {id : Nat} {ops : Array Oper} {b : Bool} {Q : Exit → Act → World → Prop} {a : Act} {w : World} (h : (Code.region id ops b).wpIn F n P (NoPanic Q) a w) : (Code.region id ops b).wpIn F n P Q a w := wpIn_mono h NoPanic.imp
theorem KpC.t {n₀ Bs : Nat} {D : Nat → Prop} {A B C : World} (h : KpC n₀ Bs D A B) (k : KpC n₀ Bs D B C) : KpC n₀ Bs D A C :=
 ⟨h.below.trans k.below, k.box.trans h.box, Nat.le_trans h.size k.size, fun b o h1 h2 h3 => k.same b o (h.same b o h1 h2 h3) h2 h3⟩
theorem KpC.b {n₀ Bs : Nat} {D : Nat → Prop} {w : World} (hn : n₀ ≤ w.heap.size) (hB : Bs < w.heap.size) (W : World) (l : Nat) (o o' : Obj) (hl : w.heap.size ≤ l) (h : W.heap[l]? = some o) (hc : o.isCells = false) (hw : o.isWalk = false) : KpC n₀ Bs D W (W.putObj l o') := by
 refine ⟨belowK_b hn W l o o' hl h hc hw, World.putObj_heap_other (by omega), (grownBy_putObj' W l o').size, fun b o2 h1 h2 _ => ?_⟩
 by_cases hb : b = l
 · subst hb
   rw [h] at h1
   cases h1
   rw [hc] at h2
   cases h2
 · rw [World.putObj_heap_other hb]
   exact h1
theorem KpC.of {n₀ Bs : Nat} {D : Nat → Prop} {L L' : List Blk} {A B : World} (h : Turn L A L' B) (hn : n₀ ≤ A.heap.size) (hB : Bs < A.heap.size) (hL : ∀ b ∈ keys L, D b) (hD : ∀ b, D b → n₀ ≤ b ∧ b ≠ Bs) : KpC n₀ Bs D A B :=
 ⟨⟨h.os, h.tape, h.output, h.size, fun b hb => h.same b (Nat.lt_of_lt_of_le hb hn) (fun hm => by have := (hD b (hL b hm)).1; omega)⟩,
  h.same Bs hB (fun hm => (hD Bs (hL Bs hm)).2 rfl), h.size, fun b o h1 _ h3 => (h.same b (lt_of_block h1) (fun hm => h3 (hL b hm))).trans h1⟩
theorem Has.one {w : World} {b : Nat} {o : Obj} (h : w.heap[b]? = some o) : Has w [(b, o)] := ⟨List.nodup_cons.2 ⟨by simp, List.nodup_nil⟩, fun b' o' hm => by
 obtain ⟨rfl, rfl⟩ := Prod.mk.inj (List.mem_singleton.1 hm)
 exact h⟩
def ceArgs (c : Ce) : Array Value := #[.agg #[.int .i64 c.1, .int .u8 c.2.tag, .int .i64 c.2.typ, .int .i64 c.2.len, .int .i64 c.2.size]]
structure SpAt (w : World) (sb a aw tb : Nat) (W : List Nat) (tao : Option Addr) (tcap : Nat) (L : List Ty) : Prop where
 c0 : w.cell? ⟨sb, 0, none⟩ = some (.pointer (some ⟨a, 0, none⟩))
 c1 : w.cell? ⟨sb, 1, none⟩ = some (.pointer (some ⟨tb, 0, none⟩))
 ar : ArAt w a aw W
 tab : TabAt w tb tao tcap L
 fields : Fields w
theorem SpAt.below {w w' : World} {sb a aw tb : Nat} {W : List Nat} {tao : Option Addr} {tcap : Nat} {L : List Ty} (h : SpAt w sb a aw tb W tao tcap L) (hk : Below w.heap.size w w') : SpAt w' sb a aw tb W tao tcap L :=
 ⟨(hk.cell (p := ⟨sb, 0, none⟩) (World.block_lt_of_cell? w _ h.c0)).trans h.c0, (hk.cell (p := ⟨sb, 1, none⟩) (World.block_lt_of_cell? w _ h.c1)).trans h.c1, h.ar.below hk, h.tab.below hk, range_below h.fields hk⟩
theorem scells_in (n : Nat) (sb : Nat) (w : World) :
  CallsIn Fence.wide n Tryz.prog 65 #[.pointer (some ⟨sb, 0, none⟩)] w fun e w' => e = .returned (.func (.func 149) #[] #[.pointer (some ⟨w.heap.size, 0, none⟩)]) ∧ w' = w.alloc (.cells #[.pointer (some ⟨sb, 0, none⟩)] 26) := by
 have hf : Fence.wide.fn 65 := trivial
 refine callsIn_of_wp Tryz.func65 rfl hf ?_ rfl
 simp only [Tryz.ntmps65, List.size_toArray, List.length_cons, List.length_nil, Nat.reduceAdd, Nat.reduceSub, Array.replicate_succ, Array.replicate_zero, List.push_toArray, List.append_toArray, List.nil_append, List.cons_append]
 gi_wp2
 go_ret
 exact ⟨rfl, rfl⟩
theorem scells_next (n : Nat) (hn : 2 ≤ n) (wb : World) (sb a aw tb : Nat) (W : List Nat) (tao : Option Addr) (tcap : Nat) (L : List Ty) (hA : SpAt wb sb a aw tb W tao tcap L) (hf : W.length ≤ 65536) (hu : ∀ v ∈ W, v < 18446744073709551616) (hTy : ∀ t ∈ L, TyIn t) (hL : L.length ≤ 1000)
  (cs : List Ce) (hC : Chain L W 0 cs (W.length / 2)) (Bs : Nat) (D : Nat → Prop) (w : World) (hDw : ∀ b, D b → b < w.heap.size) (hw : Below wb.heap.size wb w) (hBs : w.heap[Bs]? = some (.cells #[.pointer (some ⟨sb, 0, none⟩)] 26)) :
  SeqX Fence.wide n Tryz.prog 149 #[.pointer (some ⟨Bs, 0, none⟩)] ceArgs (KpC wb.heap.size Bs D) (KxC Bs sb w.heap.size) (fun pre x => ∃ post, cs = pre ++ x :: post) (fun xs => xs = cs) w := fun l J Jx W0 hW hJ hJx hY h0 => by
 have hBl : Bs < w.heap.size := lt_of_block hBs
 have hB0 : W0.heap[Bs]? = some (.cells #[.pointer (some ⟨sb, 0, none⟩)] 26) := (hW.block Bs hBl).trans hBs
 have hw0 : Below wb.heap.size wb W0 := hw.trans (hW.mono hw.size)
 have hW0 := hW.size
 have HA0 := uh hw.size
 have HA0 := uh hw.size
 have HA0 := uh hw.size
 have HA0 := uh hw.size
 have hFl : Fence.wide.fn 149 := trivial
 have hf1 : Fence.wide.fn 13 := trivial
 have hf2 : Fence.wide.fn 126 := trivial
 have hf3 : Fence.wide.fn 128 := trivial
 refine callsIn_of_wp Tryz.func149 rfl hFl ?_ rfl
 simp only [Tryz.ntmps149, List.size_toArray, List.length_cons, List.length_nil, Nat.reduceAdd, Nat.reduceSub, Array.replicate_succ, Array.replicate_zero, List.push_toArray, List.append_toArray, List.nil_append, List.cons_append]
 have h1 : 1 ≤ n := by omega
 have hro : Fence.wide.round = none := rfl
 have h2 : 1 ≤ n - 1 := by omega
 have HY := uh hY
 have HJ := uh hJ
 have hszH := sz_head
 have Hgr := uh (fun w' (hB : Below wb.heap.size wb w') => sgran w' (hA.below hB).c0 (hA.below hB).ar hf)
 have Hhd := uh (fun w' (hB : Below wb.heap.size wb w') (g : Int) => shead w' (hA.below hB).fields (hA.below hB).ar hu g)
 have Hft := uh (fun w' (hB : Below wb.heap.size wb w') h hi => hfits w' (hA.below hB).fields L hTy hL tb tao tcap (hA.below hB).tab h hi)
 have HA := uh hA
 have HC := uh hC
 have hlen := hC.len
 obtain ⟨z, hz⟩ : ∃ z : Nat, W.length / 2 = z := ⟨_, rfl⟩
 have hzb : z ≤ 32768 := by omega
 rw [hz] at Hgr HC hlen
 have Hw0 := uh hw0
 have HB0 := uh hB0
 have HDw := uh hDw
 clear hY hJ hJx hW hw hBs hB0 hw0 hA hu hTy hC hDw
 gi_wp2_with fail
 gi_loopw [3] (fun v3 wr => ∃ (pre post : List Ce) (g : Nat), cs = pre ++ post ∧ v3 = .int .i64 g ∧ Chain L W g post z ∧ J pre wr ∧ Below wb.heap.size wb wr ∧ wr.heap[Bs]? = some (.cells #[.pointer (some ⟨sb, 0, none⟩)] 26) ∧ w.heap.size ≤ wr.heap.size) (fun v3 _ => z + 1 - (intOf v3).toNat)
 case atStart => exact ⟨[], cs, 0, rfl, by go_num, HC.out, h0, Hw0.out, HB0.out, hW0⟩
 case round =>
  clear HC h0 Hw0 HB0
  obtain ⟨pre, post, g, hcs, rfl, hch, hJw, hwr, hBw, hwl⟩ := hrel
  have hH1 : Has wr [(Bs, .cells #[.pointer (some ⟨sb, 0, none⟩)] 26)] := Has.one hBw
  have hbx : wr.cell? ⟨Bs, 0, none⟩ = some (.pointer (some ⟨sb, 0, none⟩)) := hH1.cell (List.mem_cons_self ..) 0
  have hsp := HA.out.below hwr
  have q0 := hsp.c0
  cases post with
  | nil =>
   obtain rfl : g = z := hch
   rw [List.append_nil] at hcs
   have HX := uh (⟨hcs.symm, hJw⟩ : pre = cs ∧ J pre wr)
   have Hg := uh (Hgr.out wr hwr)
   have hnl : ¬ (g : Int) < (g : Int) := by omega
   clear hJw hsp hH1 hcs hwr hBw
   gi_wp2_with (gi_at_call 13; refine (callsIn_wide.2 Hg.out).mono ?_; rintro e w' ⟨rfl, hw⟩; rw [hw]; clear hw w')
   go_end0
   exact ⟨⟨_, rfl⟩, .inl ⟨pre, HX.out.1, HX.out.2⟩⟩
  | cons c post =>
   obtain ⟨cg, h⟩ := c
   obtain ⟨hcg, hst, hnext⟩ := hch
   simp only at hcg hst hnext
   subst hcg
   have hpos := hst.pos
   have hroom : cg + h.size ≤ z := hnext.le
   obtain ⟨e1, e2, e3, e4⟩ := stands_head hst
   have hmay := hst.2.1.1
   have Hh2 := uh (Hhd.out wr hwr cg)
   rw [e1, e2] at Hh2
   simp only [Option.getD_some] at Hh2
   have HF1 := uh (fun w' (hB : Below wr.heap.size wr w') => Hft.out w' (hwr.trans (hB.mono (Nat.le_trans HA0.out hwl))) h (may_in hmay))
   rw [e3] at HF1
   have HY2 := uh (fun W1 => HY.out pre (cg, h) W1 ⟨post, hcs⟩)
   unfold ceArgs at HY2
   have Hgr2 := uh (fun w' X (V : Turn [] wr X w') => Hgr.out w' (hwr.trans (V.below.mono (Nat.le_trans HA0.out hwl))))
   obtain ⟨xa, xb, xc, xd⟩ := h
   simp only at hpos hroom HY2
   have hoX := hd_one ⟨xa, xb, xc, xd⟩
   simp only at hoX
   have k1 : IntKind.i64.wrap ((z : Int) - (cg : Int)) = (z : Int) - (cg : Int) := i64_in _ (by omega)
   have k2 : decide (((z : Int) - (cg : Int)) < (xd : Int)) = false := decide_eq_false (by omega)
   have k3 : ¬ ((z : Int) - (cg : Int)) < (xd : Int) := by omega
   have k4 : (cg : Int) < (z : Int) := by omega
   have Hnext := uh hnext
   have Hcs := uh hcs
   have HJw := uh hJw
   have Hg := uh (Hgr.out wr hwr)
   have hT0 := uh (Turn.refl (Has.nil wr))
   have HS := uh (fun w' b4 (V : Turn [] wr [(b4, .cells #[.int .u8 xa, .int .i64 xb, .int .i64 xc, .int .i64 xd] 79)] w') =>
    (⟨(V.below.cell (p := ⟨Bs, 0, none⟩) (World.block_lt_of_cell? wr _ hbx)).trans hbx, (V.below.cell (p := ⟨sb, 1, none⟩) (World.block_lt_of_cell? wr _ hsp.c1)).trans hsp.c1, V.range1⟩ : w'.cell? ⟨Bs, 0, none⟩ = some (.pointer (some ⟨sb, 0, none⟩)) ∧ w'.cell? ⟨sb, 1, none⟩ = some (.pointer (some ⟨tb, 0, none⟩)) ∧ w'.rangeAt b4 0 [.int .u8 xa, .int .i64 xb, .int .i64 xc, .int .i64 xd]))
   have hsbl : sb < wb.heap.size := World.block_lt_of_cell? wb _ HA.out.c0
   have HS2 := uh (fun w8 w' b4 (k : KpC wb.heap.size Bs D w' w8) (V : Turn [] wr [(b4, .cells #[.int .u8 xa, .int .i64 xb, .int .i64 xc, .int .i64 xd] 79)] w') => by
    have h := HS.out w' b4 V
    have h9 : b4 ∉ [] → wr.heap.size ≤ b4 := fun _ => (V.new b4 (by simp [keys])).resolve_left (by simp [keys])
    have h8 := k.same b4 _ (V.has.own _ _ (List.mem_cons_self ..)) rfl (fun hd => by have := HDw.out b4 hd; have := h9 (by simp); omega)
    exact (⟨(cell_of_same k.box 0).trans h.1, (k.below.cell (p := ⟨sb, 1, none⟩) hsbl).trans h.2.1, (Has.one h8).range (List.mem_cons_self ..)⟩ : w8.cell? ⟨Bs, 0, none⟩ = some (.pointer (some ⟨sb, 0, none⟩)) ∧ w8.cell? ⟨sb, 1, none⟩ = some (.pointer (some ⟨tb, 0, none⟩)) ∧ w8.rangeAt b4 0 [.int .u8 xa, .int .i64 xb, .int .i64 xc, .int .i64 xd]))
   have HS3 := uh (fun w8 w' b4 (k : KxC Bs sb w.heap.size w' w8) (V : Turn [] wr [(b4, .cells #[.int .u8 xa, .int .i64 xb, .int .i64 xc, .int .i64 xd] 79)] w') => by
    have h := HS.out w' b4 V
    have h9 : wr.heap.size ≤ b4 := (V.new b4 (by simp [keys])).resolve_left (by simp [keys])
    have h8 := k.same b4 _ (V.has.own _ _ (List.mem_cons_self ..)) rfl (by omega)
    exact (⟨(cell_of_same k.box 0).trans h.1, (cell_of_same k.sbk 1).trans h.2.1, (Has.one h8).range (List.mem_cons_self ..)⟩ : w8.cell? ⟨Bs, 0, none⟩ = some (.pointer (some ⟨sb, 0, none⟩)) ∧ w8.cell? ⟨sb, 1, none⟩ = some (.pointer (some ⟨tb, 0, none⟩)) ∧ w8.rangeAt b4 0 [.int .u8 xa, .int .i64 xb, .int .i64 xc, .int .i64 xd]))
   have HN8 := uh (fun w8 w' b4 (hj : J (pre ++ [(cg, ⟨xa, xb, xc, xd⟩)]) w8) (k : KpC wb.heap.size Bs D w' w8) (V : Turn [] wr [(b4, .cells #[.int .u8 xa, .int .i64 xb, .int .i64 xc, .int .i64 xd] 79)] w') =>
    (⟨hj, (hwr.trans (V.below.mono (Nat.le_trans HA0.out hwl))).trans k.below, k.box.trans ((V.below.block Bs (lt_of_block hBw)).trans hBw), Nat.le_trans hwl (Nat.le_trans V.size k.size)⟩ : J (pre ++ [(cg, ⟨xa, xb, xc, xd⟩)]) w8 ∧ Below wb.heap.size wb w8 ∧ w8.heap[Bs]? = some (.cells #[.pointer (some ⟨sb, 0, none⟩)] 26) ∧ w.heap.size ≤ w8.heap.size))
   clear hJw hsp hH1 hcs hwr hBw hnext hst e1 e2 e3 e4 hmay HY
   gi_wp2_with (first
    | (gi_at_call 13; refine (callsIn_wide.2 Hg.out).mono ?_; rintro e w' ⟨rfl, hw⟩; rw [hw]; clear hw w')
    | (gi_at_call 126; refine (callsIn_wide.2 Hh2.out).mono ?_; rintro e w1 ⟨rfl, hB1⟩; have T2 := (hT0.out.call hB1).alloc (.cells #[.int .u8 0, .int .i64 0, .int .i64 0, .int .i64 0] 79); have hth : (w1.alloc (.cells #[.int .u8 0, .int .i64 0, .int .i64 0, .int .i64 0] 79)).there w1.heap.size 0 4 := T2.there1; have HT2 := uh (T2.laid [.int .u8 xa, .int .i64 xb, .int .i64 xc, .int .i64 xd] rfl); clear hB1 T2)
    | (show wpListIn _ _ _ _ _ (⟨_, Op.store 79 _ _, _, _, _, _⟩ :: _) _ _; refine wpListIn_by (follows_wide _ _) rfl (by intro c h; cases h) (wp_store_mid 79 _ _ rfl _ 0 #[.int .u8 xa, .int .i64 xb, .int .i64 xc, .int .i64 xd] rfl rfl hth hszH hoX ?_); clear hth)
    | fail)
   generalize (w1.alloc (.cells #[.int .u8 0, .int .i64 0, .int .i64 0, .int .i64 0] 79)).setCells w1.heap.size 0 [.int .u8 xa, .int .i64 xb, .int .i64 xc, .int .i64 xd] = w5 at *
   generalize w1.heap.size = b4 at *
   have HT5 := uh HT2.out.drew
   have hS5 := HS.out _ _ HT5.out
   have HF2 := uh (HF1.out _ HT5.out.below)
   have HY3 := HY2
   clear HT2 q0 hbx Hg Hh2 hT0
   refine wpIn_region_noPanic ?_
   refine wpIn_region_listedHI (S := fun W' => W'.cell? ⟨Bs, 0, none⟩ = some (.pointer (some ⟨sb, 0, none⟩)) ∧ W'.cell? ⟨sb, 1, none⟩ = some (.pointer (some ⟨tb, 0, none⟩)) ∧ W'.rangeAt b4 0 [.int .u8 xa, .int .i64 xb, .int .i64 xc, .int .i64 xd]) 28 [false, false, false, false, false, false, false, false, false, false, false, false, false, false, false, false, false, false, false, false, false, false, false, false, false, false, false, false] rfl rfl (by kernel_rfl) ?_
   refine tkI 0 19 hro hS5 ?_
   refine tkI 1 20 hro hS5 ?_
   refine tkI 2 21 hro hS5 ?_
   refine tkJ 3 22 hro hS5 (fun w hSw => hSw.1) ?_
   refine tkI 4 23 hro hS5 ?_
   refine tkI 5 24 hro hS5 ?_
   refine tkJ 6 25 hro hS5 (fun w hSw => hSw.2.1) ?_
   refine takeGI 7 26 hro rfl rfl (by rfl) (by kernel_rfl) (by kernel_rfl) (by kernel_rfl) (fun _ _ _ _ h => h) hS5 (fun _ => rfl) (fun w' hSw => load_mid_run 79 _ rfl b4 0 rfl [.int .u8 xa, .int .i64 xb, .int .i64 xc, .int .i64 xd] _ hSw.2.2 Tryz.underlying79 rfl hszH) ?_
   simp only [st1, st2]
   refine wpAnyHI_call (i := 8) (by kernel_rfl) rfl (fun K hK => ?_)
   go_simp
   refine (callsIn_wide.2 HF2.out).mono ?_
   rintro e w6 ⟨rfl, hB6⟩
   have HT6 := uh (HT5.out.call hB6)
   have hS6 := HS.out _ _ HT6.out
   clear hB6 HF2 HT5 hS5
   refine hK.out _ _ hS6 ?_
   clear hK K
   simp only [st0, st1, st2]
   refine tkI 9 28 hro hS6 ?_
   refine tkI 10 29 hro hS6 ?_
   refine tkI 11 30 hro hS6 ?_
   refine tkI 12 31 hro hS6 ?_
   refine tkJ 13 32 hro hS6 (fun w hSw => hSw.2.2 3 _ rfl) ?_
   refine tkJ 14 33 hro hS6 (fun w hSw => hSw.1) ?_
   refine tkI 16 35 hro hS6 ?_
   refine wpAnyHI_call (i := 15) (by kernel_rfl) rfl (fun K hK => ?_)
   go_simp
   refine (callsIn_wide.2 (Hgr2.out _ _ HT6.out)).mono ?_
   rintro e w7 ⟨rfl, hw7⟩
   subst hw7
   refine hK.out _ _ hS6 ?_
   clear hK K
   simp only [st0, st1, st2]
   refine tkI 17 36 hro hS6 ?_
   refine tkI 18 37 hro hS6 ?_
   refine tkI 19 38 hro hS6 ?_
   refine tkI 20 39 hro hS6 ?_
   refine tkI 21 40 hro hS6 ?_
   refine tkI 22 41 hro hS6 ?_
   refine takeGI 23 42 hro rfl rfl (by rfl) (by kernel_rfl) (by kernel_rfl) (by kernel_rfl) (fun _ _ _ _ h => h) hS6 (fun _ => rfl) (fun w' hSw => load_mid_run 79 _ rfl b4 0 rfl [.int .u8 xa, .int .i64 xb, .int .i64 xc, .int .i64 xd] _ hSw.2.2 Tryz.underlying79 rfl hszH) ?_
   simp only [st1, st2]
   refine tkI 24 43 hro hS6 ?_
   obtain ⟨fn, tmps, assign, body, hy, hR⟩ := HY3.out _ (HJ.out pre wr _ none HJw.out (below_grownBy HT6.out.below) (fun r e => by cases e))
   have HR := uh hR
   clear hR
   refine wpAnyHI_call (i := 25) (by kernel_rfl) rfl (fun K hK => ?_)
   go_simp
   refine HR.out.mono ?_
   rintro e w8 (⟨rfl, hJ8, hk8⟩ | ⟨rfl, hJx8, hk8⟩)
   · have hS8 := HS2.out _ _ _ hk8 HT6.out
     refine hK.out _ _ hS8 ?_
     clear hK K
     simp only [st0, st1, st2]
     refine tkI 26 45 hro hS8 ?_
     refine tkI 27 46 hro hS8 ?_
     refine wpAnyHI_done (by kernel_rfl) ?_ _
     refine NoPanic.normal ?_
     have hc4 := hS8.2.2 3 _ rfl
     have HN := uh (HN8.out _ _ _ hJ8 hk8 HT6.out)
     clear hS8 hS6 HT6 HS HS2 hJ8 hk8 HR hy
     gi_wp2_with fail
     go_roundw
     case rel => exact ⟨pre ++ [(cg, ⟨xa, xb, xc, xd⟩)], post, cg + xd, by rw [Hcs.out]; simp, by go_num, Hnext.out, HN.out.1, HN.out.2.1, HN.out.2.2.1, HN.out.2.2.2⟩
     case measure => simp [intOf]; omega
   · have hS8 := HS3.out _ _ _ hk8 HT6.out
     refine hK.out _ _ hS8 ?_
     clear hK K
     simp only [st0, st1, st2]
     refine tkI 26 45 hro hS8 ?_
     refine tkI 27 46 hro hS8 ?_
     refine wpAnyHI_done (by kernel_rfl) ?_ _
     refine NoPanic.normal ?_
     clear hS8 hS6 HT6 HS HS2 HS3 hk8 HR hy
     gi_wp2_with fail
     refine bodyPost_ret (results_none rfl _ _ _) rfl ?_
     exact ⟨⟨_, rfl⟩, .inr ⟨_, hJx8⟩⟩
end
section
open Go Go.RowKit Go.IntWalk
def takes (c : Ce) (g sz : Nat) : Prop := c.2.tag ≠ 1 ∧ c.1 ≤ g ∧ g < c.1 + c.2.size ∧ g + sz ≤ c.1 + c.2.size
theorem put9 {w0 : World} (w : World) {rb lcap : Nat} {lao : Option Addr} {W : List Nat} {L : List Ty} {l R : List Blk} (hI : RefIs rb lao L.length lcap W l) (T : Turn [] w0 (l ++ R) w) (hS : Src w0 lao L.length lcap 3 (tys L)) (hTy : ∀ t ∈ L, TyIn t) (hL : L.length ≤ 1000) (hf : W.length ≤ 65536)
  (hu : ∀ v ∈ W, v < 18446744073709551616) (cs : List Ce) (hC : Chain L W 0 cs (W.length / 2)) (g id n sz : Nat) (he : tyErr L id n = 0) (hs : tySize L id n = sz) (hm : (Hd.mk 1 id n sz).may) (hg : g < W.length / 2) (Qp : Ending → World → Prop)
  (HY : Hid (∀ c ∈ cs, takes c g sz → ∀ w' l', RefIs rb lao L.length lcap (putW W c g ⟨1, id, n, sz⟩) l' → Turn [] w0 (l' ++ R) w' → Qp (.returned (.int .i64 0)) w'))
  (HN : Hid ((∀ c ∈ cs, ¬ takes c g sz) → ∀ w', Turn [] w0 (l ++ R) w' → Qp (.returned (.int .i64 3)) w')) :
  Calls Tryz.prog 135 #[.pointer (some ⟨rb, 0, none⟩), .int .i64 g, .int .i64 id, .int .i64 n] w Qp := by
 have hsz := sz_head
 have hszC := sz_cell
 have Hof := uh (fun w' (hB : Below w0.heap.size w0 w') => of7 w' L hTy hL lao lcap (hS.below hB) id n)
 unfold ofCells at Hof
 rw [he, if_pos rfl, hs] at Hof
 have hRef := uh (fun w' (X : List Blk) (V : Turn [] w0 (l ++ X) w') => hI.at_ V.has (hS.below V.below))
 obtain ⟨ao, cap, lr, hrow, rfl⟩ := hI
 have Hsrc := uh (fun w' (X : List Blk) (V : Turn [] w0 (X ++ (((rb, .cells #[.slice ao W.length cap, .slice lao L.length lcap] 109) :: lr) ++ R)) w') => (hrow.src (R := X ++ ((rb, .cells #[.slice ao W.length cap, .slice lao L.length lcap] 109) :: R)) (V.has.perm po)))
 have Hall := uh (fun w' (ao : Option Addr) (cap : Nat) (hR : RefAt w' rb ao cap W lao lcap L) => all9 w' hR hf hu hTy hL cs hC)
 have Hmk := uh (fun w' (hB : Below w0.heap.size w0 w') (hSw : Src w' ao W.length cap 1 (u64s W)) (hr : g + sz ≤ W.length / 2) => make8 w' ao cap hSw hf L hTy hL lao lcap (hS.below hB) g id n sz he hs hm hr)
 have c1 : w.cell? ⟨rb, 1, none⟩ = some (.slice lao L.length lcap) := T.cell1 1
 have hoX := hd_one ⟨1, id, n, sz⟩
 have HT := uh T
 have hCm := uh (fun c (h : c ∈ cs) => hC.mem c h)
 have hdiv : ((W.length : Int)).tdiv 2 = ((W.length / 2 : Nat) : Int) := tdiv_nat _ 2
 have hdiv2 : (W.length : Int) / 2 = ((W.length / 2 : Nat) : Int) := by omega
 have hlen := hC.len
 obtain ⟨z, hz⟩ : ∃ z : Nat, W.length / 2 = z := ⟨_, rfl⟩
 have hzb : z ≤ 32768 := by omega
 rw [hz] at hdiv hdiv2 hg Hmk hCm hlen
 have hsp : 1 ≤ sz := hm.1
 have hsb : sz < 16777216 := hm.2.1
 have hlt2 : ¬ (z : Int) ≤ (g : Int) := by omega
 have hlt3 : decide ((z : Int) ≤ (g : Int)) = false := decide_eq_false hlt2
 have hlt4 : ¬ z ≤ g := by omega
 have hg0 : decide ((g : Int) < 0) = false := decide_eq_false (by omega)
 clear T hS hTy hrow he hs hm hu hC
 go_enter Tryz.func135, Tryz.ntmps135
 go_wp2_with fail
 refine (Hof.out _ HT.out.below).mono ?_
 rintro e w1 ⟨rfl, hB1⟩
 have T2 := (HT.out.call hB1).alloc (.cells #[.int .u8 0, .int .i64 0, .int .i64 0, .int .i64 0] 79)
 have hth : (w1.alloc (.cells #[.int .u8 0, .int .i64 0, .int .i64 0, .int .i64 0] 79)).there w1.heap.size 0 4 := T2.there1
 have T3 := T2.laid [.int .u8 1, .int .i64 id, .int .i64 n, .int .i64 sz] rfl
 have c0 := T3.cell2 0
 have HT3 := uh T3
 clear T2 T3 hB1 HT Hof
 go_wp2_with (first
  | (show sW 79; refine wpList_store_mid rfl 79 _ _ rfl _ 0 #[.int .u8 1, .int .i64 id, .int .i64 n, .int .i64 sz] rfl rfl hth hsz hoX ?_; clear hth)
  | fail)
 obtain ⟨ao', cap', hR3⟩ := hRef.out _ ((w1.heap.size, .cells #[.int .u8 1, .int .i64 id, .int .i64 n, .int .i64 sz] 79) :: R) (HT3.out.perm po)
 refine (Hall.out _ _ _ hR3).mono ?_
 clear hR3 Hall hRef
 rintro e w2 ⟨a11, p11, l11, rfl, hrow11, T4⟩
 have HT4 := uh (HT3.out.grow T4)
 have Hr11 := uh hrow11
 clear T4 HT3 hrow11 c0 c1
 go_wp2_with fail
 have HF := uh (fun (h : 0 < cs.length) => ((Hr11.out.src HT4.out.has).form (by rw [ces_length]; omega)))
 go_loopw [12] (fun v12 wr => ∃ i : Nat, i ≤ cs.length ∧ v12 = .int .i64 i ∧ Turn [] w0 (l11 ++ ((w1.heap.size, .cells #[.int .u8 1, .int .i64 id, .int .i64 n, .int .i64 sz] 79) :: ((rb, .cells #[.slice ao W.length cap, .slice lao L.length lcap] 109) :: lr ++ R))) wr ∧ ∀ c ∈ cs.take i, ¬ takes c g sz) (fun v12 _ => cs.length - (intOf v12).toNat)
 case atStart => exact ⟨0, Nat.zero_le _, by go_num, HT4.out, by simp⟩
 case round =>
  clear HT4
  obtain ⟨i, hi, rfl, T, hno⟩ := hrel
  by_cases hlt : i < cs.length
  · have hlt' : (i : Int) < (cs.length : Int) := by omega
    obtain ⟨c, hc⟩ : ∃ c, cs[i]? = some c := ⟨cs[i], List.getElem?_eq_getElem hlt⟩
    have hcm : c ∈ cs := List.mem_of_getElem? hc
    have hbd := hCm.out c hcm
    obtain ⟨b, off, rfl, -⟩ := HF.out (by omega)
    have hrg := (Hr11.out.src T.has).ce hc
    have htk : cs.take (i + 1) = cs.take i ++ [c] := by rw [List.take_add_one, hc]; rfl
    have hcmay := hbd.2.2.2.1.1
    obtain ⟨cg, ⟨xa, xb, xc, xd⟩⟩ := c
    have T1 := T.alloc (.cells #[.int .i64 0, .int .u8 0, .int .i64 0, .int .i64 0, .int .i64 0] 81)
    have hth : (wr.alloc (.cells #[.int .i64 0, .int .u8 0, .int .i64 0, .int .i64 0, .int .i64 0] 81)).there wr.heap.size 0 5 := T1.there1
    have T2 := T1.laid [.int .i64 cg, .int .u8 xa, .int .i64 xb, .int .i64 xc, .int .i64 xd] rfl
    have HT2 := uh T2
    have d0 := T2.cell1 0
    have d1 := T2.cell1 1
    have d4 := T2.cell1 4
    have e3 := T2.has.cell (b := w1.heap.size) (c := #[.int .u8 1, .int .i64 id, .int .i64 n, .int .i64 sz]) (e := 79) (f := (0, 0)) (by simp) 3
    have hoC := ce_one (cg, ⟨xa, xb, xc, xd⟩)
    simp only at hoC
    have hxd : xd < 16777216 := by have := hcmay.2.1; exact this
    have hcgb : cg ≤ 32768 := by have := hbd.2.1; simp only at this; omega
    have hic : (i : Int) ≤ 65536 := by omega
    have hendb : cg + xd ≤ z := by have := hbd.2.1; simpa using this
    have hmem := uh hcm
    clear T T1 T2 hbd hc hcm hcmay
    go_upto_region 11 with (first
     | (show lW 81; refine wpList_load_mid rfl 81 _ rfl b (off + i * 5) rfl [.int .i64 cg, .int .u8 xa, .int .i64 xb, .int .i64 xc, .int .i64 xd] _ hrg Tryz.underlying81 rfl hszC ?_; clear hrg)
     | (show sW 81; refine wpList_store_mid rfl 81 _ _ rfl _ 0 #[.int .i64 cg, .int .u8 xa, .int .i64 xb, .int .i64 xc, .int .i64 xd] rfl rfl hth hszC hoC ?_; clear hth)
     | fail)
    generalize (wr.alloc (.cells #[.int .i64 0, .int .u8 0, .int .i64 0, .int .i64 0, .int .i64 0] 81)).setCells wr.heap.size 0 [.int .i64 cg, .int .u8 xa, .int .i64 xb, .int .i64 xc, .int .i64 xd] = wq at *
    generalize wr.heap.size = bq at *
    by_cases htak : takes (cg, ⟨xa, xb, xc, xd⟩) g sz
    · have HYc := uh (HY.out _ hmem.out htak)
      obtain ⟨h1, h2, h3, h4⟩ := htak
      simp only at h1 h2 h3 h4
      have k1 : ((xa : Int) == 1) = false := by rw [beq_eq_false_iff_ne]; omega
      have k2 : (xa == 1) = false := by rw [beq_eq_false_iff_ne]; exact h1
      have k3 : decide ((g : Int) < (cg : Int)) = false := decide_eq_false (by omega)
      have k4 : decide (g < cg) = false := decide_eq_false (by omega)
      have k5 : decide ((cg : Int) + (xd : Int) ≤ (g : Int)) = false := decide_eq_false (by omega)
      have k6 : decide (cg + xd ≤ g) = false := decide_eq_false (by omega)
      have k7 : decide ((cg : Int) + (xd : Int) - (g : Int) < (sz : Int)) = false := decide_eq_false (by omega)
      clear h1 hno hmem HY HN hCm HF hi
      go_upto_region 12 with fail
      clear d0 d1 d4 e3 k1 k2 k3 k4 k5 k6 k7
      have HD := HT2.out.drew
      clear HT2
      refine wp_abs (fun W' => Turn [] w0 ((bq, .cells #[.int .i64 cg, .int .u8 xa, .int .i64 xb, .int .i64 xc, .int .i64 xd] 81) :: (l11 ++ ((w1.heap.size, .cells #[.int .u8 1, .int .i64 id, .int .i64 n, .int .i64 sz] 79) :: ((rb, .cells #[.slice ao W.length cap, .slice lao L.length lcap] 109) :: lr ++ R)))) W'.drew) HD fun W1 T1 => ?_
      clear HD
      have Hc2 := uh (fun w' (lx : List Blk) (V : Turn [] w0 (lx ++ ((bq, .cells #[.int .i64 cg, .int .u8 xa, .int .i64 xb, .int .i64 xc, .int .i64 xd] 81) :: (l11 ++ ((w1.heap.size, .cells #[.int .u8 1, .int .i64 id, .int .i64 n, .int .i64 sz] 79) :: ((rb, .cells #[.slice ao W.length cap, .slice lao L.length lcap] 109) :: lr ++ R))))) w') =>
       (⟨V.has.cell (b := rb) (c := #[.slice ao W.length cap, .slice lao L.length lcap]) (e := 109) (f := (0, 0)) (by simp) 0, V.has.cell (b := rb) (c := #[.slice ao W.length cap, .slice lao L.length lcap]) (e := 109) (f := (0, 0)) (by simp) 1⟩ : w'.cell? ⟨rb, 0, none⟩ = some (.slice ao W.length cap) ∧ w'.cell? ⟨rb, 1, none⟩ = some (.slice lao L.length lcap)))
      have hS := Hc2.out _ [] T1
      have Hm := uh (Hmk.out _ T1.below (Hsrc.out _ ((bq, .cells #[.int .i64 cg, .int .u8 xa, .int .i64 xb, .int .i64 xc, .int .i64 xd] 81) :: (l11 ++ [(w1.heap.size, .cells #[.int .u8 1, .int .i64 id, .int .i64 n, .int .i64 sz] 79)])) (T1.perm po)) (by omega))
      have HT1 := uh T1
      clear T1 Hmk Hsrc
      refine wp_region_noPanic ?_
      refine wp_region_listed (S := fun W' => W'.cell? ⟨rb, 0, none⟩ = some (.slice ao W.length cap) ∧ W'.cell? ⟨rb, 1, none⟩ = some (.slice lao L.length lcap)) 17 [false, false, false, false, false, false, false, false, false, false, false, false, false, false, false, false, false] rfl rfl (by kernel_rfl) ?_
      refine tkA 0 87 hS ?_
      refine tkA 1 88 hS ?_
      refine tkA 2 89 hS ?_
      refine tkB 3 90 hS (fun w hSw => hSw.1) ?_
      refine tkA 4 91 hS ?_
      refine tkA 5 92 hS ?_
      refine tkA 6 93 hS ?_
      refine tkB 7 94 hS (fun w hSw => hSw.2) ?_
      refine tkA 8 95 hS ?_
      refine tkA 9 96 hS ?_
      refine tkA 10 97 hS ?_
      refine rdyA 11 (fun K hK => ?_)
      go_simp
      refine Hm.out.mono ?_
      rintro e W3 ⟨ao8, cap8, l8, rfl, hrow8, T3⟩
      have HT3 := uh (HT1.out.grow T3)
      have Hr8 := uh hrow8
      have hS3 := Hc2.out _ _ HT3.out
      clear T3 hrow8 HT1 Hm hS
      refine hK.out _ _ hS3 fun _ => ?_
      clear hK K
      simp only [st0, st1, st2]
      refine tkA 12 86 hS3 ?_
      refine tkA 13 99 hS3 ?_
      refine tkA 14 100 hS3 ?_
      refine tkA 15 14 hS3 ?_
      refine tkA 16 15 hS3 ?_
      refine wpAnyH_done (by kernel_rfl) ?_ _
      refine NoPanic.normal ?_
      clear hS3 Hc2
      have T4 := HT3.out.perm (l2 := (rb, .cells #[.slice ao W.length cap, .slice lao L.length lcap] 109) :: (l8 ++ ((bq, .cells #[.int .i64 cg, .int .u8 xa, .int .i64 xb, .int .i64 xc, .int .i64 xd] 81) :: (l11 ++ ((w1.heap.size, .cells #[.int .u8 1, .int .i64 id, .int .i64 n, .int .i64 sz] 79) :: (lr ++ R)))))) po
      clear HT3
      have c0 := T4.cell1 0
      have f0 := T4.free1 0
      have T5 := T4.setCell 0 (.slice ao8 W.length cap8)
      have HT5 := uh (T5.perm (l2 := ((rb, .cells #[.slice ao8 W.length cap8, .slice lao L.length lcap] 109) :: l8) ++ ((bq, .cells #[.int .i64 cg, .int .u8 xa, .int .i64 xb, .int .i64 xc, .int .i64 xd] 81) :: (l11 ++ ((w1.heap.size, .cells #[.int .u8 1, .int .i64 id, .int .i64 n, .int .i64 sz] 79) :: (lr ++ R))))) po)
      clear T4 T5
      have hI5 : RefIs rb lao L.length lcap (mk W g ⟨1, id, n, sz⟩) ((rb, .cells #[.slice ao8 W.length cap8, .slice lao L.length lcap] 109) :: l8) := ⟨ao8, cap8, l8, by rw [mk_len]; exact Hr8.out, by rw [mk_len]⟩
      have HI5 := uh hI5
      clear hI5 Hr8
      have Hb := uh (fun w' (lx : List Blk) (V : Turn [] w0 (lx ++ ((bq, .cells #[.int .i64 cg, .int .u8 xa, .int .i64 xb, .int .i64 xc, .int .i64 xd] 81) :: (l11 ++ ((w1.heap.size, .cells #[.int .u8 1, .int .i64 id, .int .i64 n, .int .i64 sz] 79) :: (lr ++ R))))) w') =>
       (⟨V.has.cell (b := bq) (c := #[.int .i64 cg, .int .u8 xa, .int .i64 xb, .int .i64 xc, .int .i64 xd]) (e := 81) (f := (0, 0)) (by simp) 0, V.has.cell (b := bq) (c := #[.int .i64 cg, .int .u8 xa, .int .i64 xb, .int .i64 xc, .int .i64 xd]) (e := 81) (f := (0, 0)) (by simp) 4, V.has.cell (b := w1.heap.size) (c := #[.int .u8 1, .int .i64 id, .int .i64 n, .int .i64 sz]) (e := 79) (f := (0, 0)) (by simp) 3⟩ :
         w'.cell? ⟨bq, 0, none⟩ = some (.int .i64 cg) ∧ w'.cell? ⟨bq, 4, none⟩ = some (.int .i64 xd) ∧ w'.cell? ⟨w1.heap.size, 3, none⟩ = some (.int .i64 sz)))
      obtain ⟨d0, d4, e3⟩ := Hb.out _ _ HT5.out
      have hsub1 : (g : Int) - (cg : Int) = ((g - cg : Nat) : Int) := by omega
      have hsub2 : (cg : Int) + (xd : Int) - (g : Int) - (sz : Int) = ((cg + xd - g - sz : Nat) : Int) := by omega
      have hgb : g ≤ 32768 := by omega
      go_wp2_with fail
      refine (lay9 _ HI5.out HT5.out (by rw [mk_len]; exact hf) cg (g - cg) (by rw [mk_len]; omega)).mono ?_
      rintro e W6 ⟨⟨u, rfl⟩, l6, hI6, T6⟩
      have HT6 := uh T6
      have HI6 := uh hI6
      clear T6 hI6 HI5 HT5 d0 d4 e3
      obtain ⟨d0, d4, e3⟩ := Hb.out _ _ HT6.out
      go_wp2_with fail
      have HL := lay9 _ HI6.out HT6.out (by rw [lay_len, mk_len]; exact hf) (g + sz) (cg + xd - g - sz) (by rw [lay_len, mk_len]; omega)
      rw [Int.natCast_add] at HL
      refine HL.mono ?_
      clear HL
      rintro e W7 ⟨⟨u, rfl⟩, l7, hI7, T7⟩
      have HT7 := uh (HYc.out W7 l7 hI7 ((T7.perm (l2 := ((bq, .cells #[.int .i64 cg, .int .u8 xa, .int .i64 xb, .int .i64 xc, .int .i64 xd] 81) :: (l11 ++ ((w1.heap.size, .cells #[.int .u8 1, .int .i64 id, .int .i64 n, .int .i64 sz] 79) :: lr))) ++ (l7 ++ R)) po).drop))
      clear T7 hI7 HI6 HT6 d0 d4 e3 HYc
      go_wp2_with fail
      exact HT7.out
    · have Hno' := uh (show ∀ c ∈ cs.take (i + 1), ¬ takes c g sz by
        rw [htk]
        intro c hc
        rcases List.mem_append.1 hc with h | h
        · exact hno c h
        · rw [List.mem_singleton.1 h]; exact htak)
      have hcase : xa = 1 ∨ (xa ≠ 1 ∧ g < cg) ∨ (xa ≠ 1 ∧ ¬ g < cg ∧ cg + xd ≤ g) ∨ (xa ≠ 1 ∧ ¬ g < cg ∧ ¬ cg + xd ≤ g ∧ cg + xd < g + sz) := by
       by_cases h1 : xa = 1
       · exact .inl h1
       · by_cases h2 : g < cg
         · exact .inr (.inl ⟨h1, h2⟩)
         · by_cases h3 : cg + xd ≤ g
           · exact .inr (.inr (.inl ⟨h1, h2, h3⟩))
           · exact .inr (.inr (.inr ⟨h1, h2, h3, by
               rcases Nat.lt_or_ge (cg + xd) (g + sz) with h4 | h4
               · exact h4
               · exact absurd ⟨h1, by omega, by simp only; omega, by simp only; omega⟩ htak⟩))
      clear hno htk htak HY HN Hmk Hsrc
      rcases hcase with h1 | ⟨h1, h2⟩ | ⟨h1, h2, h3⟩ | ⟨h1, h2, h3, h4⟩
      · have k1 : ((xa : Int) == 1) = true := by rw [beq_iff_eq]; omega
        have k2 : (xa == 1) = true := by rw [beq_iff_eq]; exact h1
        clear h1
        go_wp2_with fail
        go_roundw
        case rel => exact ⟨i + 1, by omega, by go_num, HT2.out.tail, Hno'.out⟩
        case measure => simp [intOf]; omega
      · have k1 : ((xa : Int) == 1) = false := by rw [beq_eq_false_iff_ne]; omega
        have k2 : (xa == 1) = false := by rw [beq_eq_false_iff_ne]; exact h1
        have k3 : decide ((g : Int) < (cg : Int)) = true := decide_eq_true (by omega)
        have k4 : decide (g < cg) = true := decide_eq_true h2
        clear h1
        go_wp2_with fail
        go_roundw
        case rel => exact ⟨i + 1, by omega, by go_num, HT2.out.tail, Hno'.out⟩
        case measure => simp [intOf]; omega
      · have k1 : ((xa : Int) == 1) = false := by rw [beq_eq_false_iff_ne]; omega
        have k2 : (xa == 1) = false := by rw [beq_eq_false_iff_ne]; exact h1
        have k3 : decide ((g : Int) < (cg : Int)) = false := decide_eq_false (by omega)
        have k4 : decide (g < cg) = false := decide_eq_false h2
        have k5 : decide ((cg : Int) + (xd : Int) ≤ (g : Int)) = true := decide_eq_true (by omega)
        have k6 : decide (cg + xd ≤ g) = true := decide_eq_true h3
        clear h1
        go_wp2_with fail
        go_roundw
        case rel => exact ⟨i + 1, by omega, by go_num, HT2.out.tail, Hno'.out⟩
        case measure => simp [intOf]; omega
      · have k1 : ((xa : Int) == 1) = false := by rw [beq_eq_false_iff_ne]; omega
        have k2 : (xa == 1) = false := by rw [beq_eq_false_iff_ne]; exact h1
        have k3 : decide ((g : Int) < (cg : Int)) = false := decide_eq_false (by omega)
        have k4 : decide (g < cg) = false := decide_eq_false h2
        have k5 : decide ((cg : Int) + (xd : Int) ≤ (g : Int)) = false := decide_eq_false (by omega)
        have k6 : decide (cg + xd ≤ g) = false := decide_eq_false h3
        have k7 : decide ((cg : Int) + (xd : Int) - (g : Int) < (sz : Int)) = true := decide_eq_true (by omega)
        clear h1
        go_wp2_with fail
        go_roundw
        case rel => exact ⟨i + 1, by omega, by go_num, HT2.out.tail, Hno'.out⟩
        case measure => simp [intOf]; omega
  · have hie : i = cs.length := by omega
    have hnl : ¬ (i : Int) < (cs.length : Int) := by omega
    have HNc := uh (HN.out (by rw [hie, List.take_length] at hno; exact hno) wr ((T.perm (l2 := (l11 ++ [(w1.heap.size, .cells #[.int .u8 1, .int .i64 id, .int .i64 n, .int .i64 sz] 79)]) ++ (((rb, .cells #[.slice ao W.length cap, .slice lao L.length lcap] 109) :: lr) ++ R)) po).drop))
    clear T hno HY HN hie
    go_wp2_with fail
    exact HNc.out
end
section
open Go Go.RowKit Go.Shelf Go.IntWalk
attribute [local go_sem] Oper.semAt_some
theorem stepIn_store {F : Fence} {nn : Nat} {P : Program} {ops : Array Oper} {Q : Exit → Act → World → Prop} {o : Oper} {ts : List Value} {ds : List Deferred} {K : Act → World → Prop} {E : Prop} {w : World} (hdst : o.dst = none) (hg : o.guard = none) (ty : TypeId) (x y : Operand) (ho : o.op = .store ty x y)
  (b off : Nat) (cells : Array Value) (hx : Act.eval { tmps := ts.toArray, defers := ds } x = .pointer (some ⟨b, off, none⟩)) (hy : Act.eval { tmps := ts.toArray, defers := ds } y = .agg cells)
  (ht : w.there b off cells.size) (hi : (P.info? ty).map (·.size) = some cells.size) (h1 : cells.all (·.oneCell') = true) (hF : Follows F nn P) (hK : K { tmps := ts.toArray, defers := ds } (w.setCells b off cells.toList)) :
  if Region.wanted o (yielded ops (Act.tmps { tmps := ts.toArray, defers := ds })) = true then Oper.wpIn F nn P o { tmps := ts.toArray, defers := ds } w K Q else E := by
 have hw : Region.wanted o (yielded ops (Act.tmps { tmps := ts.toArray, defers := ds })) = true := by simp [Region.wanted, hg]
 rw [if_pos hw]
 refine hF.op o _ w K Q (by intro c hc; rw [ho] at hc; cases hc) ?_
 refine wp_store_mid ty x y ho b off cells hx hy ht hi h1 ?_
 simpa [Act.put, hdst] using hK
theorem wpIn_mid1 {F : Fence} {nn : Nat} {P : Program} {c : Code} {Q : Exit → Act → World → Prop} {a : Act} {w : World} {I : Nat → World → Prop} {FA : Nat → Act} (h : c.wpIn F nn P (fun e a w => e = .normal ∧ ∃ b : Nat, a = FA b ∧ I b w) a w) (hq : ∀ b w, I b w → Q .normal (FA b) w) : c.wpIn F nn P Q a w :=
 wpIn_mono h fun e a w ⟨he, b, ha, hI⟩ => by subst he; subst ha; exact hq b w hI
def putBx (s sb : Nat) (g id n : Nat) (er : Value) : List Blk :=
 [(s + 1 + 1 + 1 + 1, .cells #[er] 33), (s + 1 + 1 + 1, .cells #[.int .i64 n] 3), (s + 1 + 1, .cells #[.int .i64 id] 3), (s + 1, .cells #[.int .i64 g] 3), (s, .cells #[.pointer (some ⟨sb, 0, none⟩)] 26)]
theorem putBx_cells (s sb g id n : Nat) (er : Value) : ∀ x ∈ putBx s sb g id n er, x.2.isCells = true := by
 intro x hx
 simp only [putBx, List.mem_cons, List.not_mem_nil, or_false] at hx
 rcases hx with rfl | rfl | rfl | rfl | rfl <;> rfl
def PutEnd (sb a aw tb bb : Nat) (W B : List Nat) (lb : List Blk) (cw : Int) (cs : List Ce) (g id n sz z : Nat) (er : Int) (l' : List Blk) : Prop :=
 (er = 3 ∧ l' = arBlks a aw W cw ++ (spBlk sb a tb bb :: lb) ∧ ∀ c ∈ cs, ¬ takes c g sz) ∨
 (er = 0 ∧ ∃ c ∈ cs, takes c g sz ∧ ∃ (B' : List Nat) (lb' : List Blk) (cw' : Int), SetIn B B' g 1 ∧ BitIs bb B' z lb' ∧ l' = arBlks a aw (putW W c g ⟨1, id, n, sz⟩) cw' ++ (spBlk sb a tb bb :: lb'))
theorem arBlks_cells (a aw : Nat) (W : List Nat) (n : Int) : ∀ x ∈ arBlks a aw W n, x.2.isCells = true := by
 intro x hx
 simp only [arBlks, List.mem_cons, List.not_mem_nil, or_false] at hx
 rcases hx with rfl | rfl <;> rfl
theorem PutEnd.cells {sb a aw tb bb : Nat} {W B : List Nat} {lb : List Blk} {cw : Int} {cs : List Ce} {g id n sz z : Nat} {er : Int} {l' : List Blk} (hB : BitIs bb B z lb) (h : PutEnd sb a aw tb bb W B lb cw cs g id n sz z er l') : ∀ x ∈ l', x.2.isCells = true := by
 have go : ∀ {W' : List Nat} {c : Int} {B' : List Nat} {lb' : List Blk}, BitIs bb B' z lb' → ∀ x ∈ arBlks a aw W' c ++ (spBlk sb a tb bb :: lb'), x.2.isCells = true := by
  intro W' c B' lb' hb x hx
  rcases List.mem_append.1 hx with hx | hx
  · exact arBlks_cells _ _ _ _ x hx
  · rcases List.mem_cons.1 hx with rfl | hx
    · rfl
    · exact hb.cells x hx
 rcases h with ⟨-, rfl, -⟩ | ⟨-, c, -, -, B', lb', cw', -, hb, rfl⟩
 · exact go hB
 · exact go hb
theorem KxC.of {Bs sb m nb : Nat} {onb oB oS : Obj} {X X' : List Blk} {A B : World} (h : Turn ((nb, onb) :: X) A ((nb, onb) :: X') B) (hH : Has A ((nb, onb) :: X)) (hX : ∀ b ∈ keys X, b < m) (h1 : (Bs, oB) ∈ X) (h1' : (Bs, oB) ∈ X') (h2 : (sb, oS) ∈ X) (h2' : (sb, oS) ∈ X') : KxC Bs sb m A B := by
 refine ⟨(h.has.own _ _ (List.mem_cons_of_mem _ h1')).trans (hH.own _ _ (List.mem_cons_of_mem _ h1)).symm, (h.has.own _ _ (List.mem_cons_of_mem _ h2')).trans (hH.own _ _ (List.mem_cons_of_mem _ h2)).symm, fun b o e1 _ e3 => ?_⟩
 by_cases hb : b = nb
 · subst hb
   rw [hH.own _ _ (List.mem_cons_self ..)] at e1
   cases e1
   exact h.has.own _ _ (List.mem_cons_self ..)
 · refine (h.same b (lt_of_block e1) (fun hm => ?_)).trans e1
   simp only [keys, List.map_cons, List.mem_cons] at hm
   rcases hm with hm | hm
   · exact hb hm
   · have := hX b hm
     omega
theorem KpC.refl (n₀ Bs : Nat) (D : Nat → Prop) (A : World) : KpC n₀ Bs D A A := ⟨Below.refl _ _, rfl, Nat.le_refl _, fun _ _ h _ _ => h⟩
theorem chain_upto {L : List Ty} {W : List Nat} {g : Nat} : ∀ {cs : List Ce} {a e : Nat}, Chain L W a cs e → a ≤ g → (∀ c ∈ cs, c.1 + c.2.size ≤ g) → e ≤ g
 | [], _, _, h, ha, _ => by cases h; exact ha
 | c :: cs, a, e, h, _, hc => chain_upto h.2.2 (by have := hc c (List.mem_cons_self ..); have := h.1; omega) (fun d hd => hc d (List.mem_cons_of_mem _ hd))
def ceObj (x : Ce) : Obj := .cells #[.int .i64 x.1, .int .u8 x.2.tag, .int .i64 x.2.typ, .int .i64 x.2.len, .int .i64 x.2.size] 81
theorem sput_in (nn : Nat) (hn : 5 ≤ nn) {w0 : World} (w : World) (sb a aw tb bb : Nat) {W B : List Nat} {lb R : List Blk} {cw : Int} (tao : Option Addr) (tcap : Nat) (L : List Ty) (hA : SpAt w sb a aw tb W tao tcap L) (hB : BitIs bb B (W.length / 2) lb) (hBu : u64ok B) (hBl : (W.length / 2 + 63) / 64 ≤ B.length) (hRc : ∀ x ∈ R, x.2.isCells = true)
  (T : Turn [] w0 (arBlks a aw W cw ++ (spBlk sb a tb bb :: lb) ++ R) w) (hTab : TabAt w0 tb tao tcap L) (hF0 : Fields w0) (hf : W.length ≤ 65536) (hu : ∀ v ∈ W, v < 18446744073709551616) (hTy : ∀ t ∈ L, TyIn t) (hL : L.length ≤ 1000)
  (cs : List Ce) (hC : Chain L W 0 cs (W.length / 2)) (g id n sz : Nat) (he : tyErr L id n = 0) (hs : tySize L id n = sz) (hm : (Hd.mk 1 id n sz).may) (hg : g < W.length / 2) :
  CallsIn Fence.wide nn Tryz.prog 16 #[.pointer (some ⟨sb, 0, none⟩), .int .i64 g, .int .i64 id, .int .i64 n] w fun e w' => ∃ (er : Int) (l' : List Blk), e = .returned (.int .i64 er) ∧ Turn [] w0 (l' ++ R) w' ∧ PutEnd sb a aw tb bb W B lb cw cs g id n sz (W.length / 2) er l' := by
 have h1 : 1 ≤ nn := by omega
 have h2 : 1 ≤ nn - 1 - 1 := by omega
 have h3 : Fence.wide.fn 16 := trivial
 have h5 : Fence.wide.fn 65 := trivial
 have h6 : Fence.wide.fn 64 := trivial
 have h7 : Fence.wide.fn 149 := trivial
 have h8 : Fence.wide.fn 13 := trivial
 have hro : Fence.wide.round = none := rfl
 have hszH := sz_head
 have hoH := hd_one ⟨1, id, n, sz⟩
 simp only at hoH
 have Hof := uh (fun w' (hB : Below w.heap.size w w') => hof w' L hTy hL tb tao tcap (hA.below hB).tab id n)
 unfold ofCells at Hof
 rw [he, if_pos rfl, hs] at Hof
 have Hgr := uh (fun w' (hB : Below w.heap.size w w') => sgran w' (hA.below hB).c0 (hA.below hB).ar hf)
 have T0 := (((((Turn.refl (Has.nil w)).alloc (.cells #[.pointer (some ⟨sb, 0, none⟩)] 26)).alloc (.cells #[.int .i64 g] 3)).alloc (.cells #[.int .i64 id] 3)).alloc (.cells #[.int .i64 n] 3)).alloc (.cells #[.int .i64 0] 33)
 simp only [World.size_alloc] at T0
 have HT0 : Hid (Turn [] w (putBx w.heap.size sb g id n (.int .i64 0)) (((((w.alloc (.cells #[.pointer (some ⟨sb, 0, none⟩)] 26)).alloc (.cells #[.int .i64 g] 3)).alloc (.cells #[.int .i64 id] 3)).alloc (.cells #[.int .i64 n] 3)).alloc (.cells #[.int .i64 0] 33))) := uh T0
 have hq0 : ∀ w' (Y : List Blk), Turn [] w (Y ++ putBx w.heap.size sb g id n (.int .i64 0)) w' → w'.cell? ⟨w.heap.size, 0, none⟩ = some (.pointer (some ⟨sb, 0, none⟩)) := fun w' Y V => V.has.cell (b := w.heap.size) (c := #[.pointer (some ⟨sb, 0, none⟩)]) (e := 26) (f := (0, 0)) (by simp [putBx]) 0
 have hq := hq0 _ [] HT0.out
 have HS := uh (fun w' (Y : List Blk) (V : Turn [] w (Y ++ putBx w.heap.size sb g id n (.int .i64 0)) w') => (⟨hq0 w' Y V, (hA.below V.below).c1,
    V.has.cell (b := w.heap.size + 1 + 1) (c := #[.int .i64 id]) (e := 3) (f := (0, 0)) (by simp [putBx]) 0, V.has.cell (b := w.heap.size + 1 + 1 + 1) (c := #[.int .i64 n]) (e := 3) (f := (0, 0)) (by simp [putBx]) 0⟩ :
    w'.cell? ⟨w.heap.size, 0, none⟩ = some (.pointer (some ⟨sb, 0, none⟩)) ∧ w'.cell? ⟨sb, 1, none⟩ = some (.pointer (some ⟨tb, 0, none⟩)) ∧ w'.cell? ⟨w.heap.size + 1 + 1, 0, none⟩ = some (.int .i64 id) ∧ w'.cell? ⟨w.heap.size + 1 + 1 + 1, 0, none⟩ = some (.int .i64 n)))
 have HS6 := uh (fun w' (Y : List Blk) (V : Turn [] w (Y ++ putBx w.heap.size sb g id n (.int .i64 0)) w') => (⟨hq0 w' Y V, V.has.cell (b := w.heap.size + 1) (c := #[.int .i64 g]) (e := 3) (f := (0, 0)) (by simp [putBx]) 0⟩ :
    w'.cell? ⟨w.heap.size, 0, none⟩ = some (.pointer (some ⟨sb, 0, none⟩)) ∧ w'.cell? ⟨w.heap.size + 1, 0, none⟩ = some (.int .i64 g)))
 have Hmake := uh (fun (l0 Lr : List Blk) (wa w' : World) (c : Int) (V : Turn l0 wa (arBlks a aw W c ++ Lr) w') (hF : Fields w') (hT : TabAt w' tb tao tcap L) (hr : g + sz ≤ W.length / 2) => smake w' hF V hf L hTy hL tao tcap hT g id n sz he hs hm hr)
 have HA := uh hA
 have HT := uh T
 have HB := uh hB
 have HTab := uh hTab
 have HF0 := uh hF0
 have HC := uh hC
 have hzb : W.length / 2 ≤ 32768 := by omega
 obtain ⟨z, hz⟩ : ∃ z : Nat, W.length / 2 = z := ⟨_, rfl⟩
 rw [hz] at Hgr HB hg HC hBl hzb ⊢
 have HZ := uh hz
 have k0 : decide ((g : Int) < 0) = false := decide_eq_false (by omega)
 have k1 : decide ((z : Int) ≤ (g : Int)) = false := decide_eq_false (by omega)
 have k2 : decide (z ≤ g) = false := decide_eq_false (by omega)
 clear T0 hA T hB hTab hF0 hC hz he hs hq0
 refine callsIn_of_wp_marks Tryz.func16 rfl h3 ?_ hro
 simp only [Tryz.ntmps16, List.size_toArray, List.length_cons, List.length_nil, Nat.reduceAdd, Nat.reduceSub, Array.replicate_succ, Array.replicate_zero, List.push_toArray, List.append_toArray, List.nil_append, List.cons_append]
 gi_wp2_with fail
 have HT1 := uh HT0.out.drew
 generalize ((((w.alloc (.cells #[.pointer (some ⟨sb, 0, none⟩)] 26)).alloc (.cells #[.int .i64 g] 3)).alloc (.cells #[.int .i64 id] 3)).alloc (.cells #[.int .i64 n] 3)).alloc (.cells #[.int .i64 0] 33) = W1 at *
 clear HT0 hq
 apply wpIn_mid1 (I := fun b9 w' => Turn [] w ((b9, .cells #[.int .u8 1, .int .i64 id, .int .i64 n, .int .i64 sz] 79) :: putBx w.heap.size sb g id n (.int .i64 0)) w')
 case h =>
  have T1 := HT1.out
  have hS1 := HS.out _ [] T1
  refine wpIn_region_noPanic ?_
  refine wpIn_region_listedHI (S := fun W' => W'.cell? ⟨w.heap.size, 0, none⟩ = some (.pointer (some ⟨sb, 0, none⟩)) ∧ W'.cell? ⟨sb, 1, none⟩ = some (.pointer (some ⟨tb, 0, none⟩)) ∧ W'.cell? ⟨w.heap.size + 1 + 1, 0, none⟩ = some (.int .i64 id) ∧ W'.cell? ⟨w.heap.size + 1 + 1 + 1, 0, none⟩ = some (.int .i64 n)) 13 [false, false, false, false, false, false, false, false, false, false, false, false, false] rfl rfl (by kernel_rfl) ?_
  refine tkJ 0 17 hro hS1 (fun w hSw => hSw.1) ?_
  refine tkI 1 18 hro hS1 ?_
  refine tkI 2 19 hro hS1 ?_
  refine tkJ 3 20 hro hS1 (fun w hSw => hSw.2.1) ?_
  refine tkJ 4 21 hro hS1 (fun w hSw => hSw.2.2.1) ?_
  refine tkJ 5 22 hro hS1 (fun w hSw => hSw.2.2.2) ?_
  clear hS1
  generalize W1.drew = V0 at T1 ⊢
  refine wpAnyHI_two (i := 6) (j := 10) (by kernel_rfl) rfl rfl (fun K hK => ?_) (fun K hK => ?_)
  · go_simp
    refine (callsIn_wide.2 (Hof.out _ T1.below)).mono ?_
    rintro e V1 ⟨rfl, hB⟩
    have T2 := T1.call hB
    have hS2 := HS.out _ [] T2
    refine hK.out _ _ hS2 ?_
    clear hK K
    simp only [st0, st1, st2]
    refine tkI 7 16 hro hS2 ?_
    refine tkI 8 24 hro hS2 ?_
    refine tkI 9 25 hro hS2 ?_
    refine wpAnyHI_call (i := 10) (by kernel_rfl) rfl (fun K hK => ?_)
    go_simp
    have T3 : Turn [] w ([(V1.heap.size, .cells #[.int .u8 0, .int .i64 0, .int .i64 0, .int .i64 0] 79)] ++ putBx w.heap.size sb g id n (.int .i64 0)) (V1.alloc (.cells #[.int .u8 0, .int .i64 0, .int .i64 0, .int .i64 0] 79)) := T2.alloc (.cells #[.int .u8 0, .int .i64 0, .int .i64 0, .int .i64 0] 79)
    have hS3 := HS.out _ _ T3
    refine hK.out _ _ hS3 ?_
    clear hK K
    simp only [st0, st1, st2]
    clear hS3 hS2 T2
    generalize V1.alloc (.cells #[.int .u8 0, .int .i64 0, .int .i64 0, .int .i64 0] 79) = V3 at *
    generalize V1.heap.size = b9 at *
    have hth := T3.there1
    have U := T3.laid [.int .u8 1, .int .i64 id, .int .i64 n, .int .i64 sz] rfl
    refine wpAnyHI_call (i := 11) (by kernel_rfl) rfl (fun K hK => ?_)
    refine stepIn_store rfl rfl 79 _ _ rfl _ 0 #[.int .u8 1, .int .i64 id, .int .i64 n, .int .i64 sz] rfl rfl hth hszH hoH (follows_wide _ _) ?_
    have hS4 := HS.out _ [_] U
    refine hK.out _ _ hS4 ?_
    clear hK K
    simp only [st0, st1, st2]
    refine tkI 12 10 hro hS4 ?_
    refine wpAnyHI_done (by kernel_rfl) ?_ _
    refine NoPanic.normal ?_
    exact ⟨rfl, b9, rfl, U⟩
  · go_simp
    have T2 : Turn [] w ([(V0.heap.size, .cells #[.int .u8 0, .int .i64 0, .int .i64 0, .int .i64 0] 79)] ++ putBx w.heap.size sb g id n (.int .i64 0)) (V0.alloc (.cells #[.int .u8 0, .int .i64 0, .int .i64 0, .int .i64 0] 79)) := T1.alloc (.cells #[.int .u8 0, .int .i64 0, .int .i64 0, .int .i64 0] 79)
    have hS2 := HS.out _ _ T2
    refine hK.out _ _ hS2 ?_
    clear hK K
    simp only [st0, st1, st2]
    clear hS2
    generalize V0.alloc (.cells #[.int .u8 0, .int .i64 0, .int .i64 0, .int .i64 0] 79) = V2 at T2 ⊢
    generalize V0.heap.size = b9 at T2 ⊢
    refine wpAnyHI_call (i := 6) (by kernel_rfl) rfl (fun K hK => ?_)
    go_simp
    refine (callsIn_wide.2 (Hof.out _ T2.below)).mono ?_
    rintro e V3 ⟨rfl, hB⟩
    have T3 := T2.call hB
    have hS3 := HS.out _ [_] T3
    refine hK.out _ _ hS3 ?_
    clear hK K
    simp only [st0, st1, st2]
    refine tkI 7 16 hro hS3 ?_
    refine tkI 8 24 hro hS3 ?_
    refine tkI 9 25 hro hS3 ?_
    clear hS3
    have hth := T3.there1
    have U := T3.laid [.int .u8 1, .int .i64 id, .int .i64 n, .int .i64 sz] rfl
    refine wpAnyHI_call (i := 11) (by kernel_rfl) rfl (fun K hK => ?_)
    refine stepIn_store rfl rfl 79 _ _ rfl _ 0 #[.int .u8 1, .int .i64 id, .int .i64 n, .int .i64 sz] rfl rfl hth hszH hoH (follows_wide _ _) ?_
    have hS4 := HS.out _ [_] U
    refine hK.out _ _ hS4 ?_
    clear hK K
    simp only [st0, st1, st2]
    refine tkI 12 10 hro hS4 ?_
    refine wpAnyHI_done (by kernel_rfl) ?_ _
    refine NoPanic.normal ?_
    exact ⟨rfl, b9, rfl, U⟩
 case hq =>
  intro b9 w6 T5
  have HT5 := uh T5
  have T6 : Turn [] w ([(b9, .cells #[.int .u8 1, .int .i64 id, .int .i64 n, .int .i64 sz] 79)] ++ putBx w.heap.size sb g id n (.int .i64 0)) w6.drew := T5.drew
  have hS6 := HS6.out _ _ T6
  clear T5
  gi_wp2_with fail
  refine wpIn_region_noPanic ?_
  refine wpIn_region_listedHI (S := fun W' => W'.cell? ⟨w.heap.size, 0, none⟩ = some (.pointer (some ⟨sb, 0, none⟩)) ∧ W'.cell? ⟨w.heap.size + 1, 0, none⟩ = some (.int .i64 g)) 8 [false, false, false, false, false, false, false, false] rfl rfl (by kernel_rfl) ?_
  refine tkJ 0 29 hro hS6 (fun w hSw => hSw.2) ?_
  refine tkI 1 30 hro hS6 ?_
  refine tkI 2 31 hro hS6 ?_
  refine tkJ 3 32 hro hS6 (fun w hSw => hSw.2) ?_
  refine tkJ 4 33 hro hS6 (fun w hSw => hSw.1) ?_
  refine wpAnyHI_call (i := 5) (by kernel_rfl) rfl (fun K hK => ?_)
  go_simp
  refine (callsIn_wide.2 (Hgr.out _ T6.below)).mono ?_
  rintro e V6 ⟨rfl, hw6⟩
  rw [hw6]
  clear hw6 V6
  refine hK.out _ _ hS6 ?_
  clear hK K
  simp only [st0, st1, st2]
  refine tkI 6 35 hro hS6 ?_
  refine tkI 7 36 hro hS6 ?_
  refine wpAnyHI_done (by kernel_rfl) ?_ _
  refine NoPanic.normal ?_
  have hq6 := hS6.1
  have T7 := (HT5.out.alloc (.cells #[.pointer (some ⟨sb, 0, none⟩)] 26)).drew
  have hsz7 : w6.heap.size < (w6.alloc (.cells #[.pointer (some ⟨sb, 0, none⟩)] 26)).drew.heap.size := by simp
  have hsz6 := T6.size
  clear hS6 HS HS6 T6
  gi_wp2_with (first
   | (gi_at_call 65; refine (scells_in (nn - 1) sb _).mono ?_; rintro e w' ⟨rfl, hw⟩; rw [hw]; clear hw w')
   | fail)
  generalize (w6.alloc (.cells #[.pointer (some ⟨sb, 0, none⟩)] 26)).drew = W0 at *
  have T8 : Turn [] w ((w6.heap.size, .cells #[.pointer (some ⟨sb, 0, none⟩)] 26) :: (b9, .cells #[.int .u8 1, .int .i64 id, .int .i64 n, .int .i64 sz] 79) :: putBx w.heap.size sb g id n (.int .i64 0)) W0 := T7
  have hsz6' : w.heap.size ≤ w6.heap.size := hsz6
  clear T7 hsz6 hq6
  generalize w6.heap.size = Bs at *
  have hBs : W0.heap[Bs]? = some (.cells #[.pointer (some ⟨sb, 0, none⟩)] 26) := T8.has.own _ _ (List.mem_cons_self ..)
  have hsbl : sb < w.heap.size := World.block_lt_of_cell? w _ HA.out.c0
  have hBLc : ∀ x ∈ (Bs, .cells #[.pointer (some ⟨sb, 0, none⟩)] 26) :: (b9, .cells #[.int .u8 1, .int .i64 id, .int .i64 n, .int .i64 sz] 79) :: putBx w.heap.size sb g id n (.int .i64 0), x.2.isCells = true := by
   intro x hx
   rcases List.mem_cons.1 hx with rfl | hx
   · rfl
   rcases List.mem_cons.1 hx with rfl | hx
   · rfl
   · exact putBx_cells _ _ _ _ _ _ x hx
  apply wpIn_rangeFunc_f (β := Nat) hro h1 (gf := 149) (lb := #[.pointer (some ⟨Bs, 0, none⟩)]) rfl h7 (enters_of Tryz.func149 (by kernel_rfl) rfl)
   (scells_next (nn - 1) (by omega) w sb a aw tb W tao tcap L HA.out hf hu hTy hL cs (by rw [HZ.out]; exact HC.out) Bs (fun b => w.heap.size ≤ b ∧ b < W0.heap.size ∧ b ≠ Bs) W0 (fun b h => h.2.1) T8.below hBs)
   (fun h k => h.t k) (KpC.b T8.size hsz7) (fun h k => h.x hsbl (fun b hb => hb.2.1) k) (fun h k => h.p hsbl (fun b hb => hb.2.1) k) (Below.refl _ _) (fun _ => rfl)
   (fun pre W' => (∀ c ∈ pre, c.1 + c.2.size ≤ g) ∧ Turn [] w ((Bs, .cells #[.pointer (some ⟨sb, 0, none⟩)] 26) :: (b9, .cells #[.int .u8 1, .int .i64 id, .int .i64 n, .int .i64 sz] 79) :: putBx w.heap.size sb g id n (.int .i64 0)) W')
   (fun c pre W' => c = .ret ∧ ∃ (er : Int) (l' : List Blk), PutEnd sb a aw tb bb W B lb cw cs g id n sz z er l' ∧ Turn [] w0 (putBx w.heap.size sb g id n (.int .i64 er) ++ (l' ++ R)) W')
   (fun x nb pre W' => (∀ c ∈ pre, c.1 + c.2.size ≤ g) ∧ Turn [] w ((nb, ceObj x) :: (Bs, .cells #[.pointer (some ⟨sb, 0, none⟩)] 26) :: (b9, .cells #[.int .u8 1, .int .i64 id, .int .i64 n, .int .i64 sz] 79) :: putBx w.heap.size sb g id n (.int .i64 0)) W')
   (fun s A D row ⟨e1, hT⟩ hg hr => ⟨e1, hT.grownB T8.size hBLc hg hr⟩)
   (fun c s A D row ⟨e0, er, l', e1, hT⟩ hg hr => ⟨e0, er, l', e1, hT.grownB (Nat.le_trans HT.out.size T8.size) (fun x hx => (List.mem_append.1 hx).elim (putBx_cells _ _ _ _ _ _ x) (fun hx => (List.mem_append.1 hx).elim (e1.cells HB.out x) (hRc x))) hg hr⟩)
   (fun x nb s A D row ⟨e1, hT⟩ hg hr => ⟨e1, hT.grownB T8.size (by
     intro y hy
     rcases List.mem_cons.1 hy with rfl | hy
     · rfl
     · exact hBLc y hy) hg hr⟩)
   ⟨fun c hc => (by cases hc), T8⟩
  case hassign =>
   rintro l1 pre x W2 hnx ⟨e1, hT⟩
   have T2 := hT.alloc (.cells #[.int .i64 0, .int .u8 0, .int .i64 0, .int .i64 0, .int .i64 0] 81)
   have hth : (W2.alloc (.cells #[.int .i64 0, .int .u8 0, .int .i64 0, .int .i64 0, .int .i64 0] 81)).there W2.heap.size 0 5 := T2.there1
   have HT2 := uh (T2.laid [.int .i64 x.1, .int .u8 x.2.tag, .int .i64 x.2.typ, .int .i64 x.2.len, .int .i64 x.2.size] rfl)
   have HX := uh (((Turn.refl (Has.nil W2)).alloc (.cells #[.int .i64 0, .int .u8 0, .int .i64 0, .int .i64 0, .int .i64 0] 81)).laid [.int .i64 x.1, .int .u8 x.2.tag, .int .i64 x.2.typ, .int .i64 x.2.len, .int .i64 x.2.size] rfl)
   have hszC := sz_cell
   have hoC := ce_one x
   have hl9 : w.heap.size ≤ W2.heap.size := hT.size
   have hB9 : Bs < W2.heap.size := hT.has.lt (by simp [keys])
   unfold ceArgs
   clear T2 hnx hT
   gi_wp2_with (first
    | (show wpListIn _ _ _ _ _ (⟨_, Op.store 81 _ _, _, _, _, _⟩ :: _) _ _; refine wpListIn_by (follows_round _ _ _) rfl (by intro c h; cases h) (wp_store_mid 81 _ _ rfl _ 0 #[.int .i64 x.1, .int .u8 x.2.tag, .int .i64 x.2.typ, .int .i64 x.2.len, .int .i64 x.2.size] rfl rfl hth hszC hoC ?_); clear hth)
    | fail)
   have HK := uh (⟨((KeepsOthers.alloc _ _).trans (keepsOthers_setCells _ _ _)).from _, KpC.of HX.out hl9 hB9 (fun b hb => by cases hb) (fun b hb => ⟨hb.1, hb.2.2⟩)⟩ :
    KeepsFrom W0.heap.size W2 ((W2.alloc (.cells #[.int .i64 0, .int .u8 0, .int .i64 0, .int .i64 0, .int .i64 0] 81)).setCells W2.heap.size 0 [.int .i64 x.1, .int .u8 x.2.tag, .int .i64 x.2.typ, .int .i64 x.2.len, .int .i64 x.2.size]) ∧
    KpC w.heap.size Bs (fun b => w.heap.size ≤ b ∧ b < W0.heap.size ∧ b ≠ Bs) W2 ((W2.alloc (.cells #[.int .i64 0, .int .u8 0, .int .i64 0, .int .i64 0, .int .i64 0] 81)).setCells W2.heap.size 0 [.int .i64 x.1, .int .u8 x.2.tag, .int .i64 x.2.typ, .int .i64 x.2.len, .int .i64 x.2.size]))
   clear HX hl9 hB9 hoC
   generalize (W2.alloc (.cells #[.int .i64 0, .int .u8 0, .int .i64 0, .int .i64 0, .int .i64 0] 81)).setCells W2.heap.size 0 [.int .i64 x.1, .int .u8 x.2.tag, .int .i64 x.2.typ, .int .i64 x.2.len, .int .i64 x.2.size] = W3 at *
   generalize W2.heap.size = nb at *
   exact ⟨HK.out.1, HK.out.2, nb, rfl, e1, HT2.out⟩
  case hbody =>
   rintro l1 pre x nb W2 ⟨post, hcs⟩ ⟨e1, hT⟩
   have hch := HC.out
   rw [hcs] at hch
   obtain ⟨hc1, hst, hc2⟩ := hch.split
   have hge := chain_upto hc1 (Nat.zero_le _) e1
   have hend := hc2.le
   have hlt3 := hst.2.2
   have q0 : W2.cell? ⟨nb, 0, none⟩ = some (.int .i64 x.1) := hT.cell1 0
   have q1 : W2.cell? ⟨nb, 1, none⟩ = some (.int .u8 x.2.tag) := hT.cell1 1
   have q4 : W2.cell? ⟨nb, 4, none⟩ = some (.int .i64 x.2.size) := hT.cell1 4
   have qg : W2.cell? ⟨w.heap.size + 1, 0, none⟩ = some (.int .i64 g) := hT.has.cell (b := w.heap.size + 1) (c := #[.int .i64 g]) (e := 3) (f := (0, 0)) (by simp [putBx]) 0
   have q9 : W2.cell? ⟨b9, 3, none⟩ = some (.int .i64 sz) := hT.has.cell (b := b9) (c := #[.int .u8 1, .int .i64 id, .int .i64 n, .int .i64 sz]) (e := 79) (f := (0, 0)) (by simp) 3
   have hxm : x ∈ cs := by rw [hcs]; simp
   by_cases hskip : x.1 + x.2.size ≤ g
   · have k3 : decide ((x.1 : Int) + (x.2.size : Int) ≤ (g : Int)) = true := decide_eq_true (by omega)
     have k4 : decide (x.1 + x.2.size ≤ g) = true := decide_eq_true hskip
     have HX := uh (⟨fun c hc => (List.mem_append.1 hc).elim (e1 c) (fun h => by rw [List.mem_singleton.1 h]; exact hskip), hT.tail⟩ : (∀ c ∈ pre ++ [x], c.1 + c.2.size ≤ g) ∧ Turn [] w ((Bs, .cells #[.pointer (some ⟨sb, 0, none⟩)] 26) :: (b9, .cells #[.int .u8 1, .int .i64 id, .int .i64 n, .int .i64 sz] 79) :: putBx w.heap.size sb g id n (.int .i64 0)) W2)
     have hxb : x.1 + x.2.size ≤ 32768 := by omega
     clear hT e1 hch hc1 hst hc2 hcs HC hskip
     gi_wp2_with fail
     exact ⟨KeepsFrom.refl _ _, KpC.refl _ _ _ _, HX.out.1, HX.out.2⟩
   · have k3 : decide ((x.1 : Int) + (x.2.size : Int) ≤ (g : Int)) = false := decide_eq_false (by omega)
     have k4 : decide (x.1 + x.2.size ≤ g) = false := decide_eq_false hskip
     have hxb : x.1 + x.2.size ≤ 32768 := by omega
     have Tabs := (HT.out.grow hT)
     have TX : Turn ((nb, ceObj x) :: (((Bs, .cells #[.pointer (some ⟨sb, 0, none⟩)] 26) :: (b9, .cells #[.int .u8 1, .int .i64 id, .int .i64 n, .int .i64 sz] 79) :: putBx w.heap.size sb g id n (.int .i64 0)) ++ (arBlks a aw W cw ++ (spBlk sb a tb bb :: lb) ++ R))) W2 ((nb, ceObj x) :: (((Bs, .cells #[.pointer (some ⟨sb, 0, none⟩)] 26) :: (b9, .cells #[.int .u8 1, .int .i64 id, .int .i64 n, .int .i64 sz] 79) :: putBx w.heap.size sb g id n (.int .i64 0)) ++ (arBlks a aw W cw ++ (spBlk sb a tb bb :: lb) ++ R))) W2 := Turn.refl Tabs.has
     have HkX := uh (fun b (hb : b ∈ keys (((Bs, .cells #[.pointer (some ⟨sb, 0, none⟩)] 26) :: (b9, .cells #[.int .u8 1, .int .i64 id, .int .i64 n, .int .i64 sz] 79) :: putBx w.heap.size sb g id n (.int .i64 0)) ++ (arBlks a aw W cw ++ (spBlk sb a tb bb :: lb) ++ R))) => (HT.out.grow T8).has.lt hb)
     have HH2 := uh TX.has
     have HTabs := uh Tabs
     have HTX := uh TX
     clear TX Tabs
     by_cases htak : takes x g sz
     · have ⟨t1, t2, t3, t4⟩ := htak
       have k5 : ((x.2.tag : Int) == 1) = false := by rw [beq_eq_false_iff_ne]; omega
       have k6 : (x.2.tag == 1) = false := by rw [beq_eq_false_iff_ne]; exact t1
       have k7 : decide ((x.1 : Int) + (x.2.size : Int) - (g : Int) < (sz : Int)) = false := decide_eq_false (by omega)
       have HFT := uh (fun w' X (V : Turn ((nb, ceObj x) :: (((Bs, .cells #[.pointer (some ⟨sb, 0, none⟩)] 26) :: (b9, .cells #[.int .u8 1, .int .i64 id, .int .i64 n, .int .i64 sz] 79) :: putBx w.heap.size sb g id n (.int .i64 0)) ++ (arBlks a aw W cw ++ (spBlk sb a tb bb :: lb) ++ R))) W2 X w') => (⟨range_below HF0.out (HTabs.out.trans V).below, HTab.out.below (HTabs.out.trans V).below⟩ : Fields w' ∧ TabAt w' tb tao tcap L))
       have HT14 := uh ((HTX.out.perm (l2 := arBlks a aw W cw ++ ((nb, ceObj x) :: (((Bs, .cells #[.pointer (some ⟨sb, 0, none⟩)] 26) :: (b9, .cells #[.int .u8 1, .int .i64 id, .int .i64 n, .int .i64 sz] 79) :: putBx w.heap.size sb g id n (.int .i64 0)) ++ ((spBlk sb a tb bb :: lb) ++ R)))) po).drew)
       have HS14 := uh (fun w' (W' : List Nat) (c' : Int) (V : Turn ((nb, ceObj x) :: (((Bs, .cells #[.pointer (some ⟨sb, 0, none⟩)] 26) :: (b9, .cells #[.int .u8 1, .int .i64 id, .int .i64 n, .int .i64 sz] 79) :: putBx w.heap.size sb g id n (.int .i64 0)) ++ (arBlks a aw W cw ++ (spBlk sb a tb bb :: lb) ++ R))) W2 (arBlks a aw W' c' ++ ((nb, ceObj x) :: (((Bs, .cells #[.pointer (some ⟨sb, 0, none⟩)] 26) :: (b9, .cells #[.int .u8 1, .int .i64 id, .int .i64 n, .int .i64 sz] 79) :: putBx w.heap.size sb g id n (.int .i64 0)) ++ ((spBlk sb a tb bb :: lb) ++ R)))) w') => (⟨V.has.cell (b := w.heap.size) (c := #[.pointer (some ⟨sb, 0, none⟩)]) (e := 26) (f := (0, 0)) (by simp [putBx, spBlk]) 0, V.has.cell (b := sb) (c := #[.pointer (some ⟨a, 0, none⟩), .pointer (some ⟨tb, 0, none⟩), .pointer (some ⟨bb, 0, none⟩)]) (e := 146) (f := (0, 0)) (by simp [putBx, spBlk]) 0, V.has.cell (b := sb) (c := #[.pointer (some ⟨a, 0, none⟩), .pointer (some ⟨tb, 0, none⟩), .pointer (some ⟨bb, 0, none⟩)]) (e := 146) (f := (0, 0)) (by simp [putBx, spBlk]) 1, V.has.cell (b := w.heap.size + 1) (c := #[.int .i64 g]) (e := 3) (f := (0, 0)) (by simp [putBx, spBlk]) 0, V.has.cell (b := w.heap.size + 1 + 1) (c := #[.int .i64 id]) (e := 3) (f := (0, 0)) (by simp [putBx, spBlk]) 0, V.has.cell (b := w.heap.size + 1 + 1 + 1) (c := #[.int .i64 n]) (e := 3) (f := (0, 0)) (by simp [putBx, spBlk]) 0⟩ :
        w'.cell? ⟨w.heap.size, 0, none⟩ = some (.pointer (some ⟨sb, 0, none⟩)) ∧ w'.cell? ⟨sb, 0, none⟩ = some (.pointer (some ⟨a, 0, none⟩)) ∧ w'.cell? ⟨sb, 1, none⟩ = some (.pointer (some ⟨tb, 0, none⟩)) ∧ w'.cell? ⟨w.heap.size + 1, 0, none⟩ = some (.int .i64 g) ∧ w'.cell? ⟨w.heap.size + 1 + 1, 0, none⟩ = some (.int .i64 id) ∧ w'.cell? ⟨w.heap.size + 1 + 1 + 1, 0, none⟩ = some (.int .i64 n)))
       have Hm14 := uh (Hmake.out _ _ _ _ _ HT14.out (HFT.out _ _ HT14.out).1 (HFT.out _ _ HT14.out).2 (by rw [HZ.out]; omega))
       have hS14 := HS14.out _ _ _ HT14.out
       have Hge := uh (⟨hxm, htak⟩ : x ∈ cs ∧ takes x g sz)
       clear hch hc1 hst hc2 hcs HC htak hT e1 t1
       gi_wp2_with fail
       refine wpIn_region_round (S := fun W' => W'.cell? ⟨w.heap.size, 0, none⟩ = some (.pointer (some ⟨sb, 0, none⟩)) ∧ W'.cell? ⟨sb, 0, none⟩ = some (.pointer (some ⟨a, 0, none⟩)) ∧ W'.cell? ⟨sb, 1, none⟩ = some (.pointer (some ⟨tb, 0, none⟩)) ∧ W'.cell? ⟨w.heap.size + 1, 0, none⟩ = some (.int .i64 g) ∧ W'.cell? ⟨w.heap.size + 1 + 1, 0, none⟩ = some (.int .i64 id) ∧ W'.cell? ⟨w.heap.size + 1 + 1 + 1, 0, none⟩ = some (.int .i64 n)) 13 [false, false, false, false, false, false, false, false, false, false, false, false, false] rfl rfl (by kernel_rfl) (by rfl) (by rintro ⟨a, w, h⟩; exact h) ?_
       refine tkB 0 61 hS14 (fun w hSw => hSw.1) ?_
       refine tkA 1 62 hS14 ?_
       refine tkA 2 63 hS14 ?_
       refine tkB 3 64 hS14 (fun w hSw => hSw.2.1) ?_
       refine tkB 4 65 hS14 (fun w hSw => hSw.1) ?_
       refine tkA 5 66 hS14 ?_
       refine tkA 6 67 hS14 ?_
       refine tkB 7 68 hS14 (fun w hSw => hSw.2.2.1) ?_
       refine tkB 8 69 hS14 (fun w hSw => hSw.2.2.2.1) ?_
       refine tkB 9 70 hS14 (fun w hSw => hSw.2.2.2.2.1) ?_
       refine tkB 10 71 hS14 (fun w hSw => hSw.2.2.2.2.2) ?_
       refine rdyA 11 (fun K hK => ?_)
       go_simp
       refine Hm14.out.mono ?_
       rintro e w3 ⟨rfl, c3, T15⟩
       have hS15 := HS14.out _ _ _ T15
       have HT15 := uh T15
       refine hK.out _ _ hS15 fun _ => ?_
       clear hK K T15 Hm14 hS14 HT14
       simp only [st0, st1, st2]
       refine tkA 12 13 hS15 ?_
       refine wpAnyH_done (by kernel_rfl) ?_ _
       clear hS15
       have HT17 := uh ((HT15.out.perm (l2 := lb ++ (arBlks a aw (mk W g ⟨1, id, n, sz⟩) c3 ++ ((nb, ceObj x) :: (((Bs, .cells #[.pointer (some ⟨sb, 0, none⟩)] 26) :: (b9, .cells #[.int .u8 1, .int .i64 id, .int .i64 n, .int .i64 sz] 79) :: putBx w.heap.size sb g id n (.int .i64 0)) ++ (spBlk sb a tb bb :: R))))) po).drew)
       have HS17 := uh (fun w' (lb' : List Blk) (V : Turn ((nb, ceObj x) :: (((Bs, .cells #[.pointer (some ⟨sb, 0, none⟩)] 26) :: (b9, .cells #[.int .u8 1, .int .i64 id, .int .i64 n, .int .i64 sz] 79) :: putBx w.heap.size sb g id n (.int .i64 0)) ++ (arBlks a aw W cw ++ (spBlk sb a tb bb :: lb) ++ R))) W2 (lb' ++ (arBlks a aw (mk W g ⟨1, id, n, sz⟩) c3 ++ ((nb, ceObj x) :: (((Bs, .cells #[.pointer (some ⟨sb, 0, none⟩)] 26) :: (b9, .cells #[.int .u8 1, .int .i64 id, .int .i64 n, .int .i64 sz] 79) :: putBx w.heap.size sb g id n (.int .i64 0)) ++ (spBlk sb a tb bb :: R))))) w') => (⟨V.has.cell (b := w.heap.size) (c := #[.pointer (some ⟨sb, 0, none⟩)]) (e := 26) (f := (0, 0)) (by simp [putBx, spBlk]) 0, V.has.cell (b := sb) (c := #[.pointer (some ⟨a, 0, none⟩), .pointer (some ⟨tb, 0, none⟩), .pointer (some ⟨bb, 0, none⟩)]) (e := 146) (f := (0, 0)) (by simp [putBx, spBlk]) 2, V.has.cell (b := w.heap.size + 1) (c := #[.int .i64 g]) (e := 3) (f := (0, 0)) (by simp [putBx, spBlk]) 0⟩ :
        w'.cell? ⟨w.heap.size, 0, none⟩ = some (.pointer (some ⟨sb, 0, none⟩)) ∧ w'.cell? ⟨sb, 2, none⟩ = some (.pointer (some ⟨bb, 0, none⟩)) ∧ w'.cell? ⟨w.heap.size + 1, 0, none⟩ = some (.int .i64 g)))
       have Hb17 := uh (bset _ bb z g B lb (arBlks a aw (mk W g ⟨1, id, n, sz⟩) c3 ++ ((nb, ceObj x) :: (((Bs, .cells #[.pointer (some ⟨sb, 0, none⟩)] 26) :: (b9, .cells #[.int .u8 1, .int .i64 id, .int .i64 n, .int .i64 sz] 79) :: putBx w.heap.size sb g id n (.int .i64 0)) ++ (spBlk sb a tb bb :: R)))) HB.out hBu hBl hg (by omega) HT17.out)
       have hS17 := HS17.out _ _ HT17.out
       clear HT15 HS14
       gi_wp2_with fail
       refine wpIn_region_round (S := fun W' => W'.cell? ⟨w.heap.size, 0, none⟩ = some (.pointer (some ⟨sb, 0, none⟩)) ∧ W'.cell? ⟨sb, 2, none⟩ = some (.pointer (some ⟨bb, 0, none⟩)) ∧ W'.cell? ⟨w.heap.size + 1, 0, none⟩ = some (.int .i64 g)) 6 [false, false, false, false, false, false] rfl rfl (by kernel_rfl) (by rfl) (by rintro ⟨a, w, h⟩; exact h) ?_
       refine tkB 0 76 hS17 (fun w hSw => hSw.1) ?_
       refine tkA 1 77 hS17 ?_
       refine tkA 2 78 hS17 ?_
       refine tkB 3 79 hS17 (fun w hSw => hSw.2.1) ?_
       refine tkB 4 80 hS17 (fun w hSw => hSw.2.2) ?_
       refine rdyA 5 (fun K hK => ?_)
       go_simp
       refine Hb17.out.mono ?_
       rintro e w4 ⟨rfl, B', lb', hsi, hbi, T18⟩
       have hS18 := HS17.out _ _ T18
       have HT18 := uh T18
       have HSI := uh (⟨hsi, hbi⟩ : SetIn B B' g 1 ∧ BitIs bb B' z lb')
       refine hK.out _ _ hS18 fun _ => ?_
       clear hK K T18 Hb17 hS17 HT17 hsi hbi
       simp only [st0, st1, st2]
       refine wpAnyH_done (by kernel_rfl) ?_ _
       clear hS18
       have HS19 := uh (fun w' (W' : List Nat) (c' : Int) (V : Turn ((nb, ceObj x) :: (((Bs, .cells #[.pointer (some ⟨sb, 0, none⟩)] 26) :: (b9, .cells #[.int .u8 1, .int .i64 id, .int .i64 n, .int .i64 sz] 79) :: putBx w.heap.size sb g id n (.int .i64 0)) ++ (arBlks a aw W cw ++ (spBlk sb a tb bb :: lb) ++ R))) W2 (arBlks a aw W' c' ++ ((nb, ceObj x) :: (((Bs, .cells #[.pointer (some ⟨sb, 0, none⟩)] 26) :: (b9, .cells #[.int .u8 1, .int .i64 id, .int .i64 n, .int .i64 sz] 79) :: putBx w.heap.size sb g id n (.int .i64 0)) ++ (spBlk sb a tb bb :: (lb' ++ R))))) w') => (⟨V.has.cell (b := w.heap.size) (c := #[.pointer (some ⟨sb, 0, none⟩)]) (e := 26) (f := (0, 0)) (by simp [putBx, spBlk]) 0, V.has.cell (b := w.heap.size + 1) (c := #[.int .i64 g]) (e := 3) (f := (0, 0)) (by simp [putBx, spBlk]) 0, V.has.cell (b := nb) (c := #[.int .i64 x.1, .int .u8 x.2.tag, .int .i64 x.2.typ, .int .i64 x.2.len, .int .i64 x.2.size]) (e := 81) (f := (0, 0)) (by simp [ceObj]) 0, V.has.cell (b := b9) (c := #[.int .u8 1, .int .i64 id, .int .i64 n, .int .i64 sz]) (e := 79) (f := (0, 0)) (by simp) 3⟩ :
        w'.cell? ⟨w.heap.size, 0, none⟩ = some (.pointer (some ⟨sb, 0, none⟩)) ∧ w'.cell? ⟨w.heap.size + 1, 0, none⟩ = some (.int .i64 g) ∧ w'.cell? ⟨nb, 0, none⟩ = some (.int .i64 x.1) ∧ w'.cell? ⟨b9, 3, none⟩ = some (.int .i64 sz)))
       have T19 := HT18.out.perm (l2 := arBlks a aw (mk W g ⟨1, id, n, sz⟩) c3 ++ ((nb, ceObj x) :: (((Bs, .cells #[.pointer (some ⟨sb, 0, none⟩)] 26) :: (b9, .cells #[.int .u8 1, .int .i64 id, .int .i64 n, .int .i64 sz] 79) :: putBx w.heap.size sb g id n (.int .i64 0)) ++ (spBlk sb a tb bb :: (lb' ++ R))))) po
       have HL1 := uh (sgap _ (HFT.out _ _ T19).1 T19 (s := sb) (tb := tb) (bb := bb) (by simp) (by rw [mk_len]; exact hf) x.1 (g - x.1) (by rw [mk_len, HZ.out]; omega))
       obtain ⟨u1, u2, u3, u4⟩ := HS19.out _ _ _ T19
       have hsub1 : (g : Int) - (x.1 : Int) = ((g - x.1 : Nat) : Int) := by omega
       have hsub2 : (x.1 : Int) + (x.2.size : Int) - (g : Int) - (sz : Int) = ((x.1 + x.2.size - g - sz : Nat) : Int) := by omega
       clear T19 HT18 HS17
       gi_wp2_with fail
       refine ⟨trivial, (CallsIn.inRound _ (callsIn_wide.2 HL1.out)).mono ?_⟩
       rintro e w5 ⟨⟨u, rfl⟩, c5, T20⟩
       have HT20 := uh T20
       clear u1 u2 u3 u4 HL1 T20
       obtain ⟨u1, u2, u3, u4⟩ := HS19.out _ _ _ HT20.out
       have HL2 := sgap _ (HFT.out _ _ HT20.out).1 HT20.out (s := sb) (tb := tb) (bb := bb) (by simp) (by rw [lay_len, mk_len]; exact hf) (g + sz) (x.1 + x.2.size - g - sz) (by rw [lay_len, mk_len, HZ.out]; omega)
       rw [Int.natCast_add] at HL2
       have HL2 := uh HL2
       have hgb : g ≤ 32768 := by omega
       have hsb9 : sz ≤ 32768 := by omega
       gi_wp2_with fail
       refine ⟨trivial, (CallsIn.inRound _ (callsIn_wide.2 HL2.out)).mono ?_⟩
       rintro e w6 ⟨⟨u, rfl⟩, c6, T21⟩
       have T21' : Turn ((nb, ceObj x) :: (((Bs, .cells #[.pointer (some ⟨sb, 0, none⟩)] 26) :: (b9, .cells #[.int .u8 1, .int .i64 id, .int .i64 n, .int .i64 sz] 79) :: putBx w.heap.size sb g id n (.int .i64 0)) ++ (arBlks a aw W cw ++ (spBlk sb a tb bb :: lb) ++ R))) W2 (arBlks a aw (putW W x g ⟨1, id, n, sz⟩) c6 ++ ((nb, ceObj x) :: (((Bs, .cells #[.pointer (some ⟨sb, 0, none⟩)] 26) :: (b9, .cells #[.int .u8 1, .int .i64 id, .int .i64 n, .int .i64 sz] 79) :: putBx w.heap.size sb g id n (.int .i64 0)) ++ (spBlk sb a tb bb :: (lb' ++ R))))) w6 := T21
       have T22 := T21'.perm (l2 := (w.heap.size + 1 + 1 + 1 + 1, .cells #[.int .i64 0] 33) :: ((nb, ceObj x) :: (Bs, .cells #[.pointer (some ⟨sb, 0, none⟩)] 26) :: (b9, .cells #[.int .u8 1, .int .i64 id, .int .i64 n, .int .i64 sz] 79) :: ((w.heap.size + 1 + 1 + 1, .cells #[.int .i64 n] 3) :: (w.heap.size + 1 + 1, .cells #[.int .i64 id] 3) :: (w.heap.size + 1, .cells #[.int .i64 g] 3) :: (w.heap.size, .cells #[.pointer (some ⟨sb, 0, none⟩)] 26) :: (arBlks a aw (putW W x g ⟨1, id, n, sz⟩) c6 ++ (spBlk sb a tb bb :: lb') ++ R)))) (perm_of fun c => by simp [putBx]; omega)
       have c8 : w6.cell? ⟨w.heap.size + 1 + 1 + 1 + 1, 0, none⟩ = some (.int .i64 0) := T22.cell1 0
       have f8 : w6.frozen? ⟨w.heap.size + 1 + 1 + 1 + 1, 0, none⟩ = false := T22.free1 0
       have T23 := (T22.setCell 0 (.int .i64 0)).perm (l2 := (nb, ceObj x) :: (((Bs, .cells #[.pointer (some ⟨sb, 0, none⟩)] 26) :: (b9, .cells #[.int .u8 1, .int .i64 id, .int .i64 n, .int .i64 sz] 79) :: putBx w.heap.size sb g id n (.int .i64 0)) ++ (arBlks a aw (putW W x g ⟨1, id, n, sz⟩) c6 ++ (spBlk sb a tb bb :: lb') ++ R))) (perm_of fun c => by simp [putBx]; omega)
       have HT23 := uh T23
       clear T21 T21' T22 T23 HL2 HT20 u1 u2 u3 u4 HS19
       gi_wp2_with fail
       have HK9 := uh (Turn.keepsOthers HT23.out HH2.out (fun y hy => by
        rcases List.mem_cons.1 hy with rfl | hy
        · rfl
        rcases List.mem_append.1 hy with hy | hy
        · exact hBLc y hy
        rcases List.mem_append.1 hy with hy | hy
        · rcases List.mem_append.1 hy with hy | hy
          · exact arBlks_cells _ _ _ _ y hy
          · rcases List.mem_cons.1 hy with rfl | hy
            · rfl
            · exact HB.out.cells y hy
        · exact hRc y hy))
       exact ⟨HK9.out.from _, KxC.of HT23.out HH2.out HkX.out (List.mem_append_left _ (List.mem_cons_self ..)) (List.mem_append_left _ (List.mem_cons_self ..)) (List.mem_append_right _ (List.mem_append_left _ (List.mem_append_right _ (List.mem_cons_self ..)))) (List.mem_append_right _ (List.mem_append_left _ (List.mem_append_right _ (List.mem_cons_self ..)))), rfl, 0, _, .inr ⟨rfl, x, Hge.out.1, Hge.out.2, B', lb', c6, HSI.out.1, HSI.out.2, rfl⟩, ((HTabs.out.trans HT23.out).tail.tail.tail)⟩
     · have hno : ∀ c ∈ cs, ¬ takes c g sz := by
         intro c hc
         rw [hcs] at hc
         rcases List.mem_append.1 hc with h | h
         · intro ht
           have := e1 c h
           have := ht.2.2.1
           omega
         · rcases List.mem_cons.1 h with rfl | h
           · exact htak
           · intro ht
             have := (hc2.mem c h).1
             have := ht.2.1
             omega
       have hcase : x.2.tag = 1 ∨ (x.2.tag ≠ 1 ∧ x.1 + x.2.size < g + sz) := by
        by_cases h9 : x.2.tag = 1
        · exact .inl h9
        · refine .inr ⟨h9, ?_⟩
          rcases Nat.lt_or_ge (x.1 + x.2.size) (g + sz) with h | h
          · exact h
          · exact absurd ⟨h9, hge, by omega, h⟩ htak
       have T9 := HTX.out.perm (l2 := (w.heap.size + 1 + 1 + 1 + 1, .cells #[.int .i64 0] 33) :: ((nb, ceObj x) :: (Bs, .cells #[.pointer (some ⟨sb, 0, none⟩)] 26) :: (b9, .cells #[.int .u8 1, .int .i64 id, .int .i64 n, .int .i64 sz] 79) :: ((w.heap.size + 1 + 1 + 1, .cells #[.int .i64 n] 3) :: (w.heap.size + 1 + 1, .cells #[.int .i64 id] 3) :: (w.heap.size + 1, .cells #[.int .i64 g] 3) :: (w.heap.size, .cells #[.pointer (some ⟨sb, 0, none⟩)] 26) :: (arBlks a aw W cw ++ (spBlk sb a tb bb :: lb) ++ R)))) (perm_of fun c => by simp [putBx]; omega)
       have c8 : W2.cell? ⟨w.heap.size + 1 + 1 + 1 + 1, 0, none⟩ = some (.int .i64 0) := T9.cell1 0
       have f8 : W2.frozen? ⟨w.heap.size + 1 + 1 + 1 + 1, 0, none⟩ = false := T9.free1 0
       have T10 := (T9.setCell 0 (.int .i64 3)).perm (l2 := (nb, ceObj x) :: (((Bs, .cells #[.pointer (some ⟨sb, 0, none⟩)] 26) :: (b9, .cells #[.int .u8 1, .int .i64 id, .int .i64 n, .int .i64 sz] 79) :: putBx w.heap.size sb g id n (.int .i64 3)) ++ (arBlks a aw W cw ++ (spBlk sb a tb bb :: lb) ++ R))) (perm_of fun c => by simp [putBx]; omega)
       have HT10 := uh T10
       have Hno := uh hno
       clear T9 T10 hno hch hc1 hst hc2 hcs HC htak hT e1
       rcases hcase with h9 | ⟨h9, h10⟩
       case' inl => (
        have k5 : ((x.2.tag : Int) == 1) = true := by rw [beq_iff_eq]; omega
        have k6 : (x.2.tag == 1) = true := by rw [beq_iff_eq]; exact h9
        clear h9
        gi_wp2_with fail)
       case' inr => (
        have k5 : ((x.2.tag : Int) == 1) = false := by rw [beq_eq_false_iff_ne]; omega
        have k6 : (x.2.tag == 1) = false := by rw [beq_eq_false_iff_ne]; exact h9
        have k7 : decide ((x.1 : Int) + (x.2.size : Int) - (g : Int) < (sz : Int)) = true := decide_eq_true (by omega)
        clear h9
        gi_wp2_with fail)
       all_goals exact ⟨(KeepsOthers.setCell _ _ _).from _, KxC.of HT10.out HH2.out HkX.out (List.mem_append_left _ (List.mem_cons_self ..)) (List.mem_append_left _ (List.mem_cons_self ..)) (List.mem_append_right _ (List.mem_append_left _ (List.mem_append_right _ (List.mem_cons_self ..)))) (List.mem_append_right _ (List.mem_append_left _ (List.mem_append_right _ (List.mem_cons_self ..)))), rfl, 3, _, .inl ⟨rfl, rfl, Hno.out⟩, ((HTabs.out.trans HT10.out).tail.tail.tail)⟩
  case hdone =>
   rintro D xs W2 hD rfl ⟨e1, hT⟩ hK
   exfalso
   obtain ⟨pa, c, pb, hcs, h8, h9, -, -⟩ := HC.out.find g (Nat.zero_le _) hg
   have := e1 c (by rw [hcs]; simp)
   omega
  case hstop =>
   rintro D c pre W2 hD ⟨rfl, er, l', e1, hT⟩ hK
   have T5 := hT.grownB (B := W0.heap.size) (Nat.le_trans HT.out.size T8.size) (fun x hx => (List.mem_append.1 hx).elim (putBx_cells _ _ _ _ _ _ x) (fun hx => (List.mem_append.1 hx).elim (e1.cells HB.out x) (hRc x))) (grownBy_putObj' W2 D (.deferred none)) (fun r e => by cases e; exact ⟨hD, _, hK, rfl⟩)
   have c8 : (W2.putObj D (.deferred none)).cell? ⟨w.heap.size + 1 + 1 + 1 + 1, 0, none⟩ = some (.int .i64 er) := T5.cell1 0
   have HX := uh (⟨T5.drop, e1⟩ : Turn [] w0 (l' ++ R) (W2.putObj D (.deferred none)) ∧ PutEnd sb a aw tb bb W B lb cw cs g id n sz z er l')
   clear T5 hT e1
   gi_wp2_with fail
   refine ⟨by simp, .inl ⟨_, _, rfl, run_takeDeferred hK, ?_⟩⟩
   refine ⟨.int .i64 er, ?_, er, l', rfl, HX.out.1, HX.out.2⟩
   simp [results, Tryz.results16, go_sem, c8]
end
section
open Go Go.RowKit Go.IntWalk
def grBx (gb ob fb tb : Nat) (g : Nat) (ov : Bool) (f t : Nat) : List Blk :=
 [(gb, .cells #[.int .i64 g] 3), (ob, .cells #[.bool ov] 4), (fb, .cells #[.int .i64 f] 3), (tb, .cells #[.int .i64 t] 3)]
theorem drop1 {l0 R : List Blk} {w0 : World} (w : World) (gb ob fb tb g f t : Nat) (ov : Bool) (x : Ce) (T : Turn l0 w0 (grBx gb ob fb tb g ov f t ++ R) w) (hx : x.1 + x.2.size ≤ 65536) :
  Calls Tryz.prog 73 #[.agg #[.int .i64 x.1, .int .u8 x.2.tag, .int .i64 x.2.typ, .int .i64 x.2.len, .int .i64 x.2.size], .pointer (some ⟨gb, 0, none⟩), .pointer (some ⟨ob, 0, none⟩), .pointer (some ⟨fb, 0, none⟩), .pointer (some ⟨tb, 0, none⟩)] w fun e w' => (∃ v, e = .returned v) ∧
   Turn l0 w0 (grBx gb ob fb tb g ov (if x.2.tag = 1 ∧ x.1 ≠ g ∧ ov = false then x.1 + x.2.size else f) (if x.2.tag = 1 ∧ x.1 ≠ g then t else x.1 + x.2.size) ++ R) w' := by
 obtain ⟨cg, ⟨xa, xb, xc, xd⟩⟩ := x
 simp only at hx ⊢
 have T1 := T.alloc (.cells #[.int .i64 cg, .int .u8 xa, .int .i64 xb, .int .i64 xc, .int .i64 xd] 81)
 have d0 : (w.alloc (.cells #[.int .i64 cg, .int .u8 xa, .int .i64 xb, .int .i64 xc, .int .i64 xd] 81)).cell? ⟨w.heap.size, 0, none⟩ = some (.int .i64 cg) := T1.cell1 0
 have d1 : (w.alloc (.cells #[.int .i64 cg, .int .u8 xa, .int .i64 xb, .int .i64 xc, .int .i64 xd] 81)).cell? ⟨w.heap.size, 1, none⟩ = some (.int .u8 xa) := T1.cell1 1
 have d4 : (w.alloc (.cells #[.int .i64 cg, .int .u8 xa, .int .i64 xb, .int .i64 xc, .int .i64 xd] 81)).cell? ⟨w.heap.size, 4, none⟩ = some (.int .i64 xd) := T1.cell1 4
 have qg : (w.alloc (.cells #[.int .i64 cg, .int .u8 xa, .int .i64 xb, .int .i64 xc, .int .i64 xd] 81)).cell? ⟨gb, 0, none⟩ = some (.int .i64 g) := T1.has.cell (b := gb) (c := #[.int .i64 g]) (e := 3) (f := (0, 0)) (by simp [grBx]) 0
 have qo : (w.alloc (.cells #[.int .i64 cg, .int .u8 xa, .int .i64 xb, .int .i64 xc, .int .i64 xd] 81)).cell? ⟨ob, 0, none⟩ = some (.bool ov) := T1.has.cell (b := ob) (c := #[.bool ov]) (e := 4) (f := (0, 0)) (by simp [grBx]) 0
 have qf : (w.alloc (.cells #[.int .i64 cg, .int .u8 xa, .int .i64 xb, .int .i64 xc, .int .i64 xd] 81)).cell? ⟨fb, 0, none⟩ = some (.int .i64 f) := T1.has.cell (b := fb) (c := #[.int .i64 f]) (e := 3) (f := (0, 0)) (by simp [grBx]) 0
 have ff : (w.alloc (.cells #[.int .i64 cg, .int .u8 xa, .int .i64 xb, .int .i64 xc, .int .i64 xd] 81)).frozen? ⟨fb, 0, none⟩ = false := T1.has.free (b := fb) (c := #[.int .i64 f]) (e := 3) (by simp [grBx]) 0
 have qt : (w.alloc (.cells #[.int .i64 cg, .int .u8 xa, .int .i64 xb, .int .i64 xc, .int .i64 xd] 81)).cell? ⟨tb, 0, none⟩ = some (.int .i64 t) := T1.has.cell (b := tb) (c := #[.int .i64 t]) (e := 3) (f := (0, 0)) (by simp [grBx]) 0
 have ft : (w.alloc (.cells #[.int .i64 cg, .int .u8 xa, .int .i64 xb, .int .i64 xc, .int .i64 xd] 81)).frozen? ⟨tb, 0, none⟩ = false := T1.has.free (b := tb) (c := #[.int .i64 t]) (e := 3) (by simp [grBx]) 0
 have HTf := uh (((T1.perm (l2 := (fb, .cells #[.int .i64 f] 3) :: ((w.heap.size, .cells #[.int .i64 cg, .int .u8 xa, .int .i64 xb, .int .i64 xc, .int .i64 xd] 81) :: (gb, .cells #[.int .i64 g] 3) :: (ob, .cells #[.bool ov] 4) :: (tb, .cells #[.int .i64 t] 3) :: R)) (perm_of fun c => by simp [grBx]; omega)).setCell 0 (.int .i64 ((cg : Int) + (xd : Int)))).perm (l2 := (w.heap.size, .cells #[.int .i64 cg, .int .u8 xa, .int .i64 xb, .int .i64 xc, .int .i64 xd] 81) :: ((gb, .cells #[.int .i64 g] 3) :: (ob, .cells #[.bool ov] 4) :: (fb, .cells #[.int .i64 ((cg : Int) + (xd : Int))] 3) :: (tb, .cells #[.int .i64 t] 3) :: R)) po)
 have HTt := uh (((T1.perm (l2 := (tb, .cells #[.int .i64 t] 3) :: ((w.heap.size, .cells #[.int .i64 cg, .int .u8 xa, .int .i64 xb, .int .i64 xc, .int .i64 xd] 81) :: (gb, .cells #[.int .i64 g] 3) :: (ob, .cells #[.bool ov] 4) :: (fb, .cells #[.int .i64 f] 3) :: R)) (perm_of fun c => by simp [grBx]; omega)).setCell 0 (.int .i64 ((cg : Int) + (xd : Int)))).perm (l2 := (w.heap.size, .cells #[.int .i64 cg, .int .u8 xa, .int .i64 xb, .int .i64 xc, .int .i64 xd] 81) :: ((gb, .cells #[.int .i64 g] 3) :: (ob, .cells #[.bool ov] 4) :: (fb, .cells #[.int .i64 f] 3) :: (tb, .cells #[.int .i64 ((cg : Int) + (xd : Int))] 3) :: R)) po)
 have HT1 := uh T1.tail
 have hcast : ((cg + xd : Nat) : Int) = (cg : Int) + (xd : Int) := Int.natCast_add ..
 have Hc := uh hcast
 clear T T1 hcast
 by_cases ht : xa = 1
 · have k1 : ((xa : Int) == 1) = true := by rw [beq_iff_eq]; omega
   have k2 : (xa == 1) = true := by rw [beq_iff_eq]; exact ht
   by_cases hg : cg = g
   · rw [if_neg (fun h => h.2.1 hg), if_neg (fun h => h.2 hg)]
     have k3 : ((cg : Int) != (g : Int)) = false := by rw [bne_eq_false_iff_eq]; omega
     have k4 : (cg != g) = false := by rw [bne_eq_false_iff_eq]; exact hg
     clear ht hg
     go_enter Tryz.func73, Tryz.ntmps73
     go_wp2_with fail
     go_end0
     exact ⟨⟨_, rfl⟩, by unfold grBx; rw [Hc.out]; exact HTt.out.tail⟩
   · have k3 : ((cg : Int) != (g : Int)) = true := by rw [bne_iff_ne]; omega
     have k4 : (cg != g) = true := by rw [bne_iff_ne]; exact hg
     cases ov with
     | false =>
      rw [if_pos ⟨ht, hg, rfl⟩, if_pos ⟨ht, hg⟩]
      clear ht hg
      go_enter Tryz.func73, Tryz.ntmps73
      go_wp2_with fail
      go_end0
      exact ⟨⟨_, rfl⟩, by unfold grBx; rw [Hc.out]; exact HTf.out.tail⟩
     | true =>
      rw [if_neg (fun h => absurd h.2.2 (by decide)), if_pos ⟨ht, hg⟩]
      clear ht hg
      go_enter Tryz.func73, Tryz.ntmps73
      go_wp2_with fail
      go_end0
      exact ⟨⟨_, rfl⟩, HT1.out⟩
 · rw [if_neg (fun h => ht h.1), if_neg (fun h => ht h.1)]
   have k1 : ((xa : Int) == 1) = false := by rw [beq_eq_false_iff_ne]; omega
   have k2 : (xa == 1) = false := by rw [beq_eq_false_iff_ne]; exact ht
   clear ht
   go_enter Tryz.func73, Tryz.ntmps73
   go_wp2_with fail
   go_end0
   exact ⟨⟨_, rfl⟩, by unfold grBx; rw [Hc.out]; exact HTt.out.tail⟩
end
section
def DropSt (P : List Ce) (c0 : Ce) (Q : List Ce) (pre : List Ce) (f t : Nat) (ov : Bool) : Prop :=
 (ov = false ∧ f = dropFrm 0 pre ∧ ∃ rest, P = pre ++ rest) ∨
 (ov = true ∧ f = dropFrm 0 P ∧ ∃ Q1 Q2, pre = P ++ c0 :: Q1 ∧ Q = Q1 ++ Q2 ∧ dropTill (c0.1 + c0.2.size) Q = dropTill t Q2)
theorem DropSt.step {L : List Ty} {W : List Nat} {P Q pre post : List Ce} {c0 x : Ce} {f t e : Nat} {ov : Bool} (hC : Chain L W 0 (P ++ c0 :: Q) e) (h : DropSt P c0 Q pre f t ov) (hx : P ++ c0 :: Q = pre ++ x :: post) :
  (c0.1 < x.1 ∧ x.2.tag = 1 ∧ f = dropFrm 0 P ∧ t = dropTill (c0.1 + c0.2.size) Q) ∨
  (¬ (c0.1 < x.1 ∧ x.2.tag = 1) ∧ DropSt P c0 Q (pre ++ [x]) (if x.2.tag = 1 ∧ x.1 ≠ c0.1 ∧ ov = false then x.1 + x.2.size else f) (if x.2.tag = 1 ∧ x.1 ≠ c0.1 then t else x.1 + x.2.size) (ov || x.1 == c0.1)) := by
 obtain ⟨h1, h2, h3⟩ := hC.split
 rcases h with ⟨rfl, hf, rest, rfl⟩ | ⟨rfl, hf, Q1, Q2, rfl, rfl, ht⟩
 · cases rest with
   | nil =>
    rw [List.append_nil] at hx h1
    rw [List.append_nil]
    have hxc : c0 = x ∧ Q = post := by
     have := List.append_cancel_left hx
     exact ⟨(List.cons.inj this).1, (List.cons.inj this).2⟩
    obtain ⟨rfl, rfl⟩ := hxc
    refine .inr ⟨fun h => by omega, .inr ⟨by simp, ?_, [], Q, rfl, rfl, ?_⟩⟩
    · rw [if_neg (fun h => h.2.1 rfl)]
      exact hf
    · rw [if_neg (fun h => h.2 rfl)]
   | cons y ys =>
    have hxy : y = x := by
     rw [List.append_assoc] at hx
     have := List.append_cancel_left hx
     exact (List.cons.inj this).1
    subst hxy
    have hm := h1.mem y (by simp)
    have hp := hm.2.2.pos
    have hlt : y.1 < c0.1 := by omega
    refine .inr ⟨fun h => by omega, .inl ⟨?_, ?_, ys, by simp⟩⟩
    · simp
      omega
    · rw [dropFrm_append, dropFrm, dropFrm, ← hf]
      by_cases ht : y.2.tag = 1
      · rw [if_pos ⟨ht, by omega, rfl⟩, if_pos ht]
      · rw [if_neg (fun h => ht h.1), if_neg ht]
 · have hxq : Q2 = x :: post := by
     have h9 : P ++ c0 :: (Q1 ++ Q2) = (P ++ c0 :: Q1) ++ Q2 := by simp
     rw [h9] at hx
     exact List.append_cancel_left hx
   subst hxq
   have hm := h3.mem x (by simp)
   have hp := h2.pos
   have hlt : c0.1 < x.1 := by omega
   by_cases hxt : x.2.tag = 1
   · refine .inl ⟨hlt, hxt, hf, ?_⟩
     rw [ht, dropTill, if_pos hxt]
   · refine .inr ⟨fun h => hxt h.2, .inr ⟨by simp, ?_, Q1 ++ [x], post, by simp, by simp, ?_⟩⟩
     · rw [if_neg (fun h => hxt h.1)]
       exact hf
     · rw [if_neg (fun h => hxt h.1), ht, dropTill, if_neg hxt]
theorem DropSt.done {P Q : List Ce} {c0 : Ce} {f t : Nat} {ov : Bool} (h : DropSt P c0 Q (P ++ c0 :: Q) f t ov) : f = dropFrm 0 P ∧ t = dropTill (c0.1 + c0.2.size) Q := by
 rcases h with ⟨-, -, rest, hr⟩ | ⟨-, hf, Q1, Q2, hp, hq, ht⟩
 · have := congrArg List.length hr
   simp at this
 · have h1 : Q = Q1 := by
     have := List.append_cancel_left hp
     exact (List.cons.inj this).2
   subst h1
   have h2 : Q2 = [] := by
    have := congrArg List.length hq
    simp at this
    exact this
   subst h2
   exact ⟨hf, ht.symm⟩
theorem DropSt.start (P : List Ce) (c0 : Ce) (Q : List Ce) : DropSt P c0 Q [] 0 0 false := .inl ⟨rfl, rfl, P, rfl⟩
end
end Go.Proofs.YtbecgkejdacidaaGreatDoor
