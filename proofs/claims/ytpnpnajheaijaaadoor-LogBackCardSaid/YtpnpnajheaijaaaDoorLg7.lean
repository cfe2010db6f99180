/-
  The log: the report of a line.
  Conditions: the text is of at most 4096 bytes; the library's variables hold what the program's text lays.
-/
import Derived.Test.YtpnpnajheaijaaaDoorLg6
import Derived.Test.YtpnpnajheaijaaaDoorKit3
namespace Go.Proofs.YtpnpnajheaijaaaDoor
open Go Go.RowKit

def zeros : List Int := [0, 0, 0, 0, 0, 0, 0, 0, 0, 0, 0, 0, 0, 0, 0, 0, 0, 0, 0, 0, 0]

theorem results_two {P : Program} {fn : Func} {p q : Tmp} {ty : TypeId} (h : fn.results = #[.cell p ty, .tmp q]) (tmps : Array Value) (w : World) (b : Nat) (cs : List Value) (d : TypeDesc)
    (hp : tmps.getD p undef = .pointer (some ⟨b, 0, none⟩)) (hc : w.rangeAt b 0 cs) (hu : P.underlying ty = some d) (hd : d.isRow = true) (hi : (P.info? ty).map (·.size) = some cs.length) :
    (results fn tmps).run P w = .ok (.tuple #[.agg cs.toArray, tmps.getD q undef]) w := by
  have hp' : tmps[p]?.getD undef = .pointer (some ⟨b, 0, none⟩) := by simpa using hp
  simp [results, h, hp', asAddr, run_loadVar_mid w b 0 ty cs d hc hu hd hi]

/-- The report behind k words that were read. -/
def filled (ws : List (List UInt8)) (k : Nat) : List Int := (ws.take k).map atoiVal ++ List.replicate (21 - k) 0
theorem filled_zero (ws : List (List UInt8)) : filled ws 0 = zeros := by simp [filled]; rfl
theorem filled_length {ws : List (List UInt8)} (h : ws.length = 21) (k : Nat) (hk : k ≤ 21) : (filled ws k).length = 21 := by simp [filled]; omega
theorem filled_all {ws : List (List UInt8)} (h : ws.length = 21) : filled ws 21 = ws.map atoiVal := by
  unfold filled
  rw [List.take_of_length_le (by omega)]
  simp
theorem filled_set {ws : List (List UInt8)} (h : ws.length = 21) {k : Nat} {x : List UInt8} (hx : ws[k]? = some x) : (filled ws k).set k (atoiVal x) = filled ws (k + 1) := by
  have hk : k < 21 := by have := (List.getElem?_eq_some_iff.1 hx).1; omega
  unfold filled
  have hl : ((ws.take k).map atoiVal).length = k := by simp; omega
  rw [List.set_append_right _ _ (by omega), hl, Nat.sub_self, show 21 - k = (21 - (k + 1)) + 1 by omega, List.replicate_succ, List.set_cons_zero, List.take_add_one, hx, List.map_append]
  simp

theorem i64s_set (r : List Int) (k : Nat) (v : Int) : i64s (r.set k v) = (i64s r).set k (.int .i64 v) := by simp [i64s, List.map_set]
theorem i64s_oneCell (r : List Int) : (i64s r).toArray.all (·.oneCell') = true := all_oneCell_toArray fun v hv => by
  obtain ⟨x, -, rfl⟩ := List.mem_map.1 hv
  rfl

/-- What Read hands back. -/
def ReadPost (w0 : World) (L : List Blk) (o : Option (List Int)) (e : Ending) (w' : World) : Prop :=
  e = .returned (.tuple #[repVal (o.getD zeros), .int .i64 (if o.isSome then 0 else 7)]) ∧ Turn [] w0 L w'

set_option maxRecDepth 100000 in
set_option maxHeartbeats 3200000 in
theorem read_any {L : List Blk} {w0 w : World} (hE : Env w0) (T : Turn [] w0 L w) (s : ByteArray) (hs : s.size ≤ 4096) :
    Calls Tryd.prog 8 #[.string s] w (ReadPost w0 L (readF s.data.toList)) := by
  go_enter Tryd.func8, Tryd.ntmps8
  go_upto_region 4 with (first
    | (go_at_call 21; refine (split_any hE ((T.alloc _).alloc _) s hs).mono ?_; rintro e w1 ⟨g5, rfl, r5, T1⟩)
    | (go_at_call 22; refine (numbers_any _ T1.has _).mono ?_; rintro e w2 ⟨g6, c6, l6, rfl, r6, U⟩; have T2 := T1.trans U; clear U))
  obtain ⟨p0, ws, hps⟩ := pieces_cons s.data.toList
  have hread : readF s.data.toList = if p0 = gc ∧ ws.length = 21 ∧ (∀ x ∈ ws, Lib.itoa (atoiVal x) = x) then some (ws.map atoiVal) else none := by
    unfold readF
    rw [hps]
    by_cases h : p0 = gc ∧ ws.length = 21 ∧ (∀ x ∈ ws, Lib.itoa (atoiVal x) = x)
    · rw [if_pos h, if_pos (by simpa using h)]
      rfl
    · rw [if_neg h, if_neg (by simpa using h)]
  have hlen : ∀ x ∈ ws, x.length ≤ 4096 := by
    intro x hx
    have hj := join_pieces s.data.toList
    rw [hps] at hj
    have h1 : x.length ≤ (Lib.join (p0 :: ws) [32]).length := by
      rw [Lib.join_length]
      have : ∀ (l : List (List UInt8)), x ∈ l → x.length ≤ Lib.lens l := by
        intro l
        induction l with
        | nil => intro h; cases h
        | cons y l ih =>
          intro h
          simp only [Lib.lens, List.map_cons, List.sum_cons]
          rcases List.mem_cons.1 h with rfl | h
          · omega
          · have := ih h
            simp only [Lib.lens] at this
            omega
      have := this (p0 :: ws) (List.mem_cons_of_mem _ hx)
      omega
    rw [hj] at h1
    have : s.data.toList.length = s.size := Array.length_toList
    omega
  rw [hps] at r5
  have T3 : Turn [] w0 ([(w.heap.size, .cells (i64s zeros).toArray 25)] ++ ((w.heap.size + 1, .cells (i64s zeros).toArray 25) :: ([(g5, .cells (strs (p0 :: ws)).toArray 9)] ++ (l6 ++ L)))) w2 := by
    rw [hps] at T2
    simp only [World.size_alloc] at T2
    replace T2 : Turn [] w0 (l6 ++ ((g5, .cells (strs (p0 :: ws)).toArray 9) :: (w.heap.size + 1, .cells (i64s zeros).toArray 25) :: (w.heap.size, .cells (i64s zeros).toArray 25) :: L)) w2 := T2
    generalize (i64s zeros).toArray = Z at T2 ⊢
    refine T2.perm (perm_of fun c => ?_)
    simp only [wt_append, wt_cons, wt_nil]
    omega
  have HRead := Lib.hid hread
  rw [hps]
  have Hlen := Lib.hid hlen
  have HT3 := Lib.hid T3
  have H5 := Lib.hid r5
  have H6 := Lib.hid r6
  have hth := T3.has.there (b := w.heap.size) (c := (i64s zeros).toArray) (e := 25) (by simp) 0 21 (by decide)
  have hc5 := r5.cell (T3.has.perm (l' := [(g5, .cells (strs (p0 :: ws)).toArray 9)] ++ ([(w.heap.size, .cells (i64s zeros).toArray 25)] ++ ((w.heap.size + 1, .cells (i64s zeros).toArray 25) :: (l6 ++ L)))) (perm_of fun c => by simp; omega)) 0 (by simp)
  have hc50 : w2.cell? ⟨g5, 0, none⟩ = some (.string ⟨p0.toArray⟩) := hc5
  have hsz21 := rep_size (n := 21) rfl
  have hpost7 : ∀ W', Turn [] w0 ([(w.heap.size, .cells (i64s zeros).toArray 25)] ++ ((w.heap.size + 1, .cells (i64s zeros).toArray 25) :: ([(g5, .cells (strs (p0 :: ws)).toArray 9)] ++ (l6 ++ L)))) W' → True := fun _ _ => trivial
  clear T2 hps hread hlen r5 r6 T T1 hc5 hpost7
  have hlw : (strs (p0 :: ws)).length = ws.length + 1 := by simp [strs]
  by_cases hp0 : p0 = gc
  · have he : (p0 == [103, 99]) = true := beq_iff_eq.2 hp0
    by_cases hwl : ws.length = 21
    · have hpl : (p0 :: ws).length = 22 := by simp [hwl]
      have Hwl := Lib.hid hwl
      have Hp0 := Lib.hid hp0
      have hinit : Turn [] w0 ([(w.heap.size, .cells (i64s zeros).toArray 25)] ++ ((w.heap.size + 1, .cells (i64s (filled ws 0)).toArray 25) :: ([(g5, .cells (strs (p0 :: ws)).toArray 9)] ++ (l6 ++ L)))) w2 := by rw [filled_zero]; exact HT3.out
      have Hinit := Lib.hid hinit
      rw [hpl] at H5 ⊢
      clear hpl hwl hp0 hth T3 hlw hinit HT3
      go_wp2_with fail
      clear hc50
      go_loopw [30] (fun v30 wr => ∃ k : Nat, k ≤ 21 ∧ v30 = .int .i64 k ∧ (∀ x ∈ ws.take k, Lib.itoa (atoiVal x) = x) ∧ Turn [] w0 ([(w.heap.size, .cells (i64s zeros).toArray 25)] ++ ((w.heap.size + 1, .cells (i64s (filled ws k)).toArray 25) :: ([(g5, .cells (strs (p0 :: ws)).toArray 9)] ++ (l6 ++ L)))) wr) (fun v30 _ => 21 - (intOf v30).toNat)
      case atStart => exact ⟨0, Nat.zero_le _, rfl, (fun x hx => by simp at hx), Hinit.out⟩
      case round =>
        clear Hinit
        obtain ⟨k, hk, rfl, hgood, V⟩ := hrel
        have Hgood := Lib.hid hgood
        clear hgood
        by_cases hlt : k < 21
        · have hlt' : (k : Int) < 21 := by omega
          obtain ⟨x, hx⟩ : ∃ x, ws[k]? = some x := ⟨ws[k]'(by rw [Hwl.out]; exact hlt), List.getElem?_eq_getElem _⟩
          have hcx := (H5.out.cell (V.has.perm (l' := [(g5, .cells (strs (p0 :: ws)).toArray 9)] ++ ([(w.heap.size, .cells (i64s zeros).toArray 25)] ++ ((w.heap.size + 1, .cells (i64s (filled ws k)).toArray 25) :: (l6 ++ L)))) (by generalize (i64s zeros).toArray = Z; generalize (i64s (filled ws k)).toArray = Y; exact perm_of fun c => by simp; omega)) (k + 1) (by omega)).trans (show (strs (p0 :: ws))[k + 1]? = some (.string ⟨x.toArray⟩) by simp [strs, hx])
          have hcx2 : wr.cell? ⟨g5, 1 + k, none⟩ = some (.string ⟨x.toArray⟩) := by rw [Nat.add_comm]; exact hcx
          have hxl := Hlen.out x (List.mem_of_getElem? hx)
          have hxs : (⟨x.toArray⟩ : ByteArray).size ≤ 4096 := by simp [ByteArray.size]; exact hxl
          have hat := atoi_any hE V ⟨x.toArray⟩ hxs
          rw [show (⟨x.toArray⟩ : ByteArray).data.toList = x from rfl] at hat
          have Hat := Lib.hid hat
          have HV := Lib.hid V
          have Hx := Lib.hid hx
          clear hat V hx hxl hxs
          go_wp2_with fail
          refine Hat.out.mono ?_
          rintro e w3 ⟨er, rfl, hcase, V3⟩
          have HV3 := Lib.hid V3
          have hnoneOf : Lib.itoa (atoiVal x) ≠ x → readF s.data.toList = none := fun hb => by
            rw [HRead.out]
            exact if_neg (fun h => hb (h.2.2 x (List.mem_of_getElem? Hx.out)))
          have HnoneOf := Lib.hid hnoneOf
          clear hnoneOf V3
          rcases hcase with ⟨⟨v, hv⟩, rfl⟩ | ⟨hno, t, p, rfl⟩
          · have hit := itoa_any hE HV3.out (atoiVal x) (atoiVal_bound x)
            have Hit := Lib.hid hit
            clear hit
            by_cases hg : Lib.itoa (atoiVal x) = x
            · have hb : (Lib.itoa (atoiVal x) == x) = true := beq_iff_eq.2 hg
              have Hg := Lib.hid hg
              clear hg hv
              go_wp2_with fail
              refine Hit.out.mono ?_
              rintro e w4 ⟨rfl, V4⟩
              have hc6 := (H6.out.cell (V4.has.perm (l' := l6 ++ ([(w.heap.size, .cells (i64s zeros).toArray 25)] ++ ((w.heap.size + 1, .cells (i64s (filled ws k)).toArray 25) :: ([(g5, .cells (strs (p0 :: ws)).toArray 9)] ++ L)))) (by generalize (i64s zeros).toArray = Z; generalize (i64s (filled ws k)).toArray = Y; exact perm_of fun c => by simp; omega)) k (by omega)).trans (ptrs_at (w.heap.size + 1) 0 21 k hlt)
              rw [Nat.zero_add] at hc6
              have hin : (w.heap.size + 1, Obj.cells (i64s (filled ws k)).toArray 25 (0, 0)) ∈ [(w.heap.size, Obj.cells (i64s zeros).toArray 25 (0, 0))] ++ ((w.heap.size + 1, Obj.cells (i64s (filled ws k)).toArray 25 (0, 0)) :: ([(g5, Obj.cells (strs (p0 :: ws)).toArray 9 (0, 0))] ++ (l6 ++ L))) := List.mem_append.2 (.inr (List.mem_cons_self ..))
              obtain ⟨u, hu⟩ : ∃ u, (filled ws k)[k]? = some u := ⟨(filled ws k)[k]'(by rw [filled_length Hwl.out k hk]; exact hlt), List.getElem?_eq_getElem _⟩
              have hcu : w4.cell? ⟨w.heap.size + 1, k, none⟩ = some (.int .i64 u) := by rw [V4.has.cell hin k, List.getElem?_toArray]; exact i64s_at hu
              have hfu := V4.has.free hin k
              have HV4 := Lib.hid V4
              clear V4 hin hu
              go_wp2_with fail
              go_roundw
              case rel =>
                refine ⟨k + 1, by omega, by go_num, fun y hy => ?_, ?_⟩
                · rw [List.take_add_one, Hx.out] at hy
                  rcases List.mem_append.1 hy with h | h
                  · exact Hgood.out y h
                  · have : y = x := by simpa using h
                    rw [this]; exact Hg.out
                · have V5 := (HV4.out.perm (l2 := (w.heap.size + 1, .cells (i64s (filled ws k)).toArray 25) :: ([(w.heap.size, .cells (i64s zeros).toArray 25)] ++ ([(g5, .cells (strs (p0 :: ws)).toArray 9)] ++ (l6 ++ L)))) (by generalize (i64s zeros).toArray = Z; generalize (i64s (filled ws k)).toArray = Y; exact perm_of fun c => by simp; omega)).setCell k (.int .i64 (atoiVal x))
                  rw [List.setIfInBounds_toArray, ← i64s_set, filled_set Hwl.out Hx.out] at V5
                  exact V5.perm (by generalize (i64s zeros).toArray = Z; generalize (i64s (filled ws (k + 1))).toArray = Y; exact perm_of fun c => by simp; omega)
              case measure => simp [intOf]; omega
            · have hb : (Lib.itoa (atoiVal x) == x) = false := beq_eq_false_iff_ne.2 hg
              have HNone := Lib.hid (HnoneOf.out hg)
              clear hg hv
              go_wp2_with fail
              refine Hit.out.mono ?_
              rintro e w4 ⟨rfl, V4⟩
              have hth := V4.has.there (b := w.heap.size) (c := (i64s zeros).toArray) (e := 25) (by simp) 0 21 (by decide)
              go_wp2_with (refine wpList_store_mid rfl 25 _ _ rfl _ 0 (i64s zeros).toArray rfl rfl hth hsz21 (i64s_oneCell zeros) ?_)
              have T4 := V4.setCells (i64s zeros) 0
              rw [laidOver_all _ _ (by simp)] at T4
              refine bodyPost_ret (results_two Tryd.results8 _ _ _ (i64s zeros) _ rfl (T4.has.range (List.mem_cons_self ..)) Tryd.underlying25 rfl (rep_size rfl)) rfl ?_
              rw [HNone.out]
              refine ⟨rfl, ?_⟩
              generalize (i64s zeros).toArray = Z at T4
              generalize (i64s (filled ws k)).toArray = Y at T4
              exact (T4.perm (l2 := ([(w.heap.size, .cells Z 25)] ++ ((w.heap.size + 1, .cells Y 25) :: ([(g5, .cells (strs (p0 :: ws)).toArray 9)] ++ l6))) ++ L) (perm_of fun c => by simp)).drop
          · have hbad : Lib.itoa (atoiVal x) ≠ x := fun hg => hno _ (by
              have := atoiAll_itoa (atoiVal x) (atoiVal_bound x)
              rw [hg] at this
              exact this)
            have HNone := Lib.hid (HnoneOf.out hbad)
            clear hbad hno
            have hth := HV3.out.has.there (b := w.heap.size) (c := (i64s zeros).toArray) (e := 25) (by simp) 0 21 (by decide)
            go_wp2_with (refine wpList_store_mid rfl 25 _ _ rfl _ 0 (i64s zeros).toArray rfl rfl hth hsz21 (i64s_oneCell zeros) ?_)
            have T4 := HV3.out.setCells (i64s zeros) 0
            rw [laidOver_all _ _ (by simp)] at T4
            refine bodyPost_ret (results_two Tryd.results8 _ _ _ (i64s zeros) _ rfl (T4.has.range (List.mem_cons_self ..)) Tryd.underlying25 rfl (rep_size rfl)) rfl ?_
            rw [HNone.out]
            refine ⟨rfl, ?_⟩
            generalize (i64s zeros).toArray = Z at T4
            generalize (i64s (filled ws k)).toArray = Y at T4
            exact (T4.perm (l2 := ([(w.heap.size, .cells Z 25)] ++ ((w.heap.size + 1, .cells Y 25) :: ([(g5, .cells (strs (p0 :: ws)).toArray 9)] ++ l6))) ++ L) (perm_of fun c => by simp)).drop
        · have hke : k = 21 := by omega
          subst hke
          have hfull : ws.take 21 = ws := List.take_of_length_le (by rw [Hwl.out]; exact Nat.le_refl _)
          have hsome : readF s.data.toList = some (ws.map atoiVal) := by
            rw [HRead.out]
            exact if_pos ⟨Hp0.out, Hwl.out, by rw [← hfull]; exact Hgood.out⟩
          have HSome := Lib.hid hsome
          rw [filled_all Hwl.out] at V
          have hml : (ws.map atoiVal).length = 21 := by rw [List.length_map, Hwl.out]
          have hth := V.has.there (b := w.heap.size) (c := (i64s zeros).toArray) (e := 25) (by simp) 0 21 (by decide)
          have hrg : wr.rangeAt (w.heap.size + 1) 0 (i64s (ws.map atoiVal)) := V.has.range (b := w.heap.size + 1) (c := (i64s (ws.map atoiVal)).toArray) (e := 25) (f := (0, 0)) (List.mem_append.2 (.inr (List.mem_cons_self ..)))
          have hszm := rep_size (n := (i64s (ws.map atoiVal)).length) (by rw [i64s_length]; exact hml)
          have hszm2 := rep_size (n := (i64s (ws.map atoiVal)).toArray.size) (by rw [List.size_toArray, i64s_length]; exact hml)
          have e21 : (i64s (ws.map atoiVal)).toArray.size = 21 := by rw [List.size_toArray, i64s_length, hml]
          have hth2 : wr.there w.heap.size 0 (i64s (ws.map atoiVal)).toArray.size := by rw [e21]; exact hth
          have HV := Lib.hid V
          clear hsome hfull hth V e21
          generalize hR : ws.map atoiVal = R at *
          go_wp2_with (first
            | (refine wpList_load_mid rfl 25 _ rfl _ 0 rfl (i64s R) _ hrg Tryd.underlying25 rfl hszm ?_)
            | (refine wpList_store_mid rfl 25 _ _ rfl _ 0 (i64s R).toArray rfl rfl hth2 hszm2 (i64s_oneCell R) ?_)
            | fail)
          have T4 := HV.out.setCells (i64s R) 0
          rw [laidOver_all _ _ (by rw [i64s_length, hml]; rfl)] at T4
          refine bodyPost_ret (results_two Tryd.results8 _ _ _ (i64s R) _ rfl (T4.has.range (List.mem_cons_self ..)) Tryd.underlying25 rfl hszm) rfl ?_
          rw [HSome.out]
          refine ⟨rfl, ?_⟩
          generalize (i64s R).toArray = Y at T4
          exact (T4.perm (l2 := ([(w.heap.size, .cells Y 25)] ++ ((w.heap.size + 1, .cells Y 25) :: ([(g5, .cells (strs (p0 :: ws)).toArray 9)] ++ l6))) ++ L) (perm_of fun c => by simp)).drop
    · have hwb : ((ws.length : Int) + 1 != 22) = true := by rw [bne_iff_ne]; omega
      have hnone : (if p0 = gc ∧ ws.length = 21 ∧ (∀ x ∈ ws, Lib.itoa (atoiVal x) = x) then some (ws.map atoiVal) else none) = none := if_neg (fun h => hwl h.2.1)
      rw [hnone] at HRead
      clear hwl hp0 hnone
      go_wp2_with (refine wpList_store_mid rfl 25 _ _ rfl _ 0 (i64s zeros).toArray rfl rfl hth hsz21 (i64s_oneCell zeros) ?_)
      have T4 := HT3.out.setCells (i64s zeros) 0
      rw [laidOver_all _ _ (by simp)] at T4
      refine bodyPost_ret (results_two Tryd.results8 _ _ _ (i64s zeros) _ rfl (T4.has.range (List.mem_cons_self ..)) Tryd.underlying25 rfl (rep_size rfl)) rfl ?_
      rw [HRead.out]
      refine ⟨rfl, ?_⟩
      generalize (i64s zeros).toArray = Z at T4
      exact (T4.perm (l2 := ([(w.heap.size, .cells Z 25)] ++ ((w.heap.size + 1, .cells Z 25) :: ([(g5, .cells (strs (p0 :: ws)).toArray 9)] ++ l6))) ++ L) (perm_of fun c => by simp)).drop
  · have hne : (p0 == [103, 99]) = false := by rw [beq_eq_false_iff_ne]; exact hp0
    have hnone : (if p0 = gc ∧ ws.length = 21 ∧ (∀ x ∈ ws, Lib.itoa (atoiVal x) = x) then some (ws.map atoiVal) else none) = none := if_neg (fun h => hp0 h.1)
    rw [hnone] at HRead
    clear hp0 hnone
    go_wp2_with (refine wpList_store_mid rfl 25 _ _ rfl _ 0 (i64s zeros).toArray rfl rfl hth hsz21 (i64s_oneCell zeros) ?_)
    have T4 := HT3.out.setCells (i64s zeros) 0
    rw [laidOver_all _ _ (by simp)] at T4
    refine bodyPost_ret (results_two Tryd.results8 _ _ _ (i64s zeros) _ rfl (T4.has.range (List.mem_cons_self ..)) Tryd.underlying25 rfl (rep_size rfl)) rfl ?_
    rw [HRead.out]
    refine ⟨rfl, ?_⟩
    generalize (i64s zeros).toArray = Z at T4
    exact (T4.perm (l2 := ([(w.heap.size, .cells Z 25)] ++ ((w.heap.size + 1, .cells Z 25) :: ([(g5, .cells (strs (p0 :: ws)).toArray 9)] ++ l6))) ++ L) (perm_of fun c => by simp)).drop
end Go.Proofs.YtpnpnajheaijaaaDoor
