/-
  The reference's log: the report of a line.
  Conditions: the text is of at most 4096 bytes; the library's variables hold what the program's text lays.
-/
import Derived.Test.YtpnpnajheaijaaaDoorLg8
import Derived.Test.YtpnpnajheaijaaaDoorRng
namespace Go.Proofs.YtpnpnajheaijaaaDoor
open Go Go.RowKit

/-- The pieces that are done behind q bytes; f: where the piece at hand begins. -/
structure Scan (S : List UInt8) (q f : Nat) (D : List (List UInt8)) : Prop where
  le : f ≤ q
  low : q ≤ S.length → pieces S = D ++ pieces (S.drop f) ∧ 32 ∉ (S.drop f).take (q - f)
  high : q = S.length + 1 → D = pieces S
  first : f = 0 ↔ D = []

theorem Scan.start (S : List UInt8) : Scan S 0 0 [] := ⟨Nat.le_refl _, fun _ => ⟨by simp, by simp⟩, fun h => by omega, by simp⟩

theorem drop_take_succ {S : List UInt8} {f q : Nat} {b : UInt8} (hf : f ≤ q) (hb : S[q]? = some b) : (S.drop f).take (q + 1 - f) = (S.drop f).take (q - f) ++ [b] := by
  rw [show q + 1 - f = (q - f) + 1 by omega, List.take_add_one, List.getElem?_drop, show f + (q - f) = q by omega, hb]
  rfl

theorem Scan.go {S : List UInt8} {q f : Nat} {D : List (List UInt8)} (h : Scan S q f D) {b : UInt8} (hb : S[q]? = some b) (hn : b ≠ 32) : Scan S (q + 1) f D := by
  have hq := (List.getElem?_eq_some_iff.1 hb).1
  obtain ⟨h1, h2⟩ := h.low (by omega)
  refine ⟨Nat.le_succ_of_le h.le, fun _ => ⟨h1, ?_⟩, fun he => by omega, h.first⟩
  rw [drop_take_succ h.le hb]
  intro hm
  rcases List.mem_append.1 hm with h3 | h3
  · exact h2 h3
  · exact hn (List.mem_singleton.1 h3).symm

theorem Scan.cut {S : List UInt8} {q f : Nat} {D : List (List UInt8)} (h : Scan S q f D) (hq : q ≤ S.length) (hb : ∀ b, S[q]? = some b → b = 32) : Scan S (q + 1) (q + 1) (D ++ [(S.drop f).take (q - f)]) := by
  obtain ⟨h1, h2⟩ := h.low hq
  have hle := h.le
  refine ⟨Nat.le_refl _, fun hq1 => ⟨?_, by simp⟩, fun he => ?_, by simp⟩
  · obtain ⟨b, hb1⟩ : ∃ b, S[q]? = some b := ⟨S[q]'(by omega), List.getElem?_eq_getElem _⟩
    have hb2 := hb b hb1
    subst hb2
    rw [h1, List.append_assoc]
    congr 1
    have hd : S.drop f = (S.drop f).take (q - f) ++ 32 :: S.drop (q + 1) := by
      conv => lhs; rw [← List.take_append_drop (q - f) (S.drop f)]
      rw [List.drop_drop, show f + (q - f) = q by omega]
      congr 1
      rw [List.drop_eq_getElem_cons (by omega)]
      have := (List.getElem?_eq_some_iff.1 hb1).2
      rw [this]
    conv => lhs; rw [hd]
    rw [pieces_append _ h2]
    rfl
  · have hqn : q = S.length := by omega
    have ht : (S.drop f).take (q - f) = S.drop f := List.take_of_length_le (by rw [List.length_drop]; omega)
    rw [ht] at h2 ⊢
    rw [h1, pieces_one h2]

theorem Scan.nums {S : List UInt8} {q f : Nat} {D : List (List UInt8)} (h : Scan S q f D) (x : List UInt8) : (D ++ [x]).tail.map atoiVal = if f = 0 then D.tail.map atoiVal else D.tail.map atoiVal ++ [atoiVal x] := by
  by_cases hf : f = 0
  · rw [if_pos hf, h.first.1 hf]
    rfl
  · rw [if_neg hf]
    cases D with
    | nil => exact absurd (h.first.2 rfl) hf
    | cons y D => simp

/-- What has been read behind q bytes. -/
def At (S : List UInt8) (q f : Nat) (N : List Int) : Prop := ∃ D, Scan S q f D ∧ N = D.tail.map atoiVal ∧ D.length ≤ q

theorem At.start (S : List UInt8) : At S 0 0 [] := ⟨[], Scan.start S, rfl, Nat.le_refl _⟩
theorem At.le {S : List UInt8} {q f : Nat} {N : List Int} (h : At S q f N) : f ≤ q := by obtain ⟨D, h, -⟩ := h; exact h.le
theorem At.len {S : List UInt8} {q f : Nat} {N : List Int} (h : At S q f N) : N.length ≤ q := by
  obtain ⟨D, -, rfl, h⟩ := h
  rw [List.length_map, List.length_tail]
  omega
theorem At.go {S : List UInt8} {q f : Nat} {N : List Int} (h : At S q f N) {b : UInt8} (hb : S[q]? = some b) (hn : b ≠ 32) : At S (q + 1) f N := by
  obtain ⟨D, h, h1, h2⟩ := h
  exact ⟨D, h.go hb hn, h1, by omega⟩
theorem At.cut0 {S : List UInt8} {q : Nat} {N : List Int} (h : At S q 0 N) (hq : q ≤ S.length) (hb : ∀ b, S[q]? = some b → b = 32) : At S (q + 1) (q + 1) N := by
  obtain ⟨D, h, h1, h2⟩ := h
  have hc := h.cut hq hb
  refine ⟨_, hc, ?_, by simp; omega⟩
  rw [h.nums, if_pos rfl, h1]
theorem At.cut {S : List UInt8} {q f : Nat} {N : List Int} (h : At S q f N) (hf : 0 < f) (hq : q ≤ S.length) (hb : ∀ b, S[q]? = some b → b = 32) : At S (q + 1) (q + 1) (N ++ [atoiVal ((S.drop f).take (q - f))]) := by
  obtain ⟨D, h, h1, h2⟩ := h
  have hc := h.cut hq hb
  refine ⟨_, hc, ?_, by simp; omega⟩
  rw [h.nums, if_neg (by omega), h1]
theorem At.ok {S : List UInt8} {q f : Nat} {N : List Int} (h : At S q f N) : ∀ v ∈ N, I64 v := by
  obtain ⟨D, -, rfl, -⟩ := h
  intro v hv
  obtain ⟨x, -, rfl⟩ := List.mem_map.1 hv
  exact atoiVal_bound x
theorem At.done {S : List UInt8} {f : Nat} {N : List Int} (h : At S (S.length + 1) f N) : readF S = if N.length = 21 ∧ line N = S then some N else none := by
  obtain ⟨D, h, rfl, -⟩ := h
  have := h.high rfl
  subst this
  rw [readF_ref]
  obtain ⟨p, ps, hp⟩ := pieces_cons S
  rw [hp]
  simp

theorem extract_list (s : ByteArray) (f q : Nat) : (s.extract f q).data.toList = (s.data.toList.drop f).take (q - f) := by
  rw [ByteArray.data_extract, Array.toList_extract]

theorem range6 {w : World} {g o : Nat} {x0 x1 x2 x3 x4 x5 : Int} (h0 : w.cell? ⟨g, o, none⟩ = some (.int .i64 x0)) (h1 : w.cell? ⟨g, o + 1, none⟩ = some (.int .i64 x1)) (h2 : w.cell? ⟨g, o + 2, none⟩ = some (.int .i64 x2))
    (h3 : w.cell? ⟨g, o + 3, none⟩ = some (.int .i64 x3)) (h4 : w.cell? ⟨g, o + 4, none⟩ = some (.int .i64 x4)) (h5 : w.cell? ⟨g, o + 5, none⟩ = some (.int .i64 x5)) :
    w.rangeAt g o [.int .i64 x0, .int .i64 x1, .int .i64 x2, .int .i64 x3, .int .i64 x4, .int .i64 x5] := fun j v hv => by
  match j, hv with
  | 0, hv => cases hv; exact h0
  | 1, hv => cases hv; exact h1
  | 2, hv => cases hv; exact h2
  | 3, hv => cases hv; exact h3
  | 4, hv => cases hv; exact h4
  | 5, hv => cases hv; exact h5

theorem keep_drew {w : World} {a : Addr} {v : Value} (h : w.cell? a = some v) : w.drew.cell? a = some v := h
theorem keep_alloc {w : World} {a : Addr} {v : Value} {o : Obj} (h : w.cell? a = some v) : (w.alloc o).cell? a = some v := by
  rw [World.cell?_alloc_lt _ _ _ (World.block_lt_of_cell? w a h)]; exact h
theorem keep_set {w : World} {p a : Addr} {v u : Value} (hn : ¬ p.block = a.block) (h : w.cell? a = some v) : (w.setCell p u).cell? a = some v := by
  rw [World.cell?_setCell_far _ _ _ _ hn]; exact h

theorem range_low {w : World} {g : Nat} {x0 x1 x2 x3 x4 x5 x6 x7 x8 x9 x10 x11 x12 x13 x14 x15 x16 x17 x18 x19 x20 : Int} (h : w.rangeAt g 0 [.int .i64 x0, .int .i64 x1, .int .i64 x2, .int .i64 x3, .int .i64 x4, .int .i64 x5, .int .i64 x6, .int .i64 x7, .int .i64 x8, .int .i64 x9, .int .i64 x10, .int .i64 x11, .int .i64 x12, .int .i64 x13, .int .i64 x14, .int .i64 x15, .int .i64 x16, .int .i64 x17, .int .i64 x18, .int .i64 x19, .int .i64 x20]) : w.rangeAt g 0 [.int .i64 x0, .int .i64 x1, .int .i64 x2, .int .i64 x3, .int .i64 x4, .int .i64 x5] := range6 (h 0 _ rfl) (h 1 _ rfl) (h 2 _ rfl) (h 3 _ rfl) (h 4 _ rfl) (h 5 _ rfl)
theorem range_mid {w : World} {g : Nat} {x0 x1 x2 x3 x4 x5 x6 x7 x8 x9 x10 x11 x12 x13 x14 x15 x16 x17 x18 x19 x20 : Int} (h : w.rangeAt g 0 [.int .i64 x0, .int .i64 x1, .int .i64 x2, .int .i64 x3, .int .i64 x4, .int .i64 x5, .int .i64 x6, .int .i64 x7, .int .i64 x8, .int .i64 x9, .int .i64 x10, .int .i64 x11, .int .i64 x12, .int .i64 x13, .int .i64 x14, .int .i64 x15, .int .i64 x16, .int .i64 x17, .int .i64 x18, .int .i64 x19, .int .i64 x20]) : w.rangeAt g 6 [.int .i64 x6, .int .i64 x7, .int .i64 x8, .int .i64 x9, .int .i64 x10, .int .i64 x11] := by
  have f : ∀ k x, [.int .i64 x0, .int .i64 x1, .int .i64 x2, .int .i64 x3, .int .i64 x4, .int .i64 x5, .int .i64 x6, .int .i64 x7, .int .i64 x8, .int .i64 x9, .int .i64 x10, .int .i64 x11, .int .i64 x12, .int .i64 x13, .int .i64 x14, .int .i64 x15, .int .i64 x16, .int .i64 x17, .int .i64 x18, .int .i64 x19, .int .i64 x20][k]? = some x → w.cell? ⟨g, k, none⟩ = some x := fun k x hx => by have := h k x hx; rwa [Nat.zero_add] at this
  exact range6 (f 6 _ rfl) (f 7 _ rfl) (f 8 _ rfl) (f 9 _ rfl) (f 10 _ rfl) (f 11 _ rfl)

theorem wp_region_listed {P : Program} {ops : Array Oper} {Q : Exit → Act → World → Prop} {S : World → Prop} {id : Nat} {a : Act} {w : World} (k : Nat) (L : List Bool) (hk : ops.size = k) (hL : (Array.replicate k false).toList = L) (hm : P.follows .mixedOrders = true)
    (h : wpAnyH P .any ops Q S k L.toArray a w.drew) : (Code.region id ops true).wp P Q a w := by
  subst hk
  subst hL
  exact wp_region_held hm h

/-- Many cells stored into an owned block. -/
theorem wp_store_turn {P : Program} {op : Oper} {a : Act} {W w0 : World} {K : Act → World → Prop} {Q : Exit → Act → World → Prop} (ty : TypeId) (x y : Operand) (ho : op.op = .store ty x y)
    (b : Nat) (r : List Int) (hx : a.eval x = .pointer (some ⟨b, 0, none⟩)) (hy : a.eval y = .agg (i64s r).toArray) {z : Array Value} {R B : List Blk} (hz : z.size = r.length)
    (T : Turn [] w0 ((b, .cells z ty) :: (R ++ B)) W) (hi : (P.info? ty).map (·.size) = some (i64s r).toArray.size) {g : Nat} {vs : List Value} (hg : g ≠ b) (hr : W.rangeAt g 0 vs)
    (h : ∀ W', W'.rangeAt g 0 vs → Turn [] w0 ((b, .cells (i64s r).toArray ty) :: B) W' → K (a.put op.dst undef) W') : op.wp P a W K Q := by
  have hl : (i64s r).length = z.size := by rw [i64s_length, hz]
  refine wp_store_mid ty x y ho b 0 (i64s r).toArray hx hy (T.has.there (List.mem_cons_self ..) 0 _ (by rw [List.size_toArray, hl]; omega)) hi (i64s_oneCell r) (h _ (World.rangeAt_setCells_apart hr _ _ _ (.inl hg)) ?_)
  have T1 := T.setCells (i64s r) 0
  rw [laidOver_all _ _ hl] at T1
  exact (T1.perm (l2 := R ++ ((b, .cells (i64s r).toArray ty) :: B)) (perm_of fun c => by simp; omega)).drop

theorem toList_data (s : ByteArray) : s.toList = s.data.toList := by
  rcases s with ⟨⟨l⟩⟩
  simp
theorem bytes_beq (a b : ByteArray) : (a == b) = (a.data == b.data) := by cases a; cases b; rfl
theorem keepr_drew {w : World} {g o : Nat} {cs : List Value} (h : w.rangeAt g o cs) : w.drew.rangeAt g o cs := h
theorem keepr_set {w : World} {p : Addr} {g o : Nat} {u : Value} {cs : List Value} (hn : ¬ p.block = g) (h : w.rangeAt g o cs) : (w.setCell p u).rangeAt g o cs := fun j v hv => keep_set hn (h j v hv)

/-- The loop's state. -/
def Loop (S : List UInt8) (w0 : World) (X : List Blk) (v4 v5 v6 : Value) (wr : World) : Prop :=
  ∃ (q f : Nat) (N : List Int) (a : Option Addr) (p : Nat) (lr : List Blk), q ≤ S.length + 1 ∧ v6 = .int .i64 q ∧ v5 = .int .i64 f ∧ v4 = .slice a N.length p ∧ At S q f N ∧
    Row 3 1 a N.length p (i64s N) lr ∧ Turn [] w0 (lr ++ X) wr

set_option maxRecDepth 100000 in
set_option maxHeartbeats 12800000 in
theorem rread_any {L : List Blk} {w0 w : World} (hE : Env w0) (T : Turn [] w0 L w) (s : ByteArray) (hs : s.size ≤ 4096) :
    Calls Tryd.prog 9 #[.string s] w (ReadPost w0 L (readF s.data.toList)) := by
  have hsl : s.data.toList.length = s.size := Array.length_toList
  go_enter Tryd.func9, Tryd.ntmps9
  go_wp2_with fail
  have hT1 : Turn [] w0 ((w.heap.size, .cells (i64s zeros).toArray 25) :: L) (w.alloc (.cells (i64s zeros).toArray 25)) := T.alloc _
  generalize hX : ((w.heap.size, Obj.cells (i64s zeros).toArray 25 (0, 0)) :: L) = X at hT1
  have HT1 := Lib.hid hT1
  have HX := Lib.hid hX
  clear hT1 hX T
  go_loopw [4, 5, 6] (fun v4 v5 v6 wr => Loop s.data.toList w0 X v4 v5 v6 wr) (fun _ _ v6 _ => s.size + 2 - (intOf v6).toNat)
  case atStart => exact ⟨0, 0, [], none, 0, [], by omega, rfl, rfl, rfl, At.start _, Row.nil _ _, HT1.out⟩
  case round =>
    clear HT1
    obtain ⟨q, f, N, a, p, lr, hq, rfl, rfl, rfl, hat, hrow, V⟩ := hrel
    rw [hsl] at hq
    have hfq := hat.le
    have hNq := hat.len
    have Hat := Lib.hid hat
    clear hat
    by_cases hend : q < s.size
    · have hend' : (q : Int) ≤ (s.size : Int) := by omega
      have hend2 : (q : Int) < (s.size : Int) := by omega
      have hb : s.data.toList[q]? = some s[q] := by
        rw [Array.getElem?_toList]
        exact Array.getElem?_eq_getElem hend
      have Hb := Lib.hid hb
      clear hb
      by_cases h32 : s[q] = 32
      · have hbe : ((s[q].toNat : Int) != 32) = false := by rw [h32]; rfl
        have hcut : ∀ b, s.data.toList[q]? = some b → b = 32 := fun b hb => by rw [Hb.out] at hb; cases hb; exact h32
        have Hcut := Lib.hid hcut
        clear hcut h32
        by_cases hf : 0 < f
        · obtain ⟨v, hv⟩ : ∃ v, v = atoiVal (s.extract f q).data.toList := ⟨_, rfl⟩
          have hao : Calls Tryd.prog 23 #[.string (s.extract f q)] wr fun e w' => ∃ er, e = .returned (.tuple #[.int .i64 v, er]) ∧ Turn [] w0 (lr ++ X) w' := (atoi_any hE V (s.extract f q) (by rw [ByteArray.size_extract]; omega)).mono fun e w' ⟨er, h1, _, h2⟩ => ⟨er, by rw [hv]; exact h1, h2⟩
          have Hv := Lib.hid hv
          have Hao := Lib.hid hao
          have h63 : N.length + 1 ≤ maxLen := by unfold maxLen; omega
          clear hao hv
          go_wp2_with (first
            | (go_at_call 23; refine Hao.out.mono ?_; rintro e w2 ⟨er, rfl, V2⟩)
            | (at_builtin; refine wpList_append_row rfl _ _ rfl el_ints rfl hrow (R := (w2.heap.size, .cells #[.int .i64 v] 3) :: X) ((V2.alloc _).perm (perm_of fun c => by simp; omega)).has rfl (news := [.int .i64 v]) rfl (news_of (heap_alloc_new _ _)) (by simp [Value.oneCell']) h63 (by omega) ?_; intro a4 p4 l4 w4 hr4 V4 hno; have V5 := ((V2.alloc (.cells #[.int .i64 v] 3)).perm (l2 := lr ++ ((w2.heap.size, .cells #[.int .i64 v] 3) :: X)) (perm_of fun c => by simp; omega)).trans V4)
            | fail)
          go_roundw
          case rel =>
            have hc := Hat.out.cut hf (by omega) Hcut.out
            rw [← extract_list, ← Hv.out] at hc
            refine ⟨q + 1, q + 1, _, a4, p4, l4, by omega, by go_num, by go_num, by simp, hc, by simpa [i64s] using hr4, (V5.perm (l2 := (w2.heap.size, .cells #[.int .i64 v] 3) :: (l4 ++ X)) (perm_of fun c => by simp; omega)).tail⟩
          case measure => simp [intOf]; omega
        · have hf0 : f = 0 := by omega
          subst hf0
          go_wp2_with fail
          go_roundw
          case rel => exact ⟨q + 1, q + 1, N, a, p, lr, by omega, by go_num, by go_num, rfl, Hat.out.cut0 (by omega) Hcut.out, hrow, V⟩
          case measure => simp [intOf]; omega
      · have hbe : ((s[q].toNat : Int) != 32) = true := by
          rw [bne_iff_ne]
          intro he
          exact h32 (UInt8.toNat_inj.1 (by show s[q].toNat = 32; omega))
        have H32 := Lib.hid h32
        clear h32
        go_wp2_with fail
        go_roundw
        case rel => exact ⟨q + 1, f, N, a, p, lr, by omega, by go_num, rfl, rfl, Hat.out.go Hb.out H32.out, hrow, V⟩
        case measure => simp [intOf]; omega
    · by_cases hend3 : q = s.size
      · subst hend3
        have hcut : ∀ b, s.data.toList[s.size]? = some b → b = 32 := fun b hb => by
          rw [List.getElem?_eq_none (by omega)] at hb
          cases hb
        have Hcut := Lib.hid hcut
        clear hcut
        by_cases hf : 0 < f
        · obtain ⟨v, hv⟩ : ∃ v, v = atoiVal (s.extract f s.size).data.toList := ⟨_, rfl⟩
          have hao : Calls Tryd.prog 23 #[.string (s.extract f s.size)] wr fun e w' => ∃ er, e = .returned (.tuple #[.int .i64 v, er]) ∧ Turn [] w0 (lr ++ X) w' := (atoi_any hE V (s.extract f s.size) (by rw [ByteArray.size_extract]; omega)).mono fun e w' ⟨er, h1, _, h2⟩ => ⟨er, by rw [hv]; exact h1, h2⟩
          have Hv := Lib.hid hv
          have Hao := Lib.hid hao
          have h63 : N.length + 1 ≤ maxLen := by unfold maxLen; omega
          clear hao hv
          go_wp2_with (first
            | (go_at_call 23; refine Hao.out.mono ?_; rintro e w2 ⟨er, rfl, V2⟩)
            | (at_builtin; refine wpList_append_row rfl _ _ rfl el_ints rfl hrow (R := (w2.heap.size, .cells #[.int .i64 v] 3) :: X) ((V2.alloc _).perm (perm_of fun c => by simp; omega)).has rfl (news := [.int .i64 v]) rfl (news_of (heap_alloc_new _ _)) (by simp [Value.oneCell']) h63 (by omega) ?_; intro a4 p4 l4 w4 hr4 V4 hno; have V5 := ((V2.alloc (.cells #[.int .i64 v] 3)).perm (l2 := lr ++ ((w2.heap.size, .cells #[.int .i64 v] 3) :: X)) (perm_of fun c => by simp; omega)).trans V4)
            | fail)
          go_roundw
          case rel =>
            have hc := Hat.out.cut hf (by omega) Hcut.out
            rw [← extract_list, ← Hv.out] at hc
            refine ⟨s.size + 1, s.size + 1, _, a4, p4, l4, by omega, by go_num, by go_num, by simp, hc, by simpa [i64s] using hr4, (V5.perm (l2 := (w2.heap.size, .cells #[.int .i64 v] 3) :: (l4 ++ X)) (perm_of fun c => by simp; omega)).tail⟩
          case measure => simp [intOf]
        · have hf0 : f = 0 := by omega
          subst hf0
          go_wp2_with fail
          go_roundw
          case rel => exact ⟨s.size + 1, s.size + 1, N, a, p, lr, by omega, by go_num, by go_num, rfl, Hat.out.cut0 (by omega) Hcut.out, hrow, V⟩
          case measure => simp [intOf]
      · have hqe : q = s.size + 1 := by omega
        subst hqe
        have hdone : readF s.data.toList = if N.length = 21 ∧ line N = s.data.toList then some N else none := by
          have := Hat.out
          rw [← hsl] at this
          exact this.done
        have Hdone := Lib.hid hdone
        have hok := Hat.out.ok
        clear hdone Hat hfq hNq hend hend3 hq
        by_cases h21 : N.length = 21
        · have hrok : RepOk N := ⟨h21, hok⟩
          obtain ⟨g, cur, rfl, hlr, hcap⟩ := hrow.some_of (by omega)
          obtain ⟨x0, x1, x2, x3, x4, x5, x6, x7, x8, x9, x10, x11, x12, x13, x14, x15, x16, x17, x18, x19, x20, hN⟩ := hrok.split
          have hrN : wr.rangeAt g 0 [.int .i64 x0, .int .i64 x1, .int .i64 x2, .int .i64 x3, .int .i64 x4, .int .i64 x5, .int .i64 x6, .int .i64 x7, .int .i64 x8, .int .i64 x9, .int .i64 x10, .int .i64 x11, .int .i64 x12, .int .i64 x13, .int .i64 x14, .int .i64 x15, .int .i64 x16, .int .i64 x17, .int .i64 x18, .int .i64 x19, .int .i64 x20] := fun j v hv => by
            have hj : j < 21 := (List.getElem?_eq_some_iff.1 hv).1
            rw [Nat.zero_add]
            exact (hrow.cell V.has j (by omega)).trans (by rw [hN]; exact hv)
          have HrN := Lib.hid hrN
          have c0 := hrN 0 _ rfl
          have hg : g < wr.heap.size := World.block_lt_of_cell? wr _ c0
          have hp : 21 ≤ p := by have := hrow.2.1; omega
          have hp6n : 6 ≤ p := by omega
          have hp12n : 12 ≤ p := by omega
          have hpm6 : 6 ≤ p - 6 := by omega
          have hp6ne : ¬ p = 6 := by omega
          have hp6 : (6 : Int) ≤ (p : Int) := by omega
          have hp12 : (12 : Int) ≤ (p : Int) := by omega
          have HV := Lib.hid V
          have HN := Lib.hid hN
          have Hrok := Lib.hid hrok
          have Hrow := Lib.hid hrow
          rw [h21]
          clear V hN hrok hrow hcap hlr hok c0 hrN
          go_upto_region 13 with fail
          go_cut [9] (fun v9 wd => ∃ g9, v9 = .pointer (some ⟨g9, 0, none⟩) ∧ Turn [] w0 ((g9, .cells (i64s N).toArray 25) :: (lr ++ X)) wd)
          case first =>
            obtain ⟨R1, hR1⟩ : ∃ R, R = ([(wr.heap.size, Obj.cells #[.int .i64 x0, .int .i64 x1, .int .i64 x2, .int .i64 x3, .int .i64 x4, .int .i64 x5] 23), (wr.heap.size + 1, Obj.cells #[.int .i64 x6, .int .i64 x7, .int .i64 x8, .int .i64 x9, .int .i64 x10, .int .i64 x11] 23)] : List Blk) := ⟨_, rfl⟩
            have hE1 : Turn [] w0 ((wr.heap.size + 1 + 1, .cells (i64s zeros).toArray 25) :: (R1 ++ (lr ++ X))) (((wr.alloc (Obj.cells #[.int .i64 x0, .int .i64 x1, .int .i64 x2, .int .i64 x3, .int .i64 x4, .int .i64 x5] 23)).alloc (Obj.cells #[.int .i64 x6, .int .i64 x7, .int .i64 x8, .int .i64 x9, .int .i64 x10, .int .i64 x11] 23)).alloc (Obj.cells (i64s zeros).toArray 25)) := by
              have h := (((HV.out.alloc (Obj.cells #[.int .i64 x0, .int .i64 x1, .int .i64 x2, .int .i64 x3, .int .i64 x4, .int .i64 x5] 23)).alloc (Obj.cells #[.int .i64 x6, .int .i64 x7, .int .i64 x8, .int .i64 x9, .int .i64 x10, .int .i64 x11] 23)).alloc (Obj.cells (i64s zeros).toArray 25))
              simp only [World.size_alloc] at h
              rw [hR1]
              generalize (i64s zeros).toArray = Z at h ⊢
              exact h.perm (perm_of fun c => by simp; omega)
            have E1 := Lib.hid hE1
            clear hE1 hR1
            obtain ⟨R2, hR2⟩ : ∃ R, R = ([(wr.heap.size, Obj.cells #[.int .i64 x0, .int .i64 x1, .int .i64 x2, .int .i64 x3, .int .i64 x4, .int .i64 x5] 23), (wr.heap.size + 1 + 1, Obj.cells #[.int .i64 x6, .int .i64 x7, .int .i64 x8, .int .i64 x9, .int .i64 x10, .int .i64 x11] 23)] : List Blk) := ⟨_, rfl⟩
            have hE2 : Turn [] w0 ((wr.heap.size + 1, .cells (i64s zeros).toArray 25) :: (R2 ++ (lr ++ X))) (((wr.alloc (Obj.cells #[.int .i64 x0, .int .i64 x1, .int .i64 x2, .int .i64 x3, .int .i64 x4, .int .i64 x5] 23)).alloc (Obj.cells (i64s zeros).toArray 25)).alloc (Obj.cells #[.int .i64 x6, .int .i64 x7, .int .i64 x8, .int .i64 x9, .int .i64 x10, .int .i64 x11] 23)) := by
              have h := (((HV.out.alloc (Obj.cells #[.int .i64 x0, .int .i64 x1, .int .i64 x2, .int .i64 x3, .int .i64 x4, .int .i64 x5] 23)).alloc (Obj.cells (i64s zeros).toArray 25)).alloc (Obj.cells #[.int .i64 x6, .int .i64 x7, .int .i64 x8, .int .i64 x9, .int .i64 x10, .int .i64 x11] 23))
              simp only [World.size_alloc] at h
              rw [hR2]
              generalize (i64s zeros).toArray = Z at h ⊢
              exact h.perm (perm_of fun c => by simp; omega)
            have E2 := Lib.hid hE2
            clear hE2 hR2
            obtain ⟨R3, hR3⟩ : ∃ R, R = ([(wr.heap.size + 1, Obj.cells #[.int .i64 x0, .int .i64 x1, .int .i64 x2, .int .i64 x3, .int .i64 x4, .int .i64 x5] 23), (wr.heap.size + 1 + 1, Obj.cells #[.int .i64 x6, .int .i64 x7, .int .i64 x8, .int .i64 x9, .int .i64 x10, .int .i64 x11] 23)] : List Blk) := ⟨_, rfl⟩
            have hE3 : Turn [] w0 ((wr.heap.size, .cells (i64s zeros).toArray 25) :: (R3 ++ (lr ++ X))) (((wr.alloc (Obj.cells (i64s zeros).toArray 25)).alloc (Obj.cells #[.int .i64 x0, .int .i64 x1, .int .i64 x2, .int .i64 x3, .int .i64 x4, .int .i64 x5] 23)).alloc (Obj.cells #[.int .i64 x6, .int .i64 x7, .int .i64 x8, .int .i64 x9, .int .i64 x10, .int .i64 x11] 23)) := by
              have h := (((HV.out.alloc (Obj.cells (i64s zeros).toArray 25)).alloc (Obj.cells #[.int .i64 x0, .int .i64 x1, .int .i64 x2, .int .i64 x3, .int .i64 x4, .int .i64 x5] 23)).alloc (Obj.cells #[.int .i64 x6, .int .i64 x7, .int .i64 x8, .int .i64 x9, .int .i64 x10, .int .i64 x11] 23))
              simp only [World.size_alloc] at h
              rw [hR3]
              generalize (i64s zeros).toArray = Z at h ⊢
              exact h.perm (perm_of fun c => by simp; omega)
            have E3 := Lib.hid hE3
            clear hE3 hR3
            refine wp_region_noPanic ?_
            have HS0 := HrN.out
            have HS0 := Lib.hid (keepr_drew HS0)
            refine wp_region_listed (S := fun w' => w'.rangeAt g 0 [.int .i64 x0, .int .i64 x1, .int .i64 x2, .int .i64 x3, .int .i64 x4, .int .i64 x5, .int .i64 x6, .int .i64 x7, .int .i64 x8, .int .i64 x9, .int .i64 x10, .int .i64 x11, .int .i64 x12, .int .i64 x13, .int .i64 x14, .int .i64 x15, .int .i64 x16, .int .i64 x17, .int .i64 x18, .int .i64 x19, .int .i64 x20]) 36 [false, false, false, false, false, false, false, false, false, false, false, false, false, false, false, false, false, false, false, false, false, false, false, false, false, false, false, false, false, false, false, false, false, false, false, false] rfl rfl (by kernel_rfl) ?_
            refine takeH 0 46 rfl rfl rfl (by kernel_rfl) (by kernel_rfl) (by kernel_rfl) (fun _ _ _ _ h => h) HS0.out (by (intro w hSw; clear hSw; go_simp; try rfl)) ?_
            simp only [List.set_cons_zero, List.set_cons_succ]
            refine takeH 3 49 rfl rfl rfl (by kernel_rfl) (by kernel_rfl) (by kernel_rfl) (fun _ _ _ _ h => h) HS0.out (by (intro w hSw; clear hSw; go_simp; try rfl)) ?_
            simp only [List.set_cons_zero, List.set_cons_succ]
            refine takeH 6 52 rfl rfl rfl (by kernel_rfl) (by kernel_rfl) (by kernel_rfl) (fun _ _ _ _ h => h) HS0.out (by (intro w hSw; clear hSw; go_simp; try rfl)) ?_
            simp only [List.set_cons_zero, List.set_cons_succ]
            refine takeH 7 53 rfl rfl rfl (by kernel_rfl) (by kernel_rfl) (by kernel_rfl) (fun _ _ _ _ h => h) HS0.out (by (intro w hSw; clear hSw; go_simp; try rfl)) ?_
            simp only [List.set_cons_zero, List.set_cons_succ]
            refine takeH 8 54 rfl rfl rfl (by kernel_rfl) (by kernel_rfl) (by kernel_rfl) (fun _ _ _ _ h => h) HS0.out (by (intro w hSw; have hSc : w.cell? ⟨g, 12, none⟩ = some (.int .i64 x12) := (by have h := hSw 12 _ rfl; rwa [Nat.zero_add] at h); clear hSw; go_simp; try rfl)) ?_
            simp only [List.set_cons_zero, List.set_cons_succ]
            refine takeH 9 55 rfl rfl rfl (by kernel_rfl) (by kernel_rfl) (by kernel_rfl) (fun _ _ _ _ h => h) HS0.out (by (intro w hSw; clear hSw; go_simp; try rfl)) ?_
            simp only [List.set_cons_zero, List.set_cons_succ]
            refine takeH 10 56 rfl rfl rfl (by kernel_rfl) (by kernel_rfl) (by kernel_rfl) (fun _ _ _ _ h => h) HS0.out (by (intro w hSw; clear hSw; go_simp; try rfl)) ?_
            simp only [List.set_cons_zero, List.set_cons_succ]
            refine takeH 11 57 rfl rfl rfl (by kernel_rfl) (by kernel_rfl) (by kernel_rfl) (fun _ _ _ _ h => h) HS0.out (by (intro w hSw; have hSc : w.cell? ⟨g, 13, none⟩ = some (.int .i64 x13) := (by have h := hSw 13 _ rfl; rwa [Nat.zero_add] at h); clear hSw; go_simp; try rfl)) ?_
            simp only [List.set_cons_zero, List.set_cons_succ]
            refine takeH 12 58 rfl rfl rfl (by kernel_rfl) (by kernel_rfl) (by kernel_rfl) (fun _ _ _ _ h => h) HS0.out (by (intro w hSw; clear hSw; go_simp; try rfl)) ?_
            simp only [List.set_cons_zero, List.set_cons_succ]
            refine takeH 13 59 rfl rfl rfl (by kernel_rfl) (by kernel_rfl) (by kernel_rfl) (fun _ _ _ _ h => h) HS0.out (by (intro w hSw; clear hSw; go_simp; try rfl)) ?_
            simp only [List.set_cons_zero, List.set_cons_succ]
            refine takeH 14 60 rfl rfl rfl (by kernel_rfl) (by kernel_rfl) (by kernel_rfl) (fun _ _ _ _ h => h) HS0.out (by (intro w hSw; have hSc : w.cell? ⟨g, 14, none⟩ = some (.int .i64 x14) := (by have h := hSw 14 _ rfl; rwa [Nat.zero_add] at h); clear hSw; go_simp; try rfl)) ?_
            simp only [List.set_cons_zero, List.set_cons_succ]
            refine takeH 15 61 rfl rfl rfl (by kernel_rfl) (by kernel_rfl) (by kernel_rfl) (fun _ _ _ _ h => h) HS0.out (by (intro w hSw; clear hSw; go_simp; try rfl)) ?_
            simp only [List.set_cons_zero, List.set_cons_succ]
            refine takeH 16 62 rfl rfl rfl (by kernel_rfl) (by kernel_rfl) (by kernel_rfl) (fun _ _ _ _ h => h) HS0.out (by (intro w hSw; clear hSw; go_simp; try rfl)) ?_
            simp only [List.set_cons_zero, List.set_cons_succ]
            refine takeH 17 63 rfl rfl rfl (by kernel_rfl) (by kernel_rfl) (by kernel_rfl) (fun _ _ _ _ h => h) HS0.out (by (intro w hSw; have hSc : w.cell? ⟨g, 15, none⟩ = some (.int .i64 x15) := (by have h := hSw 15 _ rfl; rwa [Nat.zero_add] at h); clear hSw; go_simp; try rfl)) ?_
            simp only [List.set_cons_zero, List.set_cons_succ]
            refine takeH 18 64 rfl rfl rfl (by kernel_rfl) (by kernel_rfl) (by kernel_rfl) (fun _ _ _ _ h => h) HS0.out (by (intro w hSw; clear hSw; go_simp; try rfl)) ?_
            simp only [List.set_cons_zero, List.set_cons_succ]
            refine takeH 19 65 rfl rfl rfl (by kernel_rfl) (by kernel_rfl) (by kernel_rfl) (fun _ _ _ _ h => h) HS0.out (by (intro w hSw; clear hSw; go_simp; try rfl)) ?_
            simp only [List.set_cons_zero, List.set_cons_succ]
            refine takeH 20 66 rfl rfl rfl (by kernel_rfl) (by kernel_rfl) (by kernel_rfl) (fun _ _ _ _ h => h) HS0.out (by (intro w hSw; have hSc : w.cell? ⟨g, 16, none⟩ = some (.int .i64 x16) := (by have h := hSw 16 _ rfl; rwa [Nat.zero_add] at h); clear hSw; go_simp; try rfl)) ?_
            simp only [List.set_cons_zero, List.set_cons_succ]
            refine takeH 21 67 rfl rfl rfl (by kernel_rfl) (by kernel_rfl) (by kernel_rfl) (fun _ _ _ _ h => h) HS0.out (by (intro w hSw; clear hSw; go_simp; try rfl)) ?_
            simp only [List.set_cons_zero, List.set_cons_succ]
            refine takeH 22 68 rfl rfl rfl (by kernel_rfl) (by kernel_rfl) (by kernel_rfl) (fun _ _ _ _ h => h) HS0.out (by (intro w hSw; clear hSw; go_simp; try rfl)) ?_
            simp only [List.set_cons_zero, List.set_cons_succ]
            refine takeH 23 69 rfl rfl rfl (by kernel_rfl) (by kernel_rfl) (by kernel_rfl) (fun _ _ _ _ h => h) HS0.out (by (intro w hSw; have hSc : w.cell? ⟨g, 17, none⟩ = some (.int .i64 x17) := (by have h := hSw 17 _ rfl; rwa [Nat.zero_add] at h); clear hSw; go_simp; try rfl)) ?_
            simp only [List.set_cons_zero, List.set_cons_succ]
            refine takeH 24 70 rfl rfl rfl (by kernel_rfl) (by kernel_rfl) (by kernel_rfl) (fun _ _ _ _ h => h) HS0.out (by (intro w hSw; clear hSw; go_simp; try rfl)) ?_
            simp only [List.set_cons_zero, List.set_cons_succ]
            refine takeH 25 71 rfl rfl rfl (by kernel_rfl) (by kernel_rfl) (by kernel_rfl) (fun _ _ _ _ h => h) HS0.out (by (intro w hSw; clear hSw; go_simp; try rfl)) ?_
            simp only [List.set_cons_zero, List.set_cons_succ]
            refine takeH 26 72 rfl rfl rfl (by kernel_rfl) (by kernel_rfl) (by kernel_rfl) (fun _ _ _ _ h => h) HS0.out (by (intro w hSw; have hSc : w.cell? ⟨g, 18, none⟩ = some (.int .i64 x18) := (by have h := hSw 18 _ rfl; rwa [Nat.zero_add] at h); clear hSw; go_simp; try rfl)) ?_
            simp only [List.set_cons_zero, List.set_cons_succ]
            refine takeH 27 73 rfl rfl rfl (by kernel_rfl) (by kernel_rfl) (by kernel_rfl) (fun _ _ _ _ h => h) HS0.out (by (intro w hSw; clear hSw; go_simp; try rfl)) ?_
            simp only [List.set_cons_zero, List.set_cons_succ]
            refine takeH 28 74 rfl rfl rfl (by kernel_rfl) (by kernel_rfl) (by kernel_rfl) (fun _ _ _ _ h => h) HS0.out (by (intro w hSw; clear hSw; go_simp; try rfl)) ?_
            simp only [List.set_cons_zero, List.set_cons_succ]
            refine takeH 29 75 rfl rfl rfl (by kernel_rfl) (by kernel_rfl) (by kernel_rfl) (fun _ _ _ _ h => h) HS0.out (by (intro w hSw; have hSc : w.cell? ⟨g, 19, none⟩ = some (.int .i64 x19) := (by have h := hSw 19 _ rfl; rwa [Nat.zero_add] at h); clear hSw; go_simp; try rfl)) ?_
            simp only [List.set_cons_zero, List.set_cons_succ]
            refine takeH 30 76 rfl rfl rfl (by kernel_rfl) (by kernel_rfl) (by kernel_rfl) (fun _ _ _ _ h => h) HS0.out (by (intro w hSw; clear hSw; go_simp; try rfl)) ?_
            simp only [List.set_cons_zero, List.set_cons_succ]
            refine takeH 31 77 rfl rfl rfl (by kernel_rfl) (by kernel_rfl) (by kernel_rfl) (fun _ _ _ _ h => h) HS0.out (by (intro w hSw; clear hSw; go_simp; try rfl)) ?_
            simp only [List.set_cons_zero, List.set_cons_succ]
            refine takeH 32 78 rfl rfl rfl (by kernel_rfl) (by kernel_rfl) (by kernel_rfl) (fun _ _ _ _ h => h) HS0.out (by (intro w hSw; have hSc : w.cell? ⟨g, 20, none⟩ = some (.int .i64 x20) := (by have h := hSw 20 _ rfl; rwa [Nat.zero_add] at h); clear hSw; go_simp; try rfl)) ?_
            simp only [List.set_cons_zero, List.set_cons_succ]
            refine takeH 1 47 rfl rfl rfl (by kernel_rfl) (by kernel_rfl) (by kernel_rfl) (fun _ _ _ _ h => h) HS0.out (by (intro w hSw; clear hSw; go_simp; try rfl)) ?_
            simp only [List.set_cons_zero, List.set_cons_succ]
            refine takeH 4 50 rfl rfl rfl (by kernel_rfl) (by kernel_rfl) (by kernel_rfl) (fun _ _ _ _ h => h) HS0.out (by (intro w hSw; clear hSw; go_simp; try rfl)) ?_
            simp only [List.set_cons_zero, List.set_cons_succ]
            refine wpAnyH_ready (rs := [2, 34]) (by kernel_rfl) (by simp) ?_
            refine AllReadyH.cons (i := 2) rfl (fun K hK => ?_) ?_
            · skip
              go_simp
              refine (back_eq _ g 0 _ hp6n x0 x1 x2 x3 x4 x5 (range_low (by repeat (first | exact HrN.out | apply keepr_drew | apply World.rangeAt_alloc)))).mono ?_
              rintro e w' ⟨rfl, rfl⟩
              refine hK.out _ _ (by repeat (first | exact HrN.out | apply keepr_drew | apply World.rangeAt_alloc)) fun _ => ?_
              clear hK K
              simp only [List.setIfInBounds_toArray, List.set_cons_zero, List.set_cons_succ]
              refine wpAnyH_ready (rs := [5, 34]) (by kernel_rfl) (by simp) ?_
              refine AllReadyH.cons (i := 5) rfl (fun K hK => ?_) ?_
              · skip
                go_simp
                refine (back_eq _ g 6 _ hpm6 x6 x7 x8 x9 x10 x11 (range_mid (by repeat (first | exact HrN.out | apply keepr_drew | apply World.rangeAt_alloc)))).mono ?_
                rintro e w' ⟨rfl, rfl⟩
                refine hK.out _ _ (by repeat (first | exact HrN.out | apply keepr_drew | apply World.rangeAt_alloc)) fun _ => ?_
                clear hK K
                simp only [List.setIfInBounds_toArray, List.set_cons_zero, List.set_cons_succ]
                refine takeH 33 79 rfl rfl rfl (by kernel_rfl) (by kernel_rfl) (by kernel_rfl) (fun _ _ _ _ h => h) (by repeat (first | exact HrN.out | apply keepr_drew | apply World.rangeAt_alloc)) (by (intro w hSw; clear hSw; go_simp; try rfl)) ?_
                simp only [List.set_cons_zero, List.set_cons_succ]
                refine wpAnyH_ready (rs := [34]) (by kernel_rfl) (by simp) ?_
                refine AllReadyH.cons (i := 34) rfl (fun K hK => ?_) ?_
                · skip
                  go_simp
                  refine hK.out _ _ (by repeat (first | exact HrN.out | apply keepr_drew | apply World.rangeAt_alloc)) fun _ => ?_
                  clear hK K
                  simp only [List.setIfInBounds_toArray, List.set_cons_zero, List.set_cons_succ]
                  refine wpAnyH_ready (rs := [35]) (by kernel_rfl) (by simp) ?_
                  refine AllReadyH.cons (i := 35) rfl (fun K hK => ?_) ?_
                  · skip
                    rw [if_pos (by rfl)]
                    refine wp_store_turn 25 _ _ rfl (wr.heap.size + 1 + 1) [x0, x1, x2, x3, x4, x5, x6, x7, x8, x9, x10, x11, x12, x13, x14, x15, x16, x17, x18, x19, x20] rfl rfl (R := R1) (B := lr ++ X) rfl (E1.out.drew.drew.drew) (rep_size rfl) (show g ≠ wr.heap.size + 1 + 1 by omega) (show World.rangeAt _ g 0 [.int .i64 x0, .int .i64 x1, .int .i64 x2, .int .i64 x3, .int .i64 x4, .int .i64 x5, .int .i64 x6, .int .i64 x7, .int .i64 x8, .int .i64 x9, .int .i64 x10, .int .i64 x11, .int .i64 x12, .int .i64 x13, .int .i64 x14, .int .i64 x15, .int .i64 x16, .int .i64 x17, .int .i64 x18, .int .i64 x19, .int .i64 x20] from (by repeat (first | exact HrN.out | apply keepr_drew | apply World.rangeAt_alloc))) (fun W' hr' hT' => ?_)
                    refine hK.out _ _ hr' fun _ => ?_
                    clear hK K hr'
                    refine wpAnyH_done (by kernel_rfl) ?_ _
                    refine NoPanic.normal ?_
                    rw [← HN.out] at hT'
                    go_wp2
                    go_meet
                    exact ⟨_, rfl, hT'⟩
                  · exact AllReadyH.nil
                · exact AllReadyH.nil
              refine AllReadyH.cons (i := 34) rfl (fun K hK => ?_) ?_
              · skip
                go_simp
                refine hK.out _ _ (by repeat (first | exact HrN.out | apply keepr_drew | apply World.rangeAt_alloc)) fun _ => ?_
                clear hK K
                simp only [List.setIfInBounds_toArray, List.set_cons_zero, List.set_cons_succ]
                refine wpAnyH_ready (rs := [5]) (by kernel_rfl) (by simp) ?_
                refine AllReadyH.cons (i := 5) rfl (fun K hK => ?_) ?_
                · skip
                  go_simp
                  refine (back_eq _ g 6 _ hpm6 x6 x7 x8 x9 x10 x11 (range_mid (by repeat (first | exact HrN.out | apply keepr_drew | apply World.rangeAt_alloc)))).mono ?_
                  rintro e w' ⟨rfl, rfl⟩
                  refine hK.out _ _ (by repeat (first | exact HrN.out | apply keepr_drew | apply World.rangeAt_alloc)) fun _ => ?_
                  clear hK K
                  simp only [List.setIfInBounds_toArray, List.set_cons_zero, List.set_cons_succ]
                  refine takeH 33 79 rfl rfl rfl (by kernel_rfl) (by kernel_rfl) (by kernel_rfl) (fun _ _ _ _ h => h) (by repeat (first | exact HrN.out | apply keepr_drew | apply World.rangeAt_alloc)) (by (intro w hSw; clear hSw; go_simp; try rfl)) ?_
                  simp only [List.set_cons_zero, List.set_cons_succ]
                  refine wpAnyH_ready (rs := [35]) (by kernel_rfl) (by simp) ?_
                  refine AllReadyH.cons (i := 35) rfl (fun K hK => ?_) ?_
                  · skip
                    rw [if_pos (by rfl)]
                    refine wp_store_turn 25 _ _ rfl (wr.heap.size + 1) [x0, x1, x2, x3, x4, x5, x6, x7, x8, x9, x10, x11, x12, x13, x14, x15, x16, x17, x18, x19, x20] rfl rfl (R := R2) (B := lr ++ X) rfl (E2.out.drew.drew.drew) (rep_size rfl) (show g ≠ wr.heap.size + 1 by omega) (show World.rangeAt _ g 0 [.int .i64 x0, .int .i64 x1, .int .i64 x2, .int .i64 x3, .int .i64 x4, .int .i64 x5, .int .i64 x6, .int .i64 x7, .int .i64 x8, .int .i64 x9, .int .i64 x10, .int .i64 x11, .int .i64 x12, .int .i64 x13, .int .i64 x14, .int .i64 x15, .int .i64 x16, .int .i64 x17, .int .i64 x18, .int .i64 x19, .int .i64 x20] from (by repeat (first | exact HrN.out | apply keepr_drew | apply World.rangeAt_alloc))) (fun W' hr' hT' => ?_)
                    refine hK.out _ _ hr' fun _ => ?_
                    clear hK K hr'
                    refine wpAnyH_done (by kernel_rfl) ?_ _
                    refine NoPanic.normal ?_
                    rw [← HN.out] at hT'
                    go_wp2
                    go_meet
                    exact ⟨_, rfl, hT'⟩
                  · exact AllReadyH.nil
                · exact AllReadyH.nil
              exact AllReadyH.nil
            refine AllReadyH.cons (i := 34) rfl (fun K hK => ?_) ?_
            · skip
              go_simp
              refine hK.out _ _ (by repeat (first | exact HrN.out | apply keepr_drew | apply World.rangeAt_alloc)) fun _ => ?_
              clear hK K
              simp only [List.setIfInBounds_toArray, List.set_cons_zero, List.set_cons_succ]
              refine wpAnyH_ready (rs := [2]) (by kernel_rfl) (by simp) ?_
              refine AllReadyH.cons (i := 2) rfl (fun K hK => ?_) ?_
              · skip
                go_simp
                refine (back_eq _ g 0 _ hp6n x0 x1 x2 x3 x4 x5 (range_low (by repeat (first | exact HrN.out | apply keepr_drew | apply World.rangeAt_alloc)))).mono ?_
                rintro e w' ⟨rfl, rfl⟩
                refine hK.out _ _ (by repeat (first | exact HrN.out | apply keepr_drew | apply World.rangeAt_alloc)) fun _ => ?_
                clear hK K
                simp only [List.setIfInBounds_toArray, List.set_cons_zero, List.set_cons_succ]
                refine wpAnyH_ready (rs := [5]) (by kernel_rfl) (by simp) ?_
                refine AllReadyH.cons (i := 5) rfl (fun K hK => ?_) ?_
                · skip
                  go_simp
                  refine (back_eq _ g 6 _ hpm6 x6 x7 x8 x9 x10 x11 (range_mid (by repeat (first | exact HrN.out | apply keepr_drew | apply World.rangeAt_alloc)))).mono ?_
                  rintro e w' ⟨rfl, rfl⟩
                  refine hK.out _ _ (by repeat (first | exact HrN.out | apply keepr_drew | apply World.rangeAt_alloc)) fun _ => ?_
                  clear hK K
                  simp only [List.setIfInBounds_toArray, List.set_cons_zero, List.set_cons_succ]
                  refine takeH 33 79 rfl rfl rfl (by kernel_rfl) (by kernel_rfl) (by kernel_rfl) (fun _ _ _ _ h => h) (by repeat (first | exact HrN.out | apply keepr_drew | apply World.rangeAt_alloc)) (by (intro w hSw; clear hSw; go_simp; try rfl)) ?_
                  simp only [List.set_cons_zero, List.set_cons_succ]
                  refine wpAnyH_ready (rs := [35]) (by kernel_rfl) (by simp) ?_
                  refine AllReadyH.cons (i := 35) rfl (fun K hK => ?_) ?_
                  · skip
                    rw [if_pos (by rfl)]
                    refine wp_store_turn 25 _ _ rfl (wr.heap.size) [x0, x1, x2, x3, x4, x5, x6, x7, x8, x9, x10, x11, x12, x13, x14, x15, x16, x17, x18, x19, x20] rfl rfl (R := R3) (B := lr ++ X) rfl (E3.out.drew.drew.drew) (rep_size rfl) (show g ≠ wr.heap.size by omega) (show World.rangeAt _ g 0 [.int .i64 x0, .int .i64 x1, .int .i64 x2, .int .i64 x3, .int .i64 x4, .int .i64 x5, .int .i64 x6, .int .i64 x7, .int .i64 x8, .int .i64 x9, .int .i64 x10, .int .i64 x11, .int .i64 x12, .int .i64 x13, .int .i64 x14, .int .i64 x15, .int .i64 x16, .int .i64 x17, .int .i64 x18, .int .i64 x19, .int .i64 x20] from (by repeat (first | exact HrN.out | apply keepr_drew | apply World.rangeAt_alloc))) (fun W' hr' hT' => ?_)
                    refine hK.out _ _ hr' fun _ => ?_
                    clear hK K hr'
                    refine wpAnyH_done (by kernel_rfl) ?_ _
                    refine NoPanic.normal ?_
                    rw [← HN.out] at hT'
                    go_wp2
                    go_meet
                    exact ⟨_, rfl, hT'⟩
                  · exact AllReadyH.nil
                · exact AllReadyH.nil
              · exact AllReadyH.nil
            exact AllReadyH.nil
          case rest =>
            obtain ⟨g9, rfl, T9⟩ := hcut
            have hlN := Hrok.out.len
            have hrgA : ∀ W', Turn [] w0 ((g9, .cells (i64s N).toArray 25) :: (lr ++ X)) W' → W'.rangeAt g9 0 (i64s N) := fun W' T' => T'.has.range (b := g9) (c := (i64s N).toArray) (e := 25) (f := (0, 0)) (List.mem_cons_self ..)
            have hthA : ∀ W', Turn [] w0 ((g9, .cells (i64s N).toArray 25) :: (lr ++ X)) W' → W'.there w.heap.size 0 21 := fun W' T' => by
              have hx := HX.out
              subst hx
              exact T'.has.there (b := w.heap.size) (c := (i64s zeros).toArray) (e := 25) (by simp) 0 21 (by decide)
            have HrgA := Lib.hid hrgA
            have HthA := Lib.hid hthA
            have hrg := hrgA wc T9
            have hszm := rep_size (n := (i64s N).length) (by rw [i64s_length]; exact hlN)
            have hszm2 := rep_size (n := (i64s N).toArray.size) (by rw [List.size_toArray, i64s_length]; exact hlN)
            have e21 : (i64s N).toArray.size = 21 := by rw [List.size_toArray, i64s_length, hlN]
            have hsz21 := rep_size (n := 21) rfl
            have E21 := Lib.hid e21
            have hln := rline_any hE T9 N Hrok.out
            unfold repVal at hln
            have Hln := Lib.hid hln
            have hres : readF s.data.toList = if (⟨(line N).toArray⟩ : ByteArray) = s then some N else none := by
              rw [Hdone.out]
              by_cases hls : (⟨(line N).toArray⟩ : ByteArray) = s
              · rw [if_pos hls, if_pos ⟨h21, by rw [← hls]⟩]
              · rw [if_neg hls, if_neg (fun h => hls (by rw [h.2, ← bytes_eq]))]
            have Hres := Lib.hid hres
            clear hln T9 HrN hres e21 hrgA hthA
            by_cases hls : (⟨(line N).toArray⟩ : ByteArray) = s
            · have hb1 : ((⟨(line N).toArray⟩ : ByteArray) == s) = true := by rw [bytes_beq, beq_iff_eq]; exact congrArg ByteArray.data hls
              have hb2 : ((⟨(line N).toArray⟩ : ByteArray) != s) = false := by show (!(_ == _)) = false; rw [hb1]; rfl
              have hb3 : (line N == s.toList) = true := by rw [beq_iff_eq, toList_data, ← hls]
              have Hls := Lib.hid hls
              clear hls
              go_wp2_with (first
                | (refine wpList_load_mid rfl 25 _ rfl _ 0 rfl (i64s N) _ hrg Tryd.underlying25 rfl hszm ?_)
                | (go_at_call 11; refine Hln.out.mono ?_; rintro e w5 ⟨rfl, V5⟩; have hrg5 := HrgA.out w5 V5; have hth5 := HthA.out w5 V5; rw [← E21.out] at hth5; have HV5 := Lib.hid V5; clear V5)
                | (refine wpList_load_mid rfl 25 _ rfl _ 0 rfl (i64s N) _ hrg5 Tryd.underlying25 rfl hszm ?_)
                | (refine wpList_store_mid rfl 25 _ _ rfl _ 0 (i64s N).toArray rfl rfl hth5 hszm2 (i64s_oneCell N) ?_)
                | fail)
              have V0 := HV5.out
              rw [← HX.out] at V0
              have T4 := (V0.perm (l2 := (w.heap.size, .cells (i64s zeros).toArray 25) :: ((g9, .cells (i64s N).toArray 25) :: (lr ++ L))) (by generalize (i64s zeros).toArray = Z; generalize (i64s N).toArray = Y; exact perm_of fun c => by simp; omega)).setCells (i64s N) 0
              rw [laidOver_all _ _ (by rw [i64s_length, hlN]; rfl)] at T4
              refine bodyPost_ret (results_two Tryd.results9 _ _ _ (i64s N) _ rfl (T4.has.range (List.mem_cons_self ..)) Tryd.underlying25 rfl hszm) rfl ?_
              rw [Hres.out, if_pos Hls.out]
              refine ⟨rfl, ?_⟩
              generalize (i64s N).toArray = Y at T4
              exact (T4.perm (l2 := ([(w.heap.size, .cells Y 25)] ++ ((g9, .cells Y 25) :: lr)) ++ L) (perm_of fun c => by simp)).drop
            · have hb1 : ((⟨(line N).toArray⟩ : ByteArray) == s) = false := by rw [bytes_beq, beq_eq_false_iff_ne]; exact fun h => hls (ByteArray.ext h)
              have hb2 : ((⟨(line N).toArray⟩ : ByteArray) != s) = true := by show (!(_ == _)) = true; rw [hb1]; rfl
              have hb3 : (line N == s.toList) = false := by rw [beq_eq_false_iff_ne, toList_data]; exact fun h => hls (by rw [h, ← bytes_eq])
              have Hls := Lib.hid hls
              clear hls
              go_wp2_with (first
                | (refine wpList_load_mid rfl 25 _ rfl _ 0 rfl (i64s N) _ hrg Tryd.underlying25 rfl hszm ?_)
                | (go_at_call 11; refine Hln.out.mono ?_; rintro e w5 ⟨rfl, V5⟩; have hth5 := HthA.out w5 V5; have HV5 := Lib.hid V5; clear V5)
                | (refine wpList_store_mid rfl 25 _ _ rfl _ 0 (i64s zeros).toArray rfl rfl hth5 hsz21 (i64s_oneCell zeros) ?_)
                | fail)
              have V0 := HV5.out
              rw [← HX.out] at V0
              have T4 := (V0.perm (l2 := (w.heap.size, .cells (i64s zeros).toArray 25) :: ((g9, .cells (i64s N).toArray 25) :: (lr ++ L))) (by generalize (i64s zeros).toArray = Z; generalize (i64s N).toArray = Y; exact perm_of fun c => by simp; omega)).setCells (i64s zeros) 0
              rw [laidOver_all _ _ (by simp)] at T4
              refine bodyPost_ret (results_two Tryd.results9 _ _ _ (i64s zeros) _ rfl (T4.has.range (List.mem_cons_self ..)) Tryd.underlying25 rfl (rep_size rfl)) rfl ?_
              rw [Hres.out, if_neg Hls.out]
              refine ⟨rfl, ?_⟩
              generalize (i64s zeros).toArray = Z at T4
              generalize (i64s N).toArray = Y at T4
              exact (T4.perm (l2 := ([(w.heap.size, .cells Z 25)] ++ ((g9, .cells Y 25) :: lr)) ++ L) (perm_of fun c => by simp)).drop
        · have hne : ((N.length : Int) != 21) = true := by rw [bne_iff_ne]; omega
          have hnone : readF s.data.toList = none := by rw [Hdone.out, if_neg (fun h => h21 h.1)]
          have HNone := Lib.hid hnone
          have hth : wr.there w.heap.size 0 21 := by
            have := HX.out
            subst this
            exact V.has.there (b := w.heap.size) (c := (i64s zeros).toArray) (e := 25) (by simp) 0 21 (by decide)
          have hsz21 := rep_size (n := 21) rfl
          have HV := Lib.hid V
          clear hnone h21 V hrow
          go_wp2_with (refine wpList_store_mid rfl 25 _ _ rfl _ 0 (i64s zeros).toArray rfl rfl hth hsz21 (i64s_oneCell zeros) ?_)
          have V0 := HV.out
          rw [← HX.out] at V0
          have T4 := (V0.perm (l2 := (w.heap.size, .cells (i64s zeros).toArray 25) :: (lr ++ L)) (by generalize (i64s zeros).toArray = Z; exact perm_of fun c => by simp; omega)).setCells (i64s zeros) 0
          rw [laidOver_all _ _ (by simp)] at T4
          refine bodyPost_ret (results_two Tryd.results9 _ _ _ (i64s zeros) _ rfl (T4.has.range (List.mem_cons_self ..)) Tryd.underlying25 rfl (rep_size rfl)) rfl ?_
          rw [HNone.out]
          refine ⟨rfl, ?_⟩
          generalize (i64s zeros).toArray = Z at T4
          exact (T4.perm (l2 := ([(w.heap.size, .cells Z 25)] ++ lr) ++ L) (perm_of fun c => by simp)).drop
end Go.Proofs.YtpnpnajheaijaaaDoor
