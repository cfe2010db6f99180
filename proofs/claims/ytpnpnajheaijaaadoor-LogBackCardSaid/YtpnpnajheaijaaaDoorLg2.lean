/-
  The library's variables that the log's code reads, and that they stay; the library's contracts in the words of owned blocks.
  Conditions: the variables hold what the program's text lays.
-/
import Derived.Test.YtpnpnajheaijaaaDoorLg1
import Derived.Test.YtpnpnajheaijaaaDoorKit2
import Derived.Test.YtpnpnajheaijaaaDoorShelf
namespace Go.Proofs.YtpnpnajheaijaaaDoor
open Go Go.RowKit

/-- What the library's variables hold. -/
structure Env (w : World) : Prop where
  tab : Lib.TabIs Tryd.prog w "internal/strconv.uint64pow10" .u64 Lib.pow10Tab
  most : ∃ m : Int, w.cell? ⟨2, 0, none⟩ = some (.int .i64 m)
  syn : ∃ tp p, w.var? Tryd.prog "strconv.ErrSyntax" = some #[.iface tp p]
  rng : ∃ tp p, w.var? Tryd.prog "strconv.ErrRange" = some #[.iface tp p]

theorem var_of_block {P : Program} {w w' : World} {n : String} {cs : Array Value} (h : w.var? P n = some cs) (hk : ∀ b, b < w.heap.size → w'.heap[b]? = w.heap[b]?) : w'.var? P n = some cs := by
  unfold World.var? at h ⊢
  cases hg : P.globalNamed n with
  | none => rw [hg] at h; cases h
  | some g =>
    rw [hg] at h
    simp only [Option.bind_some] at h ⊢
    have hlt : g < w.heap.size := by
      apply Classical.byContradiction
      intro hn
      rw [Array.getElem?_eq_none (by omega)] at h
      cases h
    rw [hk g hlt]
    exact h

theorem Env.later {w w' : World} (h : Env w) (hk : ∀ b, b < w.heap.size → w'.heap[b]? = w.heap[b]?) : Env w' := by
  obtain ⟨h1, ⟨m, h2⟩, ⟨t1, p1, h3⟩, ⟨t2, p2, h4⟩⟩ := h
  exact ⟨var_of_block h1 hk, ⟨m, by rw [World.cell?_of_block (hk _ (World.block_lt_of_cell? w _ h2))]; exact h2⟩, ⟨t1, p1, var_of_block h3 hk⟩, ⟨t2, p2, var_of_block h4 hk⟩⟩

theorem Env.turn {w w' : World} {l : List Blk} (h : Env w) (T : Turn [] w l w') : Env w' := h.later fun b hb => T.same b hb (by simp)

theorem Turn.of_below {L : List Blk} {w w' : World} (hH : Has w L) (hB : Below w.heap.size w w') : Turn L w L w' :=
  ⟨hB.os, hB.tape, hB.output, hB.size, ⟨hH.nd, fun b o hm => (hB.block b (hH.lt (mem_keys.2 ⟨o, hm⟩))).trans (hH.own b o hm)⟩, fun _ hb => .inl hb, fun b hb _ => hB.block b hb⟩

theorem below_grow (w : World) (os : Array Obj) : Below w.heap.size w (Sort.grow w os) :=
  ⟨rfl, rfl, rfl, by show w.heap.size ≤ (w.heap ++ os).size; simp, fun k hk => by show (w.heap ++ os)[k]? = _; rw [Array.getElem?_append_left hk]⟩

/-- strconv.Itoa. -/
theorem itoa_any {L : List Blk} {w0 w : World} (hE : Env w0) (T : Turn [] w0 L w) (n : Int) (hn : I64 n) :
    Calls Tryd.prog 24 #[.int .i64 n] w fun e w' => e = .returned (.string ⟨(Lib.itoa n).toArray⟩) ∧ Turn [] w0 L w' :=
  (Tryd.strconv_Itoa n hn.1 hn.2 w (hE.turn T).tab).mono fun e w' ⟨he, k, os, hw⟩ => ⟨he, by
    subst hw
    have T1 := T.drewN k
    exact T1.trans (Turn.of_below T1.has (below_grow _ _))⟩

/-- strconv.Atoi: the number, and whether there is no error. -/
def AtoiPost (s : List UInt8) (w0 : World) (L : List Blk) (e : Ending) (w' : World) : Prop :=
  ∃ er, e = .returned (.tuple #[.int .i64 (atoiVal s), er]) ∧ ((∃ v, Lib.atoiAll s = .ok v) ∧ er = .nilIface ∨ (∀ v, Lib.atoiAll s ≠ .ok v) ∧ ∃ t p, er = .iface t p) ∧ Turn [] w0 L w'

theorem atoi_any {L : List Blk} {w0 w : World} (hE : Env w0) (T : Turn [] w0 L w) (s : ByteArray) (hs : s.size ≤ 4096) :
    Calls Tryd.prog 23 #[.string s] w (AtoiPost s.data.toList w0 L) := by
  have E := hE.turn T
  rcases h : Lib.atoiAll s.data.toList with v | _ | _
  · refine (Tryd.strconv_Atoi_ok s (by omega) v h w).mono ?_
    rintro e w' ⟨he, hw⟩
    have hv : atoiVal s.data.toList = v := by unfold atoiVal; rw [h]
    refine ⟨.nilIface, by rw [hv]; exact he, .inl ⟨⟨v, h⟩, rfl⟩, ?_⟩
    rcases hw with rfl | ⟨t, rfl⟩
    · exact T
    · exact T.trans (Turn.of_below T.has (Lib.bytesWorld_below _ _ _))
  · obtain ⟨tp, p, hp⟩ := E.syn
    refine (Tryd.strconv_Atoi_syntax_var s (by omega) ⟨(fun v hv => by rw [h] at hv; cases hv), (fun hv => by rw [h] at hv; cases hv)⟩ tp p w hp).mono ?_
    rintro e w' ⟨N, he, -, -, hB⟩
    have hv : atoiVal s.data.toList = 0 := by unfold atoiVal; rw [h]
    exact ⟨_, by rw [hv]; exact he, .inr ⟨(fun v hv => by rw [h] at hv; cases hv), _, _, rfl⟩, T.trans (Turn.of_below T.has hB)⟩
  · obtain ⟨tp, p, hp⟩ := E.rng
    refine (Tryd.strconv_Atoi_range_var s (by omega) h tp p w hp).mono ?_
    rintro e w' ⟨N, he, -, -, hB⟩
    have hv : atoiVal s.data.toList = Lib.atoiSat s.data.toList := by unfold atoiVal; rw [h]
    exact ⟨_, by rw [hv]; exact he, .inr ⟨(fun v hv => by rw [h] at hv; cases hv), _, _, rfl⟩, T.trans (Turn.of_below T.has hB)⟩

/-- Texts as values. -/
def strs (xs : List (List UInt8)) : List Value := xs.map fun x => Value.string ⟨x.toArray⟩
theorem strs_length (xs : List (List UInt8)) : (strs xs).length = xs.length := by simp [strs]

theorem bytes_eq (s : ByteArray) : s = ⟨s.data.toList.toArray⟩ := by cases s; simp

/-- strings.Split at a space. -/
theorem split_any {L : List Blk} {w0 w : World} (hE : Env w0) (T : Turn [] w0 L w) (s : ByteArray) (hs : s.size ≤ 4096) :
    Calls Tryd.prog 21 #[.string s, .string ⟨#[32]⟩] w fun e w' => ∃ g, e = .returned (.slice (some ⟨g, 0, none⟩) (pieces s.data.toList).length (pieces s.data.toList).length) ∧
      Row 9 1 (some ⟨g, 0, none⟩) (pieces s.data.toList).length (pieces s.data.toList).length (strs (pieces s.data.toList)) [(g, .cells (strs (pieces s.data.toList)).toArray 9)] ∧ Turn [] w0 ((g, .cells (strs (pieces s.data.toList)).toArray 9) :: L) w' := by
  obtain ⟨m, hm⟩ := (hE.turn T).most
  have hp := splitB_pieces s
  have hsv : ((Lib.splitB ⟨#[32]⟩ 0 (Lib.countB s ⟨#[32]⟩) s).map Value.string) = strs (pieces s.data.toList) := by
    rw [← hp]
    unfold strs
    rw [List.map_map]
    exact List.map_congr_left fun x _ => congrArg Value.string (bytes_eq x)
  have hlen : Lib.countB s ⟨#[32]⟩ + 1 = (pieces s.data.toList).length := by
    rw [← hp, List.length_map, Lib.splitB_all _ (by decide) 0 _ s rfl]
  refine (Tryd.strings_Split s ⟨#[32]⟩ m w (by omega) hm (by decide)).mono ?_
  rintro e w' ⟨he, rfl⟩
  rw [hsv]
  rw [hlen] at he
  refine ⟨_, he, ?_, T.alloc _⟩
  have hc := Lib.countB_le ⟨#[32]⟩ (by decide) s.size s (Nat.le_refl _)
  have := Row.lit (e := 9) (size := 1) w.heap.size (strs (pieces s.data.toList)).toArray (pieces s.data.toList).length (by simp [strs]) (by unfold maxLen; omega)
  simpa using this

/-- strings.Join by a space. -/
theorem join_any {L R : List Blk} {w0 w : World} (T : Turn [] w0 (R ++ L) w) {a : Option Addr} {n c : Nat} (xs : List (List UInt8)) (hr : Row 9 1 a n c (strs xs) R) (h1 : 1 ≤ n)
    (hN : n ≤ 4096) (hlen : (Lib.join xs [32]).length ≤ 140737488355328) :
    Calls Tryd.prog 26 #[.slice a n c, .string ⟨#[32]⟩] w fun e w' => e = .returned (.string ⟨(Lib.join xs [32]).toArray⟩) ∧ Turn [] w0 (R ++ L) w' := by
  have hxl : xs.length = n := by have := hr.1; rw [strs_length] at this; omega
  obtain ⟨g, cur, rfl, rfl, h3, h4⟩ := hr.some_of (by omega)
  have hlt : g < w.heap.size := T.has.lt (by simp)
  have hmap : (xs.map fun x => (⟨x.toArray⟩ : ByteArray)).map (·.data.toList) = xs := by
    rw [List.map_map]
    conv => rhs; rw [← List.map_id xs]
    exact List.map_congr_left fun x _ => by simp
  have hj := Tryd.strings_Join g 0 c (xs.map fun x => ⟨x.toArray⟩) ⟨#[32]⟩ w (fun j x hx => by
    rw [Nat.zero_add, hr.cell T.has j (by have := (List.getElem?_eq_some_iff.1 hx).1; simp at this; omega)]
    rw [List.getElem?_map] at hx
    simp only [strs, List.getElem?_map]
    cases hj : xs[j]? with
    | none => rw [hj] at hx; cases hx
    | some y => rw [hj] at hx; cases hx; rfl) hlt (by simp; omega) (by have := hr.2.1; simp; omega) (by rw [hmap]; exact hlen)
  rw [hmap, List.length_map, hxl] at hj
  exact hj.mono fun e w' ⟨he, hB⟩ => ⟨he, T.trans (Turn.of_below T.has hB)⟩
end Go.Proofs.YtpnpnajheaijaaaDoor
