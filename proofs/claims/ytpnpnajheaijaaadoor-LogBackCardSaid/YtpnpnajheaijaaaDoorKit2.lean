/-
  More on slices in owned blocks: append from whatever source.
  Conditions: none; plain lemmas on worlds, no program.
-/
import Derived.Test.YtpnpnajheaijaaaDoorKit
namespace Go.Proofs.YtpnpnajheaijaaaDoor
open Go Go.RowKit

theorem run_append_none {P : Program} (w : World) (t ty e : TypeId) (i : TypeInfo) (ht : P.underlying t = some (.slice e)) (hi : P.info? e = some i) (ao : Option Addr) (n cap : Nat) (hn : n ≤ cap) :
    (Builtin.append_ #[t, t] ty #[.slice ao n cap, .slice none 0 0]).run P w = .ok (.slice ao n cap) w := by
  cases ao <;> simp [Builtin.append_, run_underlying ht, sizeOf, typeInfo, hi, Builtin.lenOf, Builtin.firstCells, hn, storeCells]

section
variable {P : Program} {w : World} {o : Oper} {a : Act} {K : Act → World → Prop} {Q : Exit → Act → World → Prop} {t e : TypeId} {size bytes : Nat} {z : Value}
  {ao ar : Option Addr} {n cap m c : Nat} {xs news : List Value} {l R : List Blk}

/-- append to a row, whatever the source: nil too. -/
theorem run_append_src (w : World) (he : Elem P t e size bytes z) (ty : TypeId) (hrow : Row e size ao n cap xs l) (hH : Has w (l ++ R)) (hsrc : Src w ar m c size news) (h1 : ∀ u ∈ news, u.oneCell' = true)
    (h63 : n + m ≤ maxLen) (hbytes : (n + m) * bytes ≤ 140737488355328) :
    ∃ ao' cap' l' w', (Builtin.append_ #[t, t] ty #[.slice ao n cap, .slice ar m c]).run P w = .ok (.slice ao' (n + m) cap') w' ∧
      Row e size ao' (n + m) cap' (xs ++ news) l' ∧ Turn (l ++ R) w (l' ++ R) w' := by
  obtain ⟨i, hi, hz, hsize, hby⟩ := he.info
  cases ar with
  | none =>
    obtain ⟨rfl, rfl⟩ := hsrc.nil rfl
    have hx : news = [] := List.eq_nil_of_length_eq_zero (by simpa using hsrc.len)
    subst hx
    exact ⟨ao, cap, l, w, run_append_none w t ty e i he.ht hi ao n cap hrow.2.1, by simpa using hrow, Turn.refl hH⟩
  | some ad =>
    obtain ⟨ao', cap', l', w', hr, h2, h3, _⟩ := run_append_row (P := P) w t ty e i z size bytes he.ht hi hz hsize hby he.zs ao n cap xs l R hrow hH ad m c news hsrc.len (hsrc.at_ ad rfl) h1 h63 hbytes
    exact ⟨ao', cap', l', w', hr, h2, h3⟩

theorem wp_append_src (s x : Operand) (ho : o.op = .call { callee := .builtin .append, args := #[s, x], argTypes := #[t, t] }) (he : Elem P t e size bytes z)
    (hs : a.eval s = .slice ao n cap) (hx : a.eval x = .slice ar m c) (hrow : Row e size ao n cap xs l) (hH : Has w (l ++ R)) (hsrc : Src w ar m c size news) (h1 : ∀ u ∈ news, u.oneCell' = true)
    (h63 : n + m ≤ maxLen) (hbytes : (n + m) * bytes ≤ 140737488355328)
    (h : ∀ ao' cap' l' w', Row e size ao' (n + m) cap' (xs ++ news) l' → Turn (l ++ R) w (l' ++ R) w' → K (a.put o.dst (.slice ao' (n + m) cap')) w') : o.wp P a w K Q := by
  obtain ⟨ao', cap', l', w', hr, h2, h3⟩ := run_append_src (P := P) w he o.type hrow hH hsrc h1 h63 hbytes
  unfold Oper.wp execOp
  simp only [ho, resolve, invoke, builtin, Sem.run_bind, Sem.run_pure, Result.andThen_ok, List.map_toArray, List.map_cons, List.map_nil, hs, hx, hr]
  exact h ao' cap' l' w' h2 h3

theorem wpList_append_src {ops : Array Oper} {rest : List Oper} (hgd : o.guard = none) (s x : Operand) (ho : o.op = .call { callee := .builtin .append, args := #[s, x], argTypes := #[t, t] }) (he : Elem P t e size bytes z)
    (hs : a.eval s = .slice ao n cap) (hx : a.eval x = .slice ar m c) (hrow : Row e size ao n cap xs l) (hH : Has w (l ++ R)) (hsrc : Src w ar m c size news) (h1 : ∀ u ∈ news, u.oneCell' = true)
    (h63 : n + m ≤ maxLen) (hbytes : (n + m) * bytes ≤ 140737488355328)
    (h : ∀ ao' cap' l' w', Row e size ao' (n + m) cap' (xs ++ news) l' → Turn (l ++ R) w (l' ++ R) w' → wpList P ops Q rest (a.put o.dst (.slice ao' (n + m) cap')) w') : wpList P ops Q (o :: rest) a w :=
  wpList_plain hgd fun _ hK => wp_append_src s x ho he hs hx hrow hH hsrc h1 h63 hbytes fun ao' cap' l' w' h2 h3 => hK _ _ (h ao' cap' l' w' h2 h3)
end

/-- A slice over a block of its own that has just been laid. -/
theorem Row.lit {e : TypeId} {size : Nat} (g : Nat) (cs : Array Value) (n : Nat) (hn : cs.size = n * size) (hm : n ≤ maxLen) : Row e size (some ⟨g, 0, none⟩) n n cs.toList [(g, .cells cs e (0, 0))] :=
  ⟨by simpa using hn, Nat.le_refl _, hm, .inr ⟨g, cs, rfl, rfl, by omega, List.take_of_length_le (by rw [Array.length_toList]; omega)⟩⟩
theorem Src.row {e : TypeId} {size : Nat} {g n cap : Nat} {xs : List Value} {l R : List Blk} {w : World} (h : Row e size (some ⟨g, 0, none⟩) n cap xs l) (hH : Has w (l ++ R)) : Src w (some ⟨g, 0, none⟩) n cap size xs := h.src hH


/-- Where all that was owned is owned still, unturned, nothing that was there has turned. -/
theorem Turn.keeps {L A : List Blk} {w w' : World} (h : Turn L w (A ++ L) w') (hH : Has w L) (b : Nat) (hb : b < w.heap.size) : w'.heap[b]? = w.heap[b]? := by
  by_cases hm : b ∈ keys L
  · obtain ⟨o, ho⟩ := mem_keys.1 hm
    rw [hH.own b o ho, h.has.own b o (List.mem_append.2 (.inr ho))]
  · exact h.same b hb hm

theorem Src.later {w w' : World} {ao : Option Addr} {n cap size : Nat} {xs : List Value} (h : Src w ao n cap size xs) (hk : ∀ b, b < w.heap.size → w'.heap[b]? = w.heap[b]?) : Src w' ao n cap size xs :=
  ⟨h.len, h.nil, fun ad ha j u hu => by
    have h1 := h.at_ ad ha j u hu
    rw [World.cell?_of_block (hk _ (World.block_lt_of_cell? w _ h1))]
    exact h1⟩
theorem Src.turn {L A : List Blk} {w w' : World} {ao : Option Addr} {n cap size : Nat} {xs : List Value} (h : Src w ao n cap size xs) (t : Turn L w (A ++ L) w') (hH : Has w L) : Src w' ao n cap size xs := h.later (t.keeps hH)
theorem Src.draws {w : World} {ao : Option Addr} {n cap size : Nat} {xs : List Value} (h : Src w ao n cap size xs) : Src w.drew ao n cap size xs := ⟨h.len, h.nil, h.at_⟩

theorem Has.ne {w : World} {b g : Nat} {o : Obj} {l : List Blk} (h : Has w ((b, o) :: l)) (hg : g ∈ keys l) : g ≠ b := by
  have := h.nd
  rw [keys_cons, List.nodup_cons] at this
  rintro rfl
  exact this.1 hg

theorem oneCell_slices {α : Type} (f : α → Value) (h : ∀ x, (f x).oneCell' = true) (l : List α) : ∀ u ∈ l.map f, u.oneCell' = true := by
  intro u hu
  obtain ⟨x, _, rfl⟩ := List.mem_map.1 hu
  exact h x
end Go.Proofs.YtpnpnajheaijaaaDoor
