/-
  Blocks that a proof owns, how a world turns from one set of owned blocks to another, and slices that lie in owned blocks.
  Conditions: none; plain lemmas on worlds, no program.
-/
import Derived.WalkKit
import Derived.WalkLawsBesides
import Derived.Lib.Hide
namespace Go.Proofs.YtpnpnajheaijaaaDoor
open Go Go.RowKit

abbrev Blk := Nat × Obj
def keys (l : List Blk) : List Nat := l.map (·.1)

@[simp] theorem keys_nil : keys [] = [] := rfl
@[simp] theorem keys_cons (x : Blk) (l : List Blk) : keys (x :: l) = x.1 :: keys l := rfl
@[simp] theorem keys_append (a b : List Blk) : keys (a ++ b) = keys a ++ keys b := by simp [keys]

theorem mem_keys {l : List Blk} {b : Nat} : b ∈ keys l ↔ ∃ o, (b, o) ∈ l := by
  simp [keys]

/-- The world holds these blocks, each once. -/
structure Has (w : World) (l : List Blk) : Prop where
  nd : (keys l).Nodup
  own : ∀ b o, (b, o) ∈ l → w.heap[b]? = some o

theorem Has.nil (w : World) : Has w [] := ⟨List.nodup_nil, fun _ _ h => by cases h⟩

theorem Has.perm {w : World} {l l' : List Blk} (h : Has w l) (p : l.Perm l') : Has w l' :=
  ⟨(p.map _).nodup_iff.1 h.nd, fun b o hm => h.own b o (p.mem_iff.2 hm)⟩

theorem Has.sub {w : World} {l l' : List Blk} (h : Has w l) (s : l'.Sublist l) : Has w l' :=
  ⟨(s.map _).nodup h.nd, fun b o hm => h.own b o (s.subset hm)⟩

theorem Has.left {w : World} {a b : List Blk} (h : Has w (a ++ b)) : Has w a := h.sub (List.sublist_append_left a b)
theorem Has.right {w : World} {a b : List Blk} (h : Has w (a ++ b)) : Has w b := h.sub (List.sublist_append_right a b)

theorem Has.lt {w : World} {l : List Blk} (h : Has w l) {b : Nat} (hb : b ∈ keys l) : b < w.heap.size := by
  obtain ⟨o, ho⟩ := mem_keys.1 hb
  exact lt_of_block (h.own b o ho)

theorem Has.drewN {w : World} {l : List Blk} (h : Has w l) (n : Nat) : Has (w.drewN n) l := ⟨h.nd, h.own⟩
theorem Has.drew {w : World} {l : List Blk} (h : Has w l) : Has w.drew l := ⟨h.nd, h.own⟩

/-- A block that is held: a cell of it, and whether it may be written. -/
theorem Has.cell {w : World} {l : List Blk} (h : Has w l) {b : Nat} {c : Array Value} {e : TypeId} {f : Nat × Nat} (hm : (b, Obj.cells c e f) ∈ l) (i : Nat) :
    w.cell? ⟨b, i, none⟩ = c[i]? := by simp [World.cell?, h.own _ _ hm]
theorem Has.free {w : World} {l : List Blk} (h : Has w l) {b : Nat} {c : Array Value} {e : TypeId} (hm : (b, Obj.cells c e (0, 0)) ∈ l) (i : Nat) :
    w.frozen? ⟨b, i, none⟩ = false := by simp [World.frozen?, h.own _ _ hm]

/-- Of an owned list l in w a list l' in w' has come; nothing else has turned. -/
structure Turn (l : List Blk) (w : World) (l' : List Blk) (w' : World) : Prop where
  os : w'.os = w.os
  tape : w'.tape = w.tape
  output : w'.output = w.output
  size : w.heap.size ≤ w'.heap.size
  has : Has w' l'
  new : ∀ b, b ∈ keys l' → b ∈ keys l ∨ w.heap.size ≤ b
  same : ∀ b, b < w.heap.size → b ∉ keys l → w'.heap[b]? = w.heap[b]?

theorem Turn.refl {l : List Blk} {w : World} (h : Has w l) : Turn l w l w := ⟨rfl, rfl, rfl, Nat.le_refl _, h, fun _ hb => .inl hb, fun _ _ _ => rfl⟩

theorem Turn.trans {l l1 l2 : List Blk} {w w1 w2 : World} (h : Turn l w l1 w1) (k : Turn l1 w1 l2 w2) : Turn l w l2 w2 := by
  refine ⟨k.os.trans h.os, k.tape.trans h.tape, k.output.trans h.output, Nat.le_trans h.size k.size, k.has, fun b hb => ?_, fun b hb hn => ?_⟩
  · rcases k.new b hb with h1 | h1
    · exact h.new b h1
    · exact .inr (Nat.le_trans h.size h1)
  · refine (k.same b (Nat.lt_of_lt_of_le hb h.size) (fun hm => ?_)).trans (h.same b hb hn)
    rcases h.new b hm with h1 | h1
    · exact hn h1
    · omega

theorem Turn.perm {l l1 l2 : List Blk} {w w' : World} (h : Turn l w l1 w') (p : l1.Perm l2) : Turn l w l2 w' :=
  ⟨h.os, h.tape, h.output, h.size, h.has.perm p, fun b hb => h.new b ((p.map _).mem_iff.2 hb), h.same⟩

theorem Turn.sub {l l1 l2 : List Blk} {w w' : World} (h : Turn l w l1 w') (s : l2.Sublist l1) : Turn l w l2 w' :=
  ⟨h.os, h.tape, h.output, h.size, h.has.sub s, fun b hb => h.new b ((s.map _).subset hb), h.same⟩

theorem Turn.drop {l a l1 : List Blk} {w w' : World} (h : Turn l w (a ++ l1) w') : Turn l w l1 w' := h.sub (List.sublist_append_right a l1)
theorem Turn.tail {l l1 : List Blk} {x : Blk} {w w' : World} (h : Turn l w (x :: l1) w') : Turn l w l1 w' := h.sub (List.sublist_cons_self x l1)

theorem Turn.pre {l m l1 : List Blk} {w w' : World} (h : Turn l w l1 w') (p : l.Perm m) : Turn m w l1 w' :=
  ⟨h.os, h.tape, h.output, h.size, h.has, fun b hb => (h.new b hb).imp (fun h1 => (p.map _).mem_iff.1 h1) id, fun b hb hn => h.same b hb (fun hm => hn ((p.map _).mem_iff.1 hm))⟩

/-- More may be owned at the start. -/
theorem Turn.more {l l1 : List Blk} {w w' : World} (h : Turn l w l1 w') {R : List Blk} (hR : Has w (l ++ R)) : Turn (l ++ R) w (l1 ++ R) w' := by
  have hd := hR.nd
  rw [keys_append, List.nodup_append] at hd
  refine ⟨h.os, h.tape, h.output, h.size, ⟨?_, fun b o hm => ?_⟩, fun b hb => ?_, fun b hb hn => h.same b hb (fun hm => hn (by simp [hm]))⟩
  · rw [keys_append, List.nodup_append]
    refine ⟨h.has.nd, hd.2.1, fun x hx y hy => ?_⟩
    have hy' := hR.right.lt hy
    rcases h.new x hx with h1 | h1
    · exact hd.2.2 x h1 y hy
    · omega
  · rcases List.mem_append.1 hm with h1 | h1
    · exact h.has.own b o h1
    · have hk : b ∈ keys R := mem_keys.2 ⟨o, h1⟩
      rw [h.same b (hR.right.lt hk) (fun hm => hd.2.2 b hm b hk rfl)]
      exact hR.right.own b o h1
  · rw [keys_append, List.mem_append] at hb
    rcases hb with h1 | h1
    · exact (h.new b h1).imp (fun h2 => by simp [h2]) id
    · exact .inl (by simp [h1])

theorem Turn.drew {l l1 : List Blk} {w w' : World} (h : Turn l w l1 w') : Turn l w l1 w'.drew := ⟨h.os, h.tape, h.output, h.size, h.has.drew, h.new, h.same⟩
theorem Turn.drewN {l l1 : List Blk} {w w' : World} (h : Turn l w l1 w') (n : Nat) : Turn l w l1 (w'.drewN n) := ⟨h.os, h.tape, h.output, h.size, ⟨h.has.nd, h.has.own⟩, h.new, h.same⟩

theorem Turn.alloc {l l1 : List Blk} {w w' : World} (h : Turn l w l1 w') (o : Obj) : Turn l w ((w'.heap.size, o) :: l1) (w'.alloc o) := by
  refine ⟨h.os, h.tape, h.output, by rw [World.size_alloc]; exact Nat.le_succ_of_le h.size, ⟨?_, fun b o' hm => ?_⟩, fun b hb => ?_, fun b hb hn => ?_⟩
  · rw [keys_cons, List.nodup_cons]
    exact ⟨fun hm => Nat.lt_irrefl _ (h.has.lt hm), h.has.nd⟩
  · rcases List.mem_cons.1 hm with h1 | h1
    · cases h1
      exact heap_alloc_new w' o
    · rw [Below.heap_alloc _ _ _ (h.has.lt (mem_keys.2 ⟨o', h1⟩))]
      exact h.has.own b o' h1
  · rw [keys_cons, List.mem_cons] at hb
    rcases hb with h1 | h1
    · exact .inr (by rw [h1]; exact h.size)
    · exact h.new b h1
  · rw [Below.heap_alloc _ _ _ (Nat.lt_of_lt_of_le hb h.size)]
    exact h.same b hb hn

theorem heap_setCell_at {w : World} {b : Nat} {c : Array Value} {e : TypeId} {f : Nat × Nat} (h : w.heap[b]? = some (.cells c e f)) (i : Nat) (u : Value) :
    (w.setCell ⟨b, i, none⟩ u).heap[b]? = some (.cells (c.setIfInBounds i u) e f) := by
  have hlt := lt_of_block h
  have h' : w.heap[b] = .cells c e f := by simpa [Array.getElem?_eq_getElem hlt] using h
  show (w.heap.modify b _)[b]? = _
  rw [Array.getElem?_eq_getElem (by simpa using hlt), Array.getElem_modify_self, h']
  rfl

theorem Turn.setCell {l l1 : List Blk} {w w' : World} {b : Nat} {c : Array Value} {e : TypeId} {f : Nat × Nat} (h : Turn l w ((b, .cells c e f) :: l1) w') (i : Nat) (u : Value) :
    Turn l w ((b, .cells (c.setIfInBounds i u) e f) :: l1) (w'.setCell ⟨b, i, none⟩ u) := by
  have hd := h.has.nd
  rw [keys_cons, List.nodup_cons] at hd
  refine ⟨h.os, h.tape, h.output, by rw [World.size_setCell]; exact h.size, ⟨h.has.nd, fun b' o hm => ?_⟩, h.new, fun b' hb hn => ?_⟩
  · rcases List.mem_cons.1 hm with h1 | h1
    · cases h1
      exact heap_setCell_at (h.has.own b _ (List.mem_cons_self ..)) i u
    · rw [Below.heap_setCell _ _ _ _ (fun he => hd.1 (mem_keys.2 ⟨o, by rw [← show b' = b from he]; exact h1⟩))]
      exact h.has.own b' o (List.mem_cons_of_mem _ h1)
  · rw [Below.heap_setCell _ _ _ _ (fun he => ?_)]
    · exact h.same b' hb hn
    · rcases h.new b (by simp) with h1 | h1
      · exact hn (by rw [show b' = b from he]; exact h1)
      · have : b' = b := he
        omega

/-- The first of the owned blocks is written anew. -/
theorem Turn.setRow {l l1 : List Blk} {w w' : World} {b : Nat} {c : Array Value} {e : TypeId} {f : Nat × Nat} (h : Turn l w ((b, .cells c e f) :: l1) w') (c' : Array Value) :
    Turn l w ((b, .cells c' e f) :: l1) (w'.setRow b c') := by
  have hd := h.has.nd
  rw [keys_cons, List.nodup_cons] at hd
  refine ⟨h.os, h.tape, h.output, by simpa [World.setRow] using h.size, ⟨h.has.nd, fun b' o hm => ?_⟩, h.new, fun b' hb hn => ?_⟩
  · rcases List.mem_cons.1 hm with h1 | h1
    · cases h1
      exact setRow_heap w' b c _ e f (h.has.own b _ (List.mem_cons_self ..))
    · rw [setRow_other _ _ _ _ (fun he => hd.1 (mem_keys.2 ⟨o, by rw [← he]; exact h1⟩))]
      exact h.has.own b' o (List.mem_cons_of_mem _ h1)
  · rw [setRow_other _ _ _ _ (fun he => ?_)]
    · exact h.same b' hb hn
    · rcases h.new b (by simp) with h1 | h1
      · exact hn (by rw [he]; exact h1)
      · omega

theorem Turn.below {l1 : List Blk} {w w' : World} (h : Turn [] w l1 w') : Below w.heap.size w w' :=
  ⟨h.os, h.tape, h.output, h.size, fun k hk => h.same k hk (by simp)⟩

/-- What was there ahead of all is there. -/
theorem Turn.cellOld {l1 : List Blk} {w w' : World} (h : Turn [] w l1 w') {p : Addr} (hp : p.block < w.heap.size) : w'.cell? p = w.cell? p := h.below.cell hp

/-- Permutations by weights. -/
def wt (c : Blk → Nat) : List Blk → Nat
  | [] => 0
  | x :: l => c x + wt c l
@[simp] theorem wt_nil (c : Blk → Nat) : wt c [] = 0 := rfl
@[simp] theorem wt_cons (c : Blk → Nat) (x : Blk) (l : List Blk) : wt c (x :: l) = c x + wt c l := rfl
@[simp] theorem wt_append (c : Blk → Nat) (a b : List Blk) : wt c (a ++ b) = wt c a + wt c b := by
  induction a with
  | nil => simp
  | cons x a ih => simp [ih]; omega

theorem perm_of {l l' : List Blk} (h : ∀ c : Blk → Nat, wt c l = wt c l') : l.Perm l' := by
  classical
  refine List.perm_iff_count.2 fun x => ?_
  have hc : ∀ m : List Blk, wt (fun y => if y = x then 1 else 0) m = m.count x := by
    intro m
    induction m with
    | nil => rfl
    | cons y m ih =>
      rw [wt_cons, ih, List.count_cons]
      by_cases hy : y = x <;> simp [hy] <;> omega
  rw [← hc, ← hc]
  exact h _

/-- A slice of n elements (of type e, 'size' cells each) lies in a block of its own, or is nil. -/
def Row (e : TypeId) (size : Nat) (ao : Option Addr) (n cap : Nat) (xs : List Value) (l : List Blk) : Prop :=
  xs.length = n * size ∧ n ≤ cap ∧ cap ≤ maxLen ∧
  ((ao = none ∧ cap = 0 ∧ l = []) ∨
   ∃ g cur, ao = some ⟨g, 0, none⟩ ∧ l = [(g, .cells cur e (0, 0))] ∧ cap * size ≤ cur.size ∧ cur.toList.take (n * size) = xs)

theorem Row.nil (e : TypeId) (size : Nat) : Row e size none 0 0 [] [] := ⟨by simp, Nat.le_refl _, Nat.zero_le _, .inl ⟨rfl, rfl, rfl⟩⟩

theorem Row.some_of {e : TypeId} {size : Nat} {ao : Option Addr} {n cap : Nat} {xs : List Value} {l : List Blk} (h : Row e size ao n cap xs l) (hn : 0 < n) :
    ∃ g cur, ao = some ⟨g, 0, none⟩ ∧ l = [(g, .cells cur e (0, 0))] ∧ cap * size ≤ cur.size ∧ cur.toList.take (n * size) = xs := by
  rcases h.2.2.2 with ⟨_, h1, _⟩ | h1
  · have := h.2.1
    omega
  · exact h1

theorem take_get {α : Type} {c : Array α} {m : Nat} {xs : List α} (h : c.toList.take m = xs) (j : Nat) (hj : j < m) : c[j]? = xs[j]? := by
  subst h
  rw [List.getElem?_take_of_lt hj, Array.getElem?_toList]

theorem Row.cell {e : TypeId} {size : Nat} {g n cap : Nat} {xs : List Value} {l : List Blk} (h : Row e size (some ⟨g, 0, none⟩) n cap xs l) {w : World} {R : List Blk} (hH : Has w (l ++ R))
    (j : Nat) (hj : j < n * size) : w.cell? ⟨g, j, none⟩ = xs[j]? := by
  rcases h.2.2.2 with ⟨h1, _⟩ | ⟨g', cur, h1, h2, h3, h4⟩
  · cases h1
  · cases h1
    subst h2
    rw [hH.cell (b := g) (c := cur) (e := e) (f := (0, 0)) (by simp) j]
    exact take_get h4 j hj

theorem Row.free {e : TypeId} {size : Nat} {g n cap : Nat} {xs : List Value} {l : List Blk} (h : Row e size (some ⟨g, 0, none⟩) n cap xs l) {w : World} {R : List Blk} (hH : Has w (l ++ R))
    (j : Nat) : w.frozen? ⟨g, j, none⟩ = false := by
  rcases h.2.2.2 with ⟨h1, _⟩ | ⟨g', cur, h1, h2, h3, h4⟩
  · cases h1
  · cases h1
    subst h2
    exact hH.free (b := g) (c := cur) (e := e) (by simp) j

/-- Fewer elements of the same row, whatever capacity up to the old one. -/
theorem Row.take {e : TypeId} {size : Nat} {ao : Option Addr} {n cap : Nat} {xs : List Value} {l : List Blk} (h : Row e size ao n cap xs l) (m cap' : Nat) (hm : m ≤ n) (h1 : m ≤ cap') (h2 : cap' ≤ cap) :
    Row e size ao m cap' (xs.take (m * size)) l := by
  obtain ⟨hl, hn, hc, h3⟩ := h
  have hmul : m * size ≤ n * size := Nat.mul_le_mul_right _ hm
  refine ⟨by rw [List.length_take]; omega, h1, by omega, ?_⟩
  rcases h3 with ⟨h4, h5, h6⟩ | ⟨g, cur, h4, h5, h6, h7⟩
  · exact .inl ⟨h4, by omega, h6⟩
  · refine .inr ⟨g, cur, h4, h5, Nat.le_trans (Nat.mul_le_mul_right _ h2) h6, ?_⟩
    rw [← h7, List.take_take]
    congr 1
    omega

theorem Row.set {e : TypeId} {size : Nat} {g n cap : Nat} {xs : List Value} {cur : Array Value} (h : Row e size (some ⟨g, 0, none⟩) n cap xs [(g, .cells cur e (0, 0))]) (j : Nat) (u : Value) :
    Row e size (some ⟨g, 0, none⟩) n cap (xs.set j u) [(g, .cells (cur.setIfInBounds j u) e (0, 0))] := by
  obtain ⟨hl, hn, hc, h3⟩ := h
  refine ⟨by simpa using hl, hn, hc, .inr ⟨g, _, rfl, rfl, ?_, ?_⟩⟩
  · rcases h3 with ⟨h4, _⟩ | ⟨g', cur', h4, h5, h6, h7⟩
    · cases h4
    · cases h4; cases h5
      simpa using h6
  · rcases h3 with ⟨h4, _⟩ | ⟨g', cur', h4, h5, h6, h7⟩
    · cases h4
    · cases h4; cases h5
      rw [Array.toList_setIfInBounds, List.take_set, h7]

section
variable {P : Program} (w : World)

/-- append to such a row: there is room, or a new block is laid. -/
theorem run_append_row (t ty e : TypeId) (i : TypeInfo) (z : Value) (size bytes : Nat) (ht : P.underlying t = some (.slice e)) (hi : P.info? e = some i) (hz : i.zero = some z)
    (hsize : i.size = size) (hby : i.bytes = bytes) (hzs : z.cells.size = size)
    (ao : Option Addr) (n cap : Nat) (xs : List Value) (l R : List Blk) (hrow : Row e size ao n cap xs l) (hH : Has w (l ++ R))
    (a : Addr) (m c : Nat) (news : List Value) (hl : news.length = m * size) (hnews : ∀ j u, news[j]? = some u → w.cell? (a.add j) = some u) (h1 : ∀ u ∈ news, u.oneCell' = true)
    (h63 : n + m ≤ maxLen) (hbytes : (n + m) * bytes ≤ 140737488355328) :
    ∃ ao' cap' l' w', (Builtin.append_ #[t, t] ty #[.slice ao n cap, .slice (some a) m c]).run P w = .ok (.slice ao' (n + m) cap') w' ∧
      Row e size ao' (n + m) cap' (xs ++ news) l' ∧ Turn (l ++ R) w (l' ++ R) w' ∧ (ao' = none ↔ ao = none ∧ m = 0) := by
  subst hsize
  subst hby
  have hsmall : n + m ≤ 9223372036854775807 := by simp only [maxLen] at h63; omega
  have hlen : (xs ++ news).length = (n + m) * i.size := by rw [List.length_append, hrow.1, hl, Nat.add_mul]
  have grown : ∀ (old : Nat), old < n + m →
      Row e i.size (some ⟨w.heap.size, 0, none⟩) (n + m) (grownCap w (n + m) old e) (xs ++ news)
        [(w.heap.size, .cells (xs.toArray ++ news.toArray ++ Builtin.zeroCells z.cells (grownCap w (n + m) old e - (n + m))) e)] ∧
      Turn (l ++ R) w ([(w.heap.size, .cells (xs.toArray ++ news.toArray ++ Builtin.zeroCells z.cells (grownCap w (n + m) old e - (n + m))) e)] ++ R)
        (w.drew.alloc (.cells (xs.toArray ++ news.toArray ++ Builtin.zeroCells z.cells (grownCap w (n + m) old e - (n + m))) e)) := by
    intro old ho
    have hge := grownCap_ge w (n + m) old e
    have hcm : grownCap w (n + m) old e ≤ maxLen := grownCap_le_maxLen w (n + m) old e h63
    refine ⟨⟨hlen, hge, hcm, .inr ⟨w.heap.size, _, rfl, rfl, ?_, ?_⟩⟩, ?_⟩
    · simp only [Array.size_append, List.size_toArray, size_zeroCells, hzs, hrow.1, hl, ← Nat.add_mul]
      refine Nat.mul_le_mul_right _ ?_
      omega
    · simp only [Array.toList_append, List.append_assoc]
      rw [← List.append_assoc, ← hlen]
      exact List.take_left
    · exact ((Turn.refl hH).drew.alloc _).sub (by simp)
  obtain ⟨_, hnc, hcm, hcase⟩ := hrow
  rcases hcase with ⟨rfl, rfl, rfl⟩ | ⟨g, cur, rfl, rfl, hcs, htake⟩
  · obtain rfl : n = 0 := by omega
    have hx : xs = [] := List.eq_nil_of_length_eq_zero (by simpa [List.length_append, hl] using hlen)
    subst hx
    by_cases hm : m = 0
    · subst hm
      have hn : news = [] := List.eq_nil_of_length_eq_zero (by simpa using hl)
      subst hn
      refine ⟨none, 0, [], w, ?_, Row.nil e i.size, Turn.refl hH, by simp⟩
      simp [Builtin.append_, run_underlying ht, sizeOf, typeInfo, hi, Builtin.lenOf, Builtin.firstCells, loadCells, loadCellsFrom]
    · have hr := run_append_nil (P := P) w t ty e i z ht hi hz a m c news hl hnews (by omega) (by omega) (by have hb := hbytes; simp only [Nat.zero_add] at hb; omega)
      have hgr := grown 0 (by omega)
      simp only [Nat.zero_add, List.nil_append, Array.empty_append] at hgr ⊢
      exact ⟨_, _, _, _, hr, hgr.1, hgr.2, by simp [hm]⟩
  · by_cases hroom : n + m ≤ cap
    · have hfit : n * i.size + news.length ≤ cur.size := by rw [hl, ← Nat.add_mul]; exact Nat.le_trans (Nat.mul_le_mul_right _ hroom) hcs
      have hr := run_append_room (P := P) w t ty e i ht hi g n cap cur (hH.own _ _ (by simp)) a m c news hl hnews h1 hroom hfit
      refine ⟨_, _, _, _, hr, ⟨hlen, hroom, hcm, .inr ⟨g, _, rfl, rfl, ?_, ?_⟩⟩, (Turn.refl hH).setRow _, by simp⟩
      · simp only [List.size_toArray, List.length_append, List.length_take, List.length_drop, Array.length_toList]
        omega
      · rw [htake, ← hlen]
        exact List.take_left
    · have holds : ∀ j u, xs[j]? = some u → w.cell? ((⟨g, 0, none⟩ : Addr).add j) = some u := by
        intro j u hj
        have hlt : j < n * i.size := by
          have := (List.getElem?_eq_some_iff.1 hj).1
          rw [List.length_append, hl, Nat.add_mul] at hlen
          omega
        have hc := hH.cell (b := g) (c := cur) (e := e) (f := (0, 0)) (by simp) j
        rw [take_get htake j hlt, hj] at hc
        rw [show (⟨g, 0, none⟩ : Addr).add j = ⟨g, j, none⟩ from by unfold Addr.add; split <;> simp_all]
        exact hc
      have hr := run_append_grow (P := P) w t ty e i z ht hi hz ⟨g, 0, none⟩ n cap xs (by rw [List.length_append, hl, Nat.add_mul] at hlen; omega) holds a m c news hl hnews (by omega) (by omega) (growslice_fits (by omega) hbytes)
      have hgr := grown cap (by omega)
      exact ⟨_, _, _, _, hr, hgr.1, hgr.2, by simp⟩

end


/-- The element type of a slice type: its row of the program's table. -/
structure Elem (P : Program) (t e : TypeId) (size bytes : Nat) (z : Value) : Prop where
  ht : P.underlying t = some (.slice e)
  info : ∃ i, P.info? e = some i ∧ i.zero = some z ∧ i.size = size ∧ i.bytes = bytes
  zs : z.cells.size = size
theorem Elem.of {P : Program} {t e : TypeId} {size bytes : Nat} {z : Value} (ht : P.underlying t = some (.slice e))
    (h : (P.info? e).map (fun i => (i.zero, i.size, i.bytes)) = some (some z, size, bytes)) (zs : z.cells.size = size) : Elem P t e size bytes z := ⟨ht, info_parts h, zs⟩

section
variable {P : Program} {w : World} {o : Oper} {a : Act} {K : Act → World → Prop} {Q : Exit → Act → World → Prop} {t e : TypeId} {size bytes : Nat} {z : Value}
  {ao : Option Addr} {n cap : Nat} {xs : List Value} {l R : List Blk} {ad : Addr} {m c : Nat} {news : List Value}

theorem wp_append_row (s x : Operand) (ho : o.op = .call { callee := .builtin .append, args := #[s, x], argTypes := #[t, t] }) (he : Elem P t e size bytes z)
    (hs : a.eval s = .slice ao n cap) (hrow : Row e size ao n cap xs l) (hH : Has w (l ++ R))
    (hx : a.eval x = .slice (some ad) m c) (hl : news.length = m * size) (hnews : ∀ j u, news[j]? = some u → w.cell? (ad.add j) = some u) (h1 : ∀ u ∈ news, u.oneCell' = true)
    (h63 : n + m ≤ maxLen) (hbytes : (n + m) * bytes ≤ 140737488355328)
    (h : ∀ ao' cap' l' w', Row e size ao' (n + m) cap' (xs ++ news) l' → Turn (l ++ R) w (l' ++ R) w' → (ao' = none ↔ ao = none ∧ m = 0) → K (a.put o.dst (.slice ao' (n + m) cap')) w') : o.wp P a w K Q := by
  obtain ⟨i, hi, hz, hsize, hby⟩ := he.info
  obtain ⟨ao', cap', l', w', hr, h2, h3, h4⟩ := run_append_row (P := P) w t o.type e i z size bytes he.ht hi hz hsize hby he.zs ao n cap xs l R hrow hH ad m c news hl hnews h1 h63 hbytes
  unfold Oper.wp execOp
  simp only [ho, resolve, invoke, builtin, Sem.run_bind, Sem.run_pure, Result.andThen_ok, List.map_toArray, List.map_cons, List.map_nil, hs, hx, hr]
  exact h ao' cap' l' w' h2 h3 h4

theorem wpList_append_row {ops : Array Oper} {rest : List Oper} (hgd : o.guard = none) (s x : Operand) (ho : o.op = .call { callee := .builtin .append, args := #[s, x], argTypes := #[t, t] }) (he : Elem P t e size bytes z)
    (hs : a.eval s = .slice ao n cap) (hrow : Row e size ao n cap xs l) (hH : Has w (l ++ R))
    (hx : a.eval x = .slice (some ad) m c) (hl : news.length = m * size) (hnews : ∀ j u, news[j]? = some u → w.cell? (ad.add j) = some u) (h1 : ∀ u ∈ news, u.oneCell' = true)
    (h63 : n + m ≤ maxLen) (hbytes : (n + m) * bytes ≤ 140737488355328)
    (h : ∀ ao' cap' l' w', Row e size ao' (n + m) cap' (xs ++ news) l' → Turn (l ++ R) w (l' ++ R) w' → (ao' = none ↔ ao = none ∧ m = 0) → wpList P ops Q rest (a.put o.dst (.slice ao' (n + m) cap')) w') :
    wpList P ops Q (o :: rest) a w :=
  wpList_plain hgd fun _ hK => wp_append_row s x ho he hs hrow hH hx hl hnews h1 h63 hbytes fun ao' cap' l' w' h2 h3 h4 => hK _ _ (h ao' cap' l' w' h2 h3 h4)

theorem step_append_row {ops : Array Oper} {E : Prop} (hgd : o.guard = none) (s x : Operand) (ho : o.op = .call { callee := .builtin .append, args := #[s, x], argTypes := #[t, t] }) (he : Elem P t e size bytes z)
    (hs : a.eval s = .slice ao n cap) (hrow : Row e size ao n cap xs l) (hH : Has w (l ++ R))
    (hx : a.eval x = .slice (some ad) m c) (hl : news.length = m * size) (hnews : ∀ j u, news[j]? = some u → w.cell? (ad.add j) = some u) (h1 : ∀ u ∈ news, u.oneCell' = true)
    (h63 : n + m ≤ maxLen) (hbytes : (n + m) * bytes ≤ 140737488355328)
    (h : ∀ ao' cap' l' w', Row e size ao' (n + m) cap' (xs ++ news) l' → Turn (l ++ R) w (l' ++ R) w' → (ao' = none ↔ ao = none ∧ m = 0) → K (a.put o.dst (.slice ao' (n + m) cap')) w') :
    if Region.wanted o (yielded ops a.tmps) = true then Oper.wp P o a w K Q else E := by
  have hw : Region.wanted o (yielded ops a.tmps) = true := by simp [Region.wanted, hgd]
  rw [if_pos hw]
  exact wp_append_row s x ho he hs hrow hH hx hl hnews h1 h63 hbytes h
end

/-- The cells of a block that is known whole, as the append laws ask for them. -/
theorem news_of {w : World} {B : Nat} {cs : Array Value} {t : TypeId} {fr : Nat × Nat} (hb : w.heap[B]? = some (.cells cs t fr)) :
    ∀ j u, cs.toList[j]? = some u → w.cell? ((⟨B, 0, none⟩ : Addr).add j) = some u := fun j u hu => by
  have hadd : (⟨B, 0, none⟩ : Addr).add j = ⟨B, j, none⟩ := by unfold Addr.add; split <;> simp_all
  rw [hadd]
  simp [World.cell?, hb, ← Array.getElem?_toList, hu]

theorem Row.news {e : TypeId} {size : Nat} {g n cap : Nat} {xs : List Value} {l : List Blk} (h : Row e size (some ⟨g, 0, none⟩) n cap xs l) {w : World} {R : List Blk} (hH : Has w (l ++ R)) :
    ∀ j u, xs[j]? = some u → w.cell? ((⟨g, 0, none⟩ : Addr).add j) = some u := fun j u hu => by
  have hadd : (⟨g, 0, none⟩ : Addr).add j = ⟨g, j, none⟩ := by unfold Addr.add; split <;> simp_all
  rw [hadd, h.cell hH j (by rw [← h.1]; exact (List.getElem?_eq_some_iff.1 hu).1), hu]

/-- A slice's elements can be read at its address. -/
structure Src (w : World) (ao : Option Addr) (n cap size : Nat) (xs : List Value) : Prop where
  len : xs.length = n * size
  nil : ao = none → n = 0 ∧ cap = 0
  at_ : ∀ ad, ao = some ad → ∀ j u, xs[j]? = some u → w.cell? (ad.add j) = some u

theorem Row.src {e : TypeId} {size : Nat} {ao : Option Addr} {n cap : Nat} {xs : List Value} {l : List Blk} (h : Row e size ao n cap xs l) {w : World} {R : List Blk} (hH : Has w (l ++ R)) : Src w ao n cap size xs := by
  refine ⟨h.1, fun hn => ?_, fun ad ha => ?_⟩
  · have h1 := h.2.1
    rcases h.2.2.2 with ⟨_, h2, _⟩ | ⟨g, cur, h2, _⟩
    · exact ⟨by omega, h2⟩
    · rw [hn] at h2; cases h2
  · subst ha
    rcases h.2.2.2 with ⟨h2, _⟩ | ⟨g, cur, h2, _⟩
    · cases h2
    · cases h2
      exact h.news hH

theorem Src.kept {w w' : World} {ao : Option Addr} {n cap size : Nat} {xs : List Value} (h : Src w ao n cap size xs) (hk : ∀ ad j, ao = some ad → j < n * size → w'.cell? (ad.add j) = w.cell? (ad.add j)) : Src w' ao n cap size xs :=
  ⟨h.len, h.nil, fun ad ha j u hu => by
    have hj : j < n * size := by rw [← h.len]; exact (List.getElem?_eq_some_iff.1 hu).1
    rw [hk ad j ha hj]
    exact h.at_ ad ha j u hu⟩
theorem Src.drewN {w : World} {ao : Option Addr} {n cap size : Nat} {xs : List Value} (h : Src w ao n cap size xs) (k : Nat) : Src (w.drewN k) ao n cap size xs := ⟨h.len, h.nil, h.at_⟩
theorem Src.alloc {w : World} {ao : Option Addr} {n cap size : Nat} {xs : List Value} (h : Src w ao n cap size xs) (o : Obj) : Src (w.alloc o) ao n cap size xs :=
  ⟨h.len, h.nil, fun ad ha j u hu => by
    have h1 := h.at_ ad ha j u hu
    rw [World.cell?_alloc_lt _ _ _ (World.block_lt_of_cell? w _ h1)]
    exact h1⟩

theorem quiet_turn {P : Program} {f : FuncId} {args : Array Value} {w : World} {v : Value} {L : List Blk} (h : Calls P f args w fun e w' => e = .returned v ∧ ∃ n, w' = w.drewN n) (hH : Has w L) :
    Calls P f args w fun e w' => e = .returned v ∧ Turn L w L w' :=
  h.mono fun _ _ ⟨he, n, hn⟩ => ⟨he, by rw [hn]; exact (Turn.refl hH).drewN n⟩
theorem same_turn {P : Program} {f : FuncId} {args : Array Value} {w : World} {v : Value} {L : List Blk} (h : Calls P f args w fun e w' => e = .returned v ∧ w = w') (hH : Has w L) :
    Calls P f args w fun e w' => e = .returned v ∧ Turn L w L w' :=
  h.mono fun _ _ ⟨he, hn⟩ => ⟨he, by rw [← hn]; exact Turn.refl hH⟩

theorem add_lit (b off j : Nat) : (⟨b, off, none⟩ : Addr).add j = ⟨b, off + j, none⟩ := by unfold Addr.add; split <;> simp_all

theorem spot_of_cell {w : World} {a : Addr} {v : Value} (h : w.cell? a = some v) : a.spot = none := by
  unfold World.cell? at h
  split at h
  · cases hs : a.spot with
    | none => rfl
    | some _ => simp [hs] at h
  · cases h

theorem Src.form {w : World} {ao : Option Addr} {n cap size : Nat} {xs : List Value} (h : Src w ao n cap size xs) (hn : 0 < xs.length) :
    ∃ b off, ao = some ⟨b, off, none⟩ ∧ ∀ j u, xs[j]? = some u → w.cell? ⟨b, off + j, none⟩ = some u := by
  cases ao with
  | none =>
    have h1 := h.len
    rw [(h.nil rfl).1, Nat.zero_mul] at h1
    omega
  | some ad =>
    have h0 := h.at_ ad rfl 0 (xs[0]) (List.getElem?_eq_getElem hn)
    have h0' : ad.add 0 = ad := by unfold Addr.add; simp
    rw [h0'] at h0
    have hs := spot_of_cell h0
    obtain ⟨b, off, spot⟩ := ad
    obtain rfl : spot = none := hs
    exact ⟨b, off, rfl, fun j u hu => by rw [← add_lit]; exact h.at_ _ rfl j u hu⟩

#print axioms run_append_row
end Go.Proofs.YtpnpnajheaijaaaDoor
