/-
  The line of a report, and the report of a line, as plain functions on bytes: a text cut at its spaces, numerals, and that the two undo each other.
  Conditions: none; plain lists, no program.
-/
import Derived.Lib.AtoiAllCases
import Derived.Lib.ItoaLen
import Derived.Lib.SplitLaws
import Derived.Lib.Join
namespace Go.Proofs.YtpnpnajheaijaaaDoor
open Go.Lib

/-- A text cut at its spaces. -/
def pieces : List UInt8 → List (List UInt8)
  | [] => [[]]
  | c :: r => if c = 32 then [] :: pieces r else match pieces r with
    | [] => [[c]]
    | p :: ps => (c :: p) :: ps

theorem pieces_cons (s : List UInt8) : ∃ p ps, pieces s = p :: ps := by
  cases s with
  | nil => exact ⟨_, _, rfl⟩
  | cons c r =>
    unfold pieces
    by_cases h : c = 32
    · rw [if_pos h]; exact ⟨_, _, rfl⟩
    · rw [if_neg h]
      cases pieces r with
      | nil => exact ⟨_, _, rfl⟩
      | cons p ps => exact ⟨_, _, rfl⟩

theorem pieces_space (r : List UInt8) : pieces (32 :: r) = [] :: pieces r := by rw [pieces, if_pos rfl]
theorem pieces_other {c : UInt8} {r p : List UInt8} {ps : List (List UInt8)} (h : c ≠ 32) (hp : pieces r = p :: ps) : pieces (c :: r) = (c :: p) :: ps := by
  rw [pieces, if_neg h, hp]

theorem index_space (l : List UInt8) : index (32 :: l) [32] = 0 := by rw [index]; simp [List.isPrefixOf]
theorem index_other {b : UInt8} (l : List UInt8) (h : b ≠ 32) : index (b :: l) [32] = if index l [32] == -1 then -1 else index l [32] + 1 := by
  have hp : ([32] : List UInt8).isPrefixOf (b :: l) = false := by simp [List.isPrefixOf, Ne.symm h]
  rw [index, hp]
  simp

/-- The library's cut is this one. -/
theorem splitK_pieces : ∀ s : List UInt8, splitK [32] 0 (s.count 32) s = pieces s
  | [] => rfl
  | b :: l => by
    have ih := splitK_pieces l
    by_cases h : b = 32
    · subst h
      rw [List.count_cons_self, pieces_space, ← ih, splitK, index_space]
      simp
    · rw [List.count_cons_of_ne h]
      cases hk : l.count 32 with
      | zero =>
        rw [hk] at ih
        exact (pieces_other h ih.symm).symm
      | succ j =>
        have hne : index l [32] ≠ -1 := fun e => by
          have := count_miss e
          rw [count_one, hk] at this
          omega
        have hge := index_ge l [32]
        obtain ⟨i, hi⟩ : ∃ i : Nat, index l [32] = i := ⟨(index l [32]).toNat, by omega⟩
        have hib : (index l [32] == -1) = false := by simpa using hne
        have hib2 : (((i : Int) + 1) == -1) = false := by rw [beq_eq_false_iff_ne]; omega
        rw [hk, splitK, hib, if_neg (by simp), hi] at ih
        have hio : index (b :: l) [32] = (i : Int) + 1 := by rw [index_other l h, hib, if_neg (by simp), hi]
        rw [splitK, hio, hib2, if_neg (by simp), pieces_other h ih.symm]
        have e1 : ((i : Int) + 1).toNat = i + 1 := by omega
        rw [e1]
        simp

theorem splitB_pieces (s : ByteArray) : (splitB ⟨#[32]⟩ 0 (countB s ⟨#[32]⟩) s).map (·.data.toList) = pieces s.data.toList := by
  rw [splitB_data]
  show splitK [32] 0 (count s.data.toList [32]) s.data.toList = _
  rw [count_one, splitK_pieces]

theorem pieces_one : ∀ {x : List UInt8}, 32 ∉ x → pieces x = [x]
  | [], _ => rfl
  | c :: r, h => pieces_other (fun e => h (by simp [e])) (pieces_one (fun hm => h (List.mem_cons_of_mem _ hm)))

theorem pieces_append : ∀ {x : List UInt8} (t : List UInt8), 32 ∉ x → pieces (x ++ 32 :: t) = x :: pieces t
  | [], t, _ => pieces_space t
  | c :: r, t, h => pieces_other (fun e => h (by simp [e])) (pieces_append t (fun hm => h (List.mem_cons_of_mem _ hm)))

theorem joinTail_cons (y : List UInt8) (r : List (List UInt8)) : joinTail [32] (y :: r) = 32 :: join (y :: r) [32] := by
  rw [join_cons]
  simp [joinTail]

theorem pieces_join : ∀ (r : List (List UInt8)) (x : List UInt8), 32 ∉ x → (∀ y ∈ r, 32 ∉ y) → pieces (join (x :: r) [32]) = x :: r
  | [], x, hx, _ => by rw [join_one]; exact pieces_one hx
  | y :: r, x, hx, hr => by
    rw [join_cons, joinTail_cons, pieces_append _ hx, pieces_join r y (hr y (by simp)) (fun z hz => hr z (List.mem_cons_of_mem _ hz))]

theorem join_pieces : ∀ s : List UInt8, join (pieces s) [32] = s
  | [] => rfl
  | c :: l => by
    have ih := join_pieces l
    obtain ⟨p, ps, hp⟩ := pieces_cons l
    rw [hp] at ih
    by_cases h : c = 32
    · subst h
      rw [pieces_space, hp, join_cons, joinTail_cons, ih]
      rfl
    · rw [pieces_other h hp, join_cons]
      rw [join_cons] at ih
      rw [List.cons_append, ih]

/-! ### numerals -/

theorem decDigits_digit (u : Nat) : ∀ b ∈ decDigits u, 48 ≤ b.toNat ∧ b.toNat ≤ 57 := by
  induction u using Nat.strongRecOn with
  | _ u ih =>
    intro b hb
    rw [decDigits] at hb
    by_cases h : u < 10
    · rw [dif_pos h, List.mem_singleton] at hb
      subst hb
      rw [UInt8.toNat_ofNat']
      omega
    · rw [dif_neg h, List.mem_append, List.mem_singleton] at hb
      rcases hb with hb | rfl
      · exact ih (u / 10) (by omega) b hb
      · rw [UInt8.toNat_ofNat']
        omega

theorem parseUint10_snoc : ∀ (l : List UInt8) (acc v : Nat) (d : Nat), parseUint10 acc l = .ok v → d < 10 → v * 10 + d < 18446744073709551616 → parseUint10 acc (l ++ [UInt8.ofNat (48 + d)]) = .ok (v * 10 + d)
  | [], acc, v, d, h, hd, hv => by
    simp only [parseUint10] at h
    injection h with h
    subst h
    have hc : (UInt8.ofNat (48 + d)).toNat = 48 + d := by rw [UInt8.toNat_ofNat']; omega
    rw [List.nil_append, parseUint10, hc, if_pos (by omega), if_neg (by omega), if_neg (by omega), parseUint10]
    rw [Nat.add_sub_cancel_left]
  | c :: r, acc, v, d, h, hd, hv => by
    rw [List.cons_append]
    simp only [parseUint10] at h ⊢
    by_cases h1 : 48 ≤ c.toNat ∧ c.toNat ≤ 57
    · rw [if_pos h1] at h ⊢
      by_cases h2 : 1844674407370955162 ≤ acc
      · rw [if_pos h2] at h; cases h
      · rw [if_neg h2] at h ⊢
        by_cases h3 : 18446744073709551616 ≤ acc * 10 + (c.toNat - 48)
        · rw [if_pos h3] at h; cases h
        · rw [if_neg h3] at h ⊢
          exact parseUint10_snoc r _ v d h hd hv
    · rw [if_neg h1] at h; cases h

theorem parse_decDigits (u : Nat) (h : u < 18446744073709551616) : parseUint10 0 (decDigits u) = .ok u := by
  induction u using Nat.strongRecOn with
  | _ u ih =>
    by_cases h10 : u < 10
    · have := parseUint10_snoc [] 0 0 u rfl h10 (by omega)
      rw [decDigits, dif_pos h10]
      simpa using this
    · rw [decDigits, dif_neg h10, parseUint10_snoc _ 0 (u / 10) (u % 10) (ih (u / 10) (by omega) (by omega)) (by omega) (by omega)]
      congr 1
      omega

theorem decDigits_ne (u : Nat) : decDigits u ≠ [] := by
  rw [decDigits]
  by_cases h : u < 10
  · rw [dif_pos h]; simp
  · rw [dif_neg h]; simp

def I64 (n : Int) : Prop := -9223372036854775808 ≤ n ∧ n ≤ 9223372036854775807

theorem atoiAll_itoa (n : Int) (h : I64 n) : atoiAll (itoa n) = .ok n := by
  obtain ⟨h0, h1⟩ := h
  by_cases hn : n < 0
  · have hm : parseMag (decDigits n.natAbs) = .ok n.natAbs := by
      unfold parseMag
      rw [if_neg (decDigits_ne _), parse_decDigits _ (by omega)]
    rw [itoa, if_pos hn, atoiAll_minus, hm]
    unfold signed
    simp only
    rw [if_neg (by omega)]
    congr 1
    omega
  · have hm : parseMag (decDigits n.toNat) = .ok n.toNat := by
      unfold parseMag
      rw [if_neg (decDigits_ne _), parse_decDigits _ (by omega)]
    rw [itoa, if_neg hn]
    cases hd : decDigits n.toNat with
    | nil => exact absurd hd (decDigits_ne _)
    | cons c r =>
      have hc := decDigits_digit n.toNat c (by rw [hd]; simp)
      rw [atoiAll_plain c r (by omega) (by omega), ← hd, hm]
      unfold signless
      simp only
      rw [if_neg (by omega)]
      congr 1
      omega

theorem itoa_noSpace (n : Int) : 32 ∉ itoa n := by
  intro hm
  unfold itoa at hm
  by_cases hn : n < 0
  · rw [if_pos hn] at hm
    rcases List.mem_cons.1 hm with h | h
    · exact absurd h (by decide)
    · have := decDigits_digit _ _ h
      exact absurd this (by decide)
  · rw [if_neg hn] at hm
    have := decDigits_digit _ _ hm
    exact absurd this (by decide)

/-- The number that strconv.Atoi hands back, whatever the error. -/
def atoiVal (l : List UInt8) : Int := match atoiAll l with
  | .ok v => v
  | .range => atoiSat l
  | _ => 0

theorem atoiVal_itoa (n : Int) (h : I64 n) : atoiVal (itoa n) = n := by unfold atoiVal; rw [atoiAll_itoa n h]

theorem atoiVal_bound (l : List UInt8) : I64 (atoiVal l) := by
  unfold atoiVal I64
  rcases h : atoiAll l with v | _ | _
  · exact atoiAll_bounds h
  · exact ⟨by show (-9223372036854775808 : Int) ≤ 0; omega, by show (0 : Int) ≤ 9223372036854775807; omega⟩
  · simp only [atoiSat]
    split <;> omega

/-! ### lines -/

def gc : List UInt8 := [103, 99]
def line (r : List Int) : List UInt8 := join (gc :: r.map itoa) [32]
def readF (s : List UInt8) : Option (List Int) :=
  if (pieces s).head? = some gc ∧ (pieces s).length = 22 ∧ ∀ w ∈ (pieces s).tail, itoa (atoiVal w) = w then some ((pieces s).tail.map atoiVal) else none

theorem pieces_line (r : List Int) : pieces (line r) = gc :: r.map itoa :=
  pieces_join _ _ (by decide) fun y hy => by
    obtain ⟨v, -, rfl⟩ := List.mem_map.1 hy
    exact itoa_noSpace v

theorem map_atoiVal {r : List Int} (h : ∀ v ∈ r, I64 v) : (r.map itoa).map atoiVal = r := by
  rw [List.map_map]
  conv => rhs; rw [← List.map_id r]
  exact List.map_congr_left fun v hv => atoiVal_itoa v (h v hv)

theorem readF_line (r : List Int) (hl : r.length = 21) (h : ∀ v ∈ r, I64 v) : readF (line r) = some r := by
  have hc : (pieces (line r)).head? = some gc ∧ (pieces (line r)).length = 22 ∧ ∀ w ∈ (pieces (line r)).tail, itoa (atoiVal w) = w := by
    rw [pieces_line]
    refine ⟨by rfl, by simp [hl], fun w hw => ?_⟩
    obtain ⟨v, hv, rfl⟩ := List.mem_map.1 hw
    rw [atoiVal_itoa v (h v hv)]
  unfold readF
  rw [if_pos hc, pieces_line, List.tail_cons, map_atoiVal h]

theorem readF_back {s : List UInt8} {r : List Int} (h : readF s = some r) : line r = s ∧ r.length = 21 ∧ (∀ v ∈ r, I64 v) ∧ r = (pieces s).tail.map atoiVal ∧ (pieces s).length = 22 := by
  unfold readF at h
  split at h
  · rename_i hc
    obtain ⟨h1, h2, h3⟩ := hc
    cases h
    obtain ⟨p, ps, hp⟩ := pieces_cons s
    rw [hp] at h1 h2 h3 ⊢
    have hpg : p = gc := by simpa using h1
    subst hpg
    simp only [List.tail_cons] at h3 ⊢
    refine ⟨?_, ?_, ?_, by trivial, h2⟩
    · have hmap : (ps.map atoiVal).map itoa = ps := by
        rw [List.map_map]
        conv => rhs; rw [← List.map_id ps]
        exact List.map_congr_left fun w hw => h3 w hw
      unfold line
      rw [hmap, ← hp, join_pieces]
    · simpa using h2
    · intro v hv
      obtain ⟨w, -, rfl⟩ := List.mem_map.1 hv
      exact atoiVal_bound w
  · cases h

/-- As the reference reads: by what would be told of it. -/
theorem readF_ref (s : List UInt8) : readF s = if (pieces s).length = 22 ∧ line ((pieces s).tail.map atoiVal) = s then some ((pieces s).tail.map atoiVal) else none := by
  by_cases h : (pieces s).length = 22 ∧ line ((pieces s).tail.map atoiVal) = s
  · rw [if_pos h]
    obtain ⟨h1, h2⟩ := h
    have := readF_line ((pieces s).tail.map atoiVal) (by rw [List.length_map, List.length_tail]; omega) (fun v hv => by
      obtain ⟨w, -, rfl⟩ := List.mem_map.1 hv
      exact atoiVal_bound w)
    rw [h2] at this
    exact this
  · rw [if_neg h]
    cases hr : readF s with
    | none => rfl
    | some r =>
      obtain ⟨h1, -, -, h2, h3⟩ := readF_back hr
      exact absurd ⟨h3, by rw [← h2]; exact h1⟩ h
end Go.Proofs.YtpnpnajheaijaaaDoor
