/-
  A region that draws its order, in a round of a loop over an iterator, at the wide fence: it goes as it goes anywhere.
  Conditions: none of its operations defers.
-/
import Derived.RangeFuncCalls
import Derived.Deep.RegionHeld
import Derived.OrdersIn
import Derived.TacticsIn
import Derived.Laws.AppendOwn
namespace Go.Proofs.YtpnpnajheaijaaaDoor
open Go

theorem wpIn_of_wp_round {n l : Nat} {P : Program} {o : Oper} {a : Act} {w : World} {K : Act → World → Prop} {Q : Exit → Act → World → Prop} (hd : ∀ c, o.op ≠ .defer c) (h : o.wp P a w K Q) :
    o.wpIn (Fence.wide.inRound l) n P a w K Q := by
  refine ⟨fun _ _ => trivial, ?_⟩
  rw [show (Fence.wide.inRound l).round = some l from rfl, Oper.semAt_some l _ _ hd]
  unfold Oper.wp at h
  generalize (execOp a.eval o).run P w = r at *
  cases r with
  | ok x w' =>
    cases x <;> simp only [Oper.upon, Oper.uponIn] at h ⊢ <;> first
      | exact h
      | exact ⟨(fun hx => by cases hx), CallsIn.inRound l (callsIn_wide.2 h)⟩
      | (refine ⟨(fun hx => by cases hx), fun c cs _ => ?_⟩
         obtain ⟨v, w'', hr, hs⟩ := h c cs
         exact ⟨v, w'', hr, (stepsIn_wide (P := P)).2 hs⟩)
  | halt x w' => cases x <;> simp only [Oper.upon, Oper.uponIn] at h ⊢ <;> exact h

def noDefers (ops : Array Oper) : Bool := ops.toList.all fun o => match o.op with | .defer _ => false | _ => true

theorem noDefers_at {ops : Array Oper} (h : noDefers ops = true) {i : Nat} {o : Oper} (hi : ops[i]? = some o) : ∀ c, o.op ≠ .defer c := by
  intro c hc
  have hm : o ∈ ops.toList := by
    rw [← Array.getElem?_toList] at hi
    exact List.mem_of_getElem? hi
  have := List.all_eq_true.1 h o hm
  rw [hc] at this
  cases this

section
variable {n l : Nat} {P : Program} {ops : Array Oper} {Q : Exit → Act → World → Prop} {md : Region.Mode}

theorem wpOpIn_round (hd : noDefers ops = true) (hq : ¬ LetsOut Q) {i : Nat} {K K' : Act → World → Prop} (hK : ∀ a w, K a w → K' a w) {a : Act} {w : World} (h : wpOp P ops Q i K a w) :
    wpOpIn (Fence.wide.inRound l) n P ops Q i K' a w := by
  unfold wpOp at h
  unfold wpOpIn
  cases ho : ops[i]? with
  | none => rw [ho] at h; exact hK _ _ h
  | some o =>
    rw [ho] at h
    simp only at h ⊢
    split
    · rename_i hw
      rw [if_pos hw] at h
      rcases h with h | ⟨-, h⟩
      · exact wpIn_of_wp_round (noDefers_at hd ho) (Oper.wp_mono hK h)
      · exact absurd h hq
    · rename_i hw
      rw [if_neg hw] at h
      exact ⟨fun _ _ => trivial, hK _ _ h⟩

theorem wpAnyIn_round (hd : noDefers ops = true) (hq : ¬ LetsOut Q) : ∀ (fuel : Nat) (listed : Array Bool) (a : Act) (w : World), wpAny P md ops Q fuel listed a w → wpAnyIn (Fence.wide.inRound l) n P md ops Q fuel listed a w
  | 0, _, _, _, h => h
  | fuel + 1, _, _, _, h => ⟨h.1, fun i hi => wpOpIn_round hd hq (fun a w => wpAnyIn_round hd hq fuel _ a w) (h.2 i hi)⟩

/-- The beginning: the region from the world behind the draw, a condition S on the world at hand. -/
theorem wpIn_region_round {id : Nat} {a : Act} {w : World} {S : World → Prop} (k : Nat) (L : List Bool) (hk : ops.size = k) (hL : (Array.replicate k false).toList = L) (hm : P.follows .mixedOrders = true) (hd : noDefers ops = true) (hq : ¬ LetsOut Q)
    (h : wpAnyH P .any ops Q S k L.toArray a w.drew) : (Code.region id ops true).wpIn (Fence.wide.inRound l) n P Q a w := by
  subst hk
  subst hL
  exact wpIn_region_any hm (wpAnyIn_round hd hq _ _ _ _ (wpAny_of_held _ _ _ _ h))

/-- An operation that yields its value in every world that meets S is taken first. -/
theorem takeH {S : World → Prop} {fuel : Nat} {w : World} (i d : Nat) {oi : Oper} {v : Value} {L : List Bool} {ts : List Value} {ds : List Deferred} (hi : ops[i]? = some oi) (hdst : oi.dst = some d) (hg : oi.guard = none)
    (hs : Region.noSelect ops = true) (hf : Region.free md ops L.toArray i = true) (hr : (Region.ready md ops L.toArray).contains i = true)
    (hQ : ∀ c (a : Act) v w, Q (.panic c) (a.put (some d) v) w → Q (.panic c) a w) (hS : S w)
    (hy : ∀ w, S w → (execOp (Act.eval { tmps := ts.toArray, defers := ds }) oi).run P w = .ok (.value v) w)
    (h : wpAnyH P md ops Q S fuel (L.set i true).toArray { tmps := (ts.set d v).toArray, defers := ds } w) : wpAnyH P md ops Q S (fuel + 1) L.toArray { tmps := ts.toArray, defers := ds } w := by
  refine wpAnyH_take hi hs hf hr (fun c a w h => hQ c a v w (by rw [← hdst]; exact h)) (Or.inl ⟨by simp [Region.wanted, hg], hy⟩) hS ?_
  simpa [Act.put, hdst] using h

theorem step_append_own {o : Oper} {ts : List Value} {ds : List Deferred} {K : Act → World → Prop} {E : Prop} (w : World) (d : Nat) (hdst : o.dst = some d) (hg : o.guard = none) (s x : Operand) (t : TypeId) (hop : o.op = Op.call { callee := Callee.builtin Builtin.append, args := #[s, x], argTypes := #[t, t] })
    (base : Nat) (e : TypeId) (i : TypeInfo) (z : Value) (size bytes : Nat) (h1 : P.underlying t = some (.slice e)) (h2 : P.info? e = some i) (h3 : i.zero = some z) (h4 : i.size = size) (h5 : i.bytes = bytes) (h6 : z.cells.size = size) (h7 : 0 < size)
    (v : Value) (k : Nat) (xs : List Value) (hs : Act.eval { tmps := ts.toArray, defers := ds } s = v) (hown : w.ownsRow base e size v k xs) (ad : Addr) (m c : Nat) (news : List Value) (hx : Act.eval { tmps := ts.toArray, defers := ds } x = .slice (some ad) m c) (hn : news.length = m * size)
    (hc : ∀ j u, news[j]? = some u → w.cell? (ad.add j) = some u) (h1c : ∀ u ∈ news, u.oneCell' = true) (b1 : k + m ≤ maxLen) (b2 : (k + m) * bytes ≤ 140737488355328) (b3 : base ≤ w.heap.size)
    (hK : ∀ v' w', w'.ownsRow base e size v' (k + m) (xs ++ news) → w.grownBy w' v.ownBlock → (v' = .slice none 0 0 ↔ v = .slice none 0 0 ∧ m = 0) → K { tmps := (ts.set d v').toArray, defers := ds } w') :
    if Region.wanted o (yielded ops (Act.tmps { tmps := ts.toArray, defers := ds })) = true then Oper.wp P o { tmps := ts.toArray, defers := ds } w K Q else E := by
  have hw : Region.wanted o (yielded ops (Act.tmps { tmps := ts.toArray, defers := ds })) = true := by simp [Region.wanted, hg]
  rw [if_pos hw]
  obtain ⟨v', w', hrun, r1, r2, r3⟩ := run_append_own (P := P) w base t o.type e i z size bytes h1 h2 h3 h4 h5 h6 h7 v k xs hown ad m c news hn hc h1c b1 b2 b3
  unfold Oper.wp
  simp [execOp, hop, resolve, invoke, builtin, hs, hx, hrun, Result.andThen]
  have := hK v' w' r1 r2 r3
  simpa [Oper.upon, Act.put, hdst] using this
end
end Go.Proofs.YtpnpnajheaijaaaDoor
