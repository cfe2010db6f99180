/-
  The table of hands: Len, List, Refs of a table that is owned; of none.
  Conditions: a table; or none.
-/
import Derived.Test.YtinpkimflcmkgaaHd10
import Derived.Test.YtinpkimflcmkgaaSt6
namespace Go.Proofs.Ytinpkimflcmkgaa
open Go Go.RowKit Go.Shelf

theorem Turn.of_below {L : List Blk} {w w' : World} (hH : Has w L) (hB : Below w.heap.size w w') : Turn L w L w' :=
  ⟨hB.os, hB.tape, hB.output, hB.size, ⟨hH.nd, fun b o hm => (hB.block b (hH.lt (mem_keys.2 ⟨o, hm⟩))).trans (hH.own b o hm)⟩, fun _ hb => .inl hb, fun b hb _ => hB.block b hb⟩

/-- A slice of its own behind the call is one block more. -/
theorem Turn.of_owns {L : List Blk} {w w' : World} {e : TypeId} {size k : Nat} {v : Value} {xs : List Value} (hH : Has w L) (hB : Below w.heap.size w w') (ho : w'.ownsRow w.heap.size e size v k xs) :
    ∃ ao cap l', v = .slice ao k cap ∧ Row e size ao k cap xs l' ∧ Turn L w (l' ++ L) w' := by
  have T := Turn.of_below hH hB
  obtain ⟨hl, ⟨rfl, rfl⟩ | ⟨g, cap, cur, rfl, hg, hgb, hk, hc, hs, ht⟩⟩ := ho
  · have hx : xs = [] := List.eq_nil_of_length_eq_zero (by simpa using hl)
    subst hx
    exact ⟨none, 0, [], rfl, Row.nil _ _, T⟩
  · refine ⟨some ⟨g, 0, none⟩, cap, [(g, .cells cur e)], rfl, ⟨hl, hk, hc, .inr ⟨g, cur, rfl, rfl, by omega, ht⟩⟩, T.os, T.tape, T.output, T.size, ⟨?_, fun b o hm => ?_⟩, fun b hb => ?_, T.same⟩
    · rw [List.singleton_append, keys_cons, List.nodup_cons]
      refine ⟨fun hm => ?_, hH.nd⟩
      have := hH.lt hm
      omega
    · rw [List.singleton_append] at hm
      rcases List.mem_cons.1 hm with h | h
      · cases h; exact hgb
      · exact T.has.own b o h
    · rw [List.singleton_append, keys_cons] at hb
      rcases List.mem_cons.1 hb with rfl | h
      · exact .inr hg
      · exact .inl h

section
variable {b : Nat} {S : List HSlot} {l R : List Blk}

theorem HandsIs.pointed {w : World} (hS : HandsIs b S l) (hH : Has w (l ++ R)) : Pointed w.heap.size w (some ⟨b, 0, none⟩) S := by
  obtain ⟨hok, g, cur, rfl, hc⟩ := hS
  exact .inr ⟨b, g, rfl, hH.lt (by simp), hH.lt (by simp), hcells hc hH⟩

theorem hLen_any (w : World) (hS : HandsIs b S l) (hH : Has w (l ++ R)) :
    Calls Try.prog 18 #[.pointer (some ⟨b, 0, none⟩)] w fun e w' => e = .returned (.int .i64 ((livingOf S S.length).length : Nat)) ∧ Turn (l ++ R) w (l ++ R) w' :=
  ((callsIn_wide (n := 3)).1 (hLen_in Fence.wide 3 trivial trivial trivial rfl (Nat.le_refl _) _ S hS.1.len w (hS.pointed hH))).mono fun _ _ ⟨he, hB⟩ => ⟨he, Turn.of_below hH hB⟩

def SlicePost (e : TypeId) (xs : List Int) (L : List Blk) (w : World) (en : Ending) (w' : World) : Prop :=
  ∃ ao cap l', en = .returned (.slice ao xs.length cap) ∧ Row e 1 ao xs.length cap (u64s xs) l' ∧ Turn L w (l' ++ L) w'

theorem addrsOf_length (S : List HSlot) (is : List Nat) : (addrsOf S is).length = is.length := by simp [addrsOf]
theorem handsOf_length (S : List HSlot) (is : List Nat) : (handsOf S is).length = is.length := by simp [handsOf]

theorem hRefs_own (w : World) (hS : HandsIs b S l) (hH : Has w (l ++ R)) :
    Calls Try.prog 53 #[.pointer (some ⟨b, 0, none⟩)] w (SlicePost 31 (addrsOf S (livingOf S S.length)) (l ++ R) w) :=
  (hRefs_any _ S hS.1.len w (hS.pointed hH)).mono fun e w' ⟨v, he, ho, _, hB⟩ => by
    obtain ⟨ao, cap, l', rfl, hr, T⟩ := Turn.of_owns hH hB ho
    rw [← addrsOf_length S] at he hr
    exact ⟨ao, cap, l', he, hr, T⟩

theorem hList_own (w : World) (hS : HandsIs b S l) (hH : Has w (l ++ R)) :
    Calls Try.prog 19 #[.pointer (some ⟨b, 0, none⟩)] w (SlicePost 32 (handsOf S (livingOf S S.length)) (l ++ R) w) :=
  (hList_any _ S hS.1.len hS.1.small w (hS.pointed hH)).mono fun e w' ⟨v, he, ho, _, hB⟩ => by
    obtain ⟨ao, cap, l', rfl, hr, T⟩ := Turn.of_owns hH hB ho
    rw [← handsOf_length S] at he hr
    exact ⟨ao, cap, l', he, hr, T⟩
end

namespace handNil
variable {R : List Blk}

theorem nLen (w : World) (hH : Has w R) : Calls Try.prog 18 #[.pointer none] w fun e w' => e = .returned (.int .i64 0) ∧ Turn R w R w' :=
  ((callsIn_wide (n := 3)).1 (hLen_in Fence.wide 3 trivial trivial trivial rfl (Nat.le_refl _) none [] (Nat.zero_le _) w (.inl ⟨rfl, rfl⟩))).mono fun _ _ ⟨he, hB⟩ => ⟨he, Turn.of_below hH hB⟩
theorem nRefs (w : World) (hH : Has w R) : Calls Try.prog 53 #[.pointer none] w fun e w' => e = .returned (.slice none 0 0) ∧ Turn R w R w' :=
  (hRefs_any none [] (Nat.zero_le _) w (.inl ⟨rfl, rfl⟩)).mono fun _ _ ⟨v, he, _, hn, hB⟩ => ⟨by rw [he, hn.2 rfl], Turn.of_below hH hB⟩
theorem nList (w : World) (hH : Has w R) : Calls Try.prog 19 #[.pointer none] w fun e w' => e = .returned (.slice none 0 0) ∧ Turn R w R w' :=
  (hList_any none [] (Nat.zero_le _) (fun s h => by cases h) w (.inl ⟨rfl, rfl⟩)).mono fun _ _ ⟨v, he, _, hn, hB⟩ => ⟨by rw [he, hn.2 rfl], Turn.of_below hH hB⟩
end handNil
end Go.Proofs.Ytinpkimflcmkgaa
