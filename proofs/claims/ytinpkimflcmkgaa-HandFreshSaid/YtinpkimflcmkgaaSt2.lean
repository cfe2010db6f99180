/-
  The stack of layer 14: slices.Clone, slices.Clip and cut at its two element types.
  Conditions: sizes within what Go's memory holds.
-/
import Derived.Test.YtinpkimflcmkgaaSt1
namespace Go.Proofs.Ytinpkimflcmkgaa
open Go Go.RowKit

theorem el_u64 : Elem Try.prog 30 31 1 8 (.int .u64 0) := Elem.of Try.underlying30 (by kernel_rfl) rfl

set_option maxRecDepth 100000 in
theorem clone_u64 {ao : Option Addr} {n cap : Nat} {xs : List Value} {R : List Blk} (w : World) (hsrc : Src w ao n cap 1 xs) (hH : Has w R) (h1 : ∀ u ∈ xs, u.oneCell' = true) (hn : n * 8 ≤ 140737488355328) :
    Calls Try.prog 58 #[.slice ao n cap] w fun e w' => ∃ ao' cap' l', e = .returned (.slice ao' n cap') ∧ Row 31 1 ao' n cap' xs l' ∧ Turn R w (l' ++ R) w' ∧ (ao' = none ↔ ao = none) := by
  cases ao with
  | none =>
    obtain ⟨rfl, rfl⟩ := hsrc.nil rfl
    have hx : xs = [] := List.eq_nil_of_length_eq_zero (by simpa using hsrc.len)
    subst hx
    have hnil := fun W : World => Lib.run_eql_slice_nil (P := Try.prog) W 30 31 none 0 0 0 0 Try.underlying30
    go_enter Try.func58, Try.ntmps58
    go_wp2
    go_ret
    exact ⟨none, 0, [], rfl, Row.nil _ _, Turn.refl hH, by simp⟩
  | some ad =>
    have hl : xs.length = n := by simpa using hsrc.len
    have hs := hsrc.at_ ad rfl
    have hnil := fun W : World => Lib.run_eql_slice_nil (P := Try.prog) W 30 31 (some ad) n cap 0 0 Try.underlying30
    have hT := (Turn.refl hH).alloc (.cells #[] 31)
    have hrow : Row 31 1 (some ⟨w.heap.size, 0, none⟩) 0 0 [] [(w.heap.size, .cells #[] 31)] := ⟨rfl, Nat.le_refl _, Nat.zero_le _, .inr ⟨_, _, rfl, rfl, Nat.zero_le _, rfl⟩⟩
    have hnews : ∀ j u, xs[j]? = some u → (w.alloc (.cells #[] 31)).cell? (ad.add j) = some u := (hsrc.alloc _).at_ ad rfl
    have hmax : 0 + n ≤ maxLen := by unfold maxLen; omega
    have Hlen : xs.length = n * 1 := by omega
    have Hlen' := Lib.hid Hlen
    clear hl Hlen
    go_enter Try.func58, Try.ntmps58
    go_wp2_with (at_builtin; refine wpList_append_row rfl _ _ rfl el_u64 rfl hrow hT.has rfl Hlen'.out hnews h1 hmax (by omega) ?_; intro ao' cap' l' w' hr ht hno)
    go_ret
    exact ⟨ao', cap', l', by simp, by simpa using hr, hT.trans ht |>.perm (by exact List.Perm.refl _), by simpa using hno⟩

set_option maxRecDepth 100000 in
theorem clip_u64 (ao : Option Addr) (n cap : Nat) (w : World) (hc : n ≤ cap) :
    Calls Try.prog 87 #[.slice ao n cap] w fun e w' => e = .returned (.slice ao n n) ∧ w = w' := by
  go_enter Try.func87, Try.ntmps87
  go_wp2
  go_ret
  exact ⟨by simp, rfl⟩

set_option maxRecDepth 100000 in
theorem cut_u64 (ao : Option Addr) (n cap k : Nat) (w : World) (hc : n ≤ cap) (hn : cap ≤ maxLen) (hk : k ≤ n) :
    Calls Try.prog 61 #[.slice ao n cap, .int .i64 k] w fun e w' => e = .returned (.slice ao (n - k) (n - k)) ∧ w = w' := by
  have hn' := hn
  unfold maxLen at hn'
  have hk' : ((n : Int) - (k : Int)).toNat = n - k := by omega
  have hw1 : IntKind.i64.wrap ((n : Int) - (k : Int)) = (n : Int) - (k : Int) := IntWalk.i64_in _ (by omega)
  go_enter Try.func61, Try.ntmps61
  go_wp2_with (go_at_call 87; refine (clip_u64 _ _ _ _ (by omega)).mono ?_; rintro e w' ⟨rfl, rfl⟩)
  go_ret
  exact ⟨by simp, rfl⟩

theorem el_int : Elem Try.prog 59 3 1 8 (.int .i64 0) := Elem.of Try.underlying59 (by kernel_rfl) rfl

set_option maxRecDepth 100000 in
theorem clone_int {ao : Option Addr} {n cap : Nat} {xs : List Value} {R : List Blk} (w : World) (hsrc : Src w ao n cap 1 xs) (hH : Has w R) (h1 : ∀ u ∈ xs, u.oneCell' = true) (hn : n * 8 ≤ 140737488355328) :
    Calls Try.prog 79 #[.slice ao n cap] w fun e w' => ∃ ao' cap' l', e = .returned (.slice ao' n cap') ∧ Row 3 1 ao' n cap' xs l' ∧ Turn R w (l' ++ R) w' ∧ (ao' = none ↔ ao = none) := by
  cases ao with
  | none =>
    obtain ⟨rfl, rfl⟩ := hsrc.nil rfl
    have hx : xs = [] := List.eq_nil_of_length_eq_zero (by simpa using hsrc.len)
    subst hx
    have hnil := fun W : World => Lib.run_eql_slice_nil (P := Try.prog) W 59 3 none 0 0 0 0 Try.underlying59
    go_enter Try.func79, Try.ntmps79
    go_wp2
    go_ret
    exact ⟨none, 0, [], rfl, Row.nil _ _, Turn.refl hH, by simp⟩
  | some ad =>
    have hl : xs.length = n := by simpa using hsrc.len
    have hs := hsrc.at_ ad rfl
    have hnil := fun W : World => Lib.run_eql_slice_nil (P := Try.prog) W 59 3 (some ad) n cap 0 0 Try.underlying59
    have hT := (Turn.refl hH).alloc (.cells #[] 3)
    have hrow : Row 3 1 (some ⟨w.heap.size, 0, none⟩) 0 0 [] [(w.heap.size, .cells #[] 3)] := ⟨rfl, Nat.le_refl _, Nat.zero_le _, .inr ⟨_, _, rfl, rfl, Nat.zero_le _, rfl⟩⟩
    have hnews : ∀ j u, xs[j]? = some u → (w.alloc (.cells #[] 3)).cell? (ad.add j) = some u := (hsrc.alloc _).at_ ad rfl
    have hmax : 0 + n ≤ maxLen := by unfold maxLen; omega
    have Hlen : xs.length = n * 1 := by omega
    have Hlen' := Lib.hid Hlen
    clear hl Hlen
    go_enter Try.func79, Try.ntmps79
    go_wp2_with (at_builtin; refine wpList_append_row rfl _ _ rfl el_int rfl hrow hT.has rfl Hlen'.out hnews h1 hmax (by omega) ?_; intro ao' cap' l' w' hr ht hno)
    go_ret
    exact ⟨ao', cap', l', by simp, by simpa using hr, hT.trans ht |>.perm (by exact List.Perm.refl _), by simpa using hno⟩

set_option maxRecDepth 100000 in
theorem clip_int (ao : Option Addr) (n cap : Nat) (w : World) (hc : n ≤ cap) :
    Calls Try.prog 90 #[.slice ao n cap] w fun e w' => e = .returned (.slice ao n n) ∧ w = w' := by
  go_enter Try.func90, Try.ntmps90
  go_wp2
  go_ret
  exact ⟨by simp, rfl⟩

set_option maxRecDepth 100000 in
theorem cut_int (ao : Option Addr) (n cap k : Nat) (w : World) (hc : n ≤ cap) (hn : cap ≤ maxLen) (hk : k ≤ n) :
    Calls Try.prog 75 #[.slice ao n cap, .int .i64 k] w fun e w' => e = .returned (.slice ao (n - k) (n - k)) ∧ w = w' := by
  have hn' := hn
  unfold maxLen at hn'
  have hk' : ((n : Int) - (k : Int)).toNat = n - k := by omega
  have hw1 : IntKind.i64.wrap ((n : Int) - (k : Int)) = (n : Int) - (k : Int) := IntWalk.i64_in _ (by omega)
  go_enter Try.func75, Try.ntmps75
  go_wp2_with (go_at_call 90; refine (clip_int _ _ _ _ (by omega)).mono ?_; rintro e w' ⟨rfl, rfl⟩)
  go_ret
  exact ⟨by simp, rfl⟩
end Go.Proofs.Ytinpkimflcmkgaa
