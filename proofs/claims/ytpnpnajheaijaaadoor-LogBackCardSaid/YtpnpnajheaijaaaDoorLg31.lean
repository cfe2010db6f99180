/-
  The law LogBack at whatever arguments.
  Conditions: none.
-/
import Derived.Test.YtpnpnajheaijaaaDoorLg30
import Derived.Test.YtpnpnajheaijaaaDoorRp
namespace Go.Proofs.YtpnpnajheaijaaaDoor
open Go Go.RowKit Go.ChangeShapes Go.WideShapes Go.ChangeAt Go.Deep

theorem logBack_all (w : World) (hE : Env w) (ao : Option Addr) (n cap : Nat) (mx at_ : Int) (hmx : 0 ≤ mx ∧ mx ≤ 255) (hat : 0 ≤ at_ ∧ at_ ≤ 255) (s : ByteArray) (hnc : n ≤ cap) (xs : List (List Int)) (hx : ∀ r ∈ xs, RepOk r) (hs : Src w ao n cap 21 (reps xs)) :
    Calls Tryd.prog 4 (backArgs ao n cap mx at_ s) w fun e w' => e = .returned (.bool true) ∧ Below w.heap.size w w' := by
  by_cases hl : 100 < n ∨ 1024 < s.size
  · exact logBack_long w hE ao n cap mx at_ s hl
  obtain ⟨m, rfl⟩ := Int.eq_ofNat_of_zero_le hmx.1
  obtain ⟨a, rfl⟩ := Int.eq_ofNat_of_zero_le hat.1
  exact logBack_any w hE ao n cap m a (by omega) (by omega) s (by omega) (by omega) hnc xs hx hs
end Go.Proofs.YtpnpnajheaijaaaDoor
