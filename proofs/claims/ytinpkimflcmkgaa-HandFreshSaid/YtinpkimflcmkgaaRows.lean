/-
  No cell of these rows narrows 'for every input' (looked for: loops, veiled, ifaces, maps, wideKeys, modest, calm, conditions, laid).
  DERIVED. THE GIVEN ROWS OF THIS SEAT. 8 by the template 'for every input the law returns true; each argument reads behind the call as it read before'; 0 by the template 'total and deterministic' (their statements: YtinpkimflcmkgaaTotals.lean).
  GIVEN WITH THE SEED: the statements are not yours to turn. If you find one false, say at which input.
  Laid BY PROGRAM, IN A SANDBOX (cutbox-rows.mjs): the forced cells as the released guide's own fill.sh prints them over the translation 339a0ee3ea0b77f0… (all of the seat's roots in one cut). By AI agents, Wed Nov 11 2026. No macro, syntax, notation, axiom, sorry.
-/
import Derived.Test.YtinpkimflcmkgaaChecked
import GoSem.Claim
import GoSem.ClaimJoined
import GoSem.ClaimMapViews
import Derived.JoinedTies
import Derived.KernelRfl
namespace Go.Proofs.Ytinpkimflcmkgaa
/- THE CELL 'sum', in the pinned program and in every row, IS THE sha256 OF THE DUMP (.gsa) THAT YtinpkimflcmkgaaProg.lean LOADS. Nothing in Lean hashes anything: it is a label: what it is worth is what the hold of that sum in a sandbox is worth. -/
noncomputable def Try.pinned : Pinned := { name := "ytinpkimflcmkgaa", sum := "339a0ee3ea0b77f0987b29446148116930cf34a132d8e2e8f396629d906fc700", checked := Try.checked }
namespace Rows
def none {H : Type} : Left H := { results := [], args := [] }

/-- 'skerrylaw15.HandFresh': WHATEVER THE INPUT: true; the input reads as it did. -/
def handFreshSpec : ChangeSpec := { name := "handFresh", fn := fun _ => fun
  | [d1, d2] => { results := [.lit (.bool true)], args := [d1, d2] }
  | _ => none }
def handFreshRow : OpenClaim := { program := "ytinpkimflcmkgaa", sum := "339a0ee3ea0b77f0987b29446148116930cf34a132d8e2e8f396629d906fc700", func := "skerry/skerrylaw15.HandFresh", spec := "handFresh", unfollowed := true, recurses := true, apart := false }
def HandFreshSaid : Prop := handFreshRow.holds Try.pinned (OpenSpec.ofChange handFreshSpec)

/-- ITS FALSE NEIGHBOUR: 'it returns false'. Refute it at one input. -/
def handFreshWrong : ChangeSpec := { name := "handFresh", fn := fun _ => fun
  | [d1, d2] => { results := [.lit (.bool false)], args := [d1, d2] }
  | _ => none }
def HandFreshWrongFalsely : Prop := handFreshRow.holds Try.pinned (OpenSpec.ofChange handFreshWrong)

/-- 'skerrylaw14.StackTop': WHATEVER THE INPUT: true; the input reads as it did. -/
def stackTopSpec : ChangeSpec := { name := "stackTop", fn := fun _ => fun
  | [d] => { results := [.lit (.bool true)], args := [d] }
  | _ => none }
def stackTopRow : OpenClaim := { program := "ytinpkimflcmkgaa", sum := "339a0ee3ea0b77f0987b29446148116930cf34a132d8e2e8f396629d906fc700", func := "skerry/skerrylaw14.StackTop", spec := "stackTop", unfollowed := true, recurses := true, apart := false }
def StackTopSaid : Prop := stackTopRow.holds Try.pinned (OpenSpec.ofChange stackTopSpec)

/-- ITS FALSE NEIGHBOUR: 'it returns false'. Refute it at one input. -/
def stackTopWrong : ChangeSpec := { name := "stackTop", fn := fun _ => fun
  | [d] => { results := [.lit (.bool false)], args := [d] }
  | _ => none }
def StackTopWrongFalsely : Prop := stackTopRow.holds Try.pinned (OpenSpec.ofChange stackTopWrong)

/-- 'skerrylaw16.WeakGone': WHATEVER THE INPUT: true; the input reads as it did. -/
def weakGoneSpec : ChangeSpec := { name := "weakGone", fn := fun _ => fun
  | [d1, d2] => { results := [.lit (.bool true)], args := [d1, d2] }
  | _ => none }
def weakGoneRow : OpenClaim := { program := "ytinpkimflcmkgaa", sum := "339a0ee3ea0b77f0987b29446148116930cf34a132d8e2e8f396629d906fc700", func := "skerry/skerrylaw16.WeakGone", spec := "weakGone", unfollowed := true, recurses := true, apart := false }
def WeakGoneSaid : Prop := weakGoneRow.holds Try.pinned (OpenSpec.ofChange weakGoneSpec)

/-- ITS FALSE NEIGHBOUR: 'it returns false'. Refute it at one input. -/
def weakGoneWrong : ChangeSpec := { name := "weakGone", fn := fun _ => fun
  | [d1, d2] => { results := [.lit (.bool false)], args := [d1, d2] }
  | _ => none }
def WeakGoneWrongFalsely : Prop := weakGoneRow.holds Try.pinned (OpenSpec.ofChange weakGoneWrong)

/-- 'skerrylaw14.StackFrames': WHATEVER THE INPUT: true; the input reads as it did. -/
def stackFramesSpec : ChangeSpec := { name := "stackFrames", fn := fun _ => fun
  | [d1, d2, d3] => { results := [.lit (.bool true)], args := [d1, d2, d3] }
  | _ => none }
def stackFramesRow : OpenClaim := { program := "ytinpkimflcmkgaa", sum := "339a0ee3ea0b77f0987b29446148116930cf34a132d8e2e8f396629d906fc700", func := "skerry/skerrylaw14.StackFrames", spec := "stackFrames", unfollowed := true, recurses := true, apart := false }
def StackFramesSaid : Prop := stackFramesRow.holds Try.pinned (OpenSpec.ofChange stackFramesSpec)

/-- ITS FALSE NEIGHBOUR: 'it returns false'. Refute it at one input. -/
def stackFramesWrong : ChangeSpec := { name := "stackFrames", fn := fun _ => fun
  | [d1, d2, d3] => { results := [.lit (.bool false)], args := [d1, d2, d3] }
  | _ => none }
def StackFramesWrongFalsely : Prop := stackFramesRow.holds Try.pinned (OpenSpec.ofChange stackFramesWrong)

/-- 'skerrylaw16.WeakNil': WHATEVER THE INPUT: true; the input reads as it did. -/
def weakNilSpec : ChangeSpec := { name := "weakNil", fn := fun _ => fun
  | [d1, d2, d3] => { results := [.lit (.bool true)], args := [d1, d2, d3] }
  | _ => none }
def weakNilRow : OpenClaim := { program := "ytinpkimflcmkgaa", sum := "339a0ee3ea0b77f0987b29446148116930cf34a132d8e2e8f396629d906fc700", func := "skerry/skerrylaw16.WeakNil", spec := "weakNil", unfollowed := true, recurses := true, apart := false }
def WeakNilSaid : Prop := weakNilRow.holds Try.pinned (OpenSpec.ofChange weakNilSpec)

/-- ITS FALSE NEIGHBOUR: 'it returns false'. Refute it at one input. -/
def weakNilWrong : ChangeSpec := { name := "weakNil", fn := fun _ => fun
  | [d1, d2, d3] => { results := [.lit (.bool false)], args := [d1, d2, d3] }
  | _ => none }
def WeakNilWrongFalsely : Prop := weakNilRow.holds Try.pinned (OpenSpec.ofChange weakNilWrong)

/-- 'skerrylaw14.StackPlays': WHATEVER THE INPUT: true; the input reads as it did. -/
def stackPlaysSpec : ChangeSpec := { name := "stackPlays", fn := fun _ => fun
  | [d1, d2] => { results := [.lit (.bool true)], args := [d1, d2] }
  | _ => none }
def stackPlaysRow : OpenClaim := { program := "ytinpkimflcmkgaa", sum := "339a0ee3ea0b77f0987b29446148116930cf34a132d8e2e8f396629d906fc700", func := "skerry/skerrylaw14.StackPlays", spec := "stackPlays", unfollowed := true, recurses := true, apart := false }
def StackPlaysSaid : Prop := stackPlaysRow.holds Try.pinned (OpenSpec.ofChange stackPlaysSpec)

/-- ITS FALSE NEIGHBOUR: 'it returns false'. Refute it at one input. -/
def stackPlaysWrong : ChangeSpec := { name := "stackPlays", fn := fun _ => fun
  | [d1, d2] => { results := [.lit (.bool false)], args := [d1, d2] }
  | _ => none }
def StackPlaysWrongFalsely : Prop := stackPlaysRow.holds Try.pinned (OpenSpec.ofChange stackPlaysWrong)

/-- 'skerrylaw14.StackNil': WHATEVER THE INPUT: true; the input reads as it did. -/
def stackNilSpec : ChangeSpec := { name := "stackNil", fn := fun _ => fun
  | [d1, d2] => { results := [.lit (.bool true)], args := [d1, d2] }
  | _ => none }
def stackNilRow : OpenClaim := { program := "ytinpkimflcmkgaa", sum := "339a0ee3ea0b77f0987b29446148116930cf34a132d8e2e8f396629d906fc700", func := "skerry/skerrylaw14.StackNil", spec := "stackNil", unfollowed := true, recurses := true, apart := false }
def StackNilSaid : Prop := stackNilRow.holds Try.pinned (OpenSpec.ofChange stackNilSpec)

/-- ITS FALSE NEIGHBOUR: 'it returns false'. Refute it at one input. -/
def stackNilWrong : ChangeSpec := { name := "stackNil", fn := fun _ => fun
  | [d1, d2] => { results := [.lit (.bool false)], args := [d1, d2] }
  | _ => none }
def StackNilWrongFalsely : Prop := stackNilRow.holds Try.pinned (OpenSpec.ofChange stackNilWrong)

/-- 'skerrylaw15.HandNil': WHATEVER THE INPUT: true; the input reads as it did. -/
def handNilSpec : ChangeSpec := { name := "handNil", fn := fun _ => fun
  | [d1, d2, d3] => { results := [.lit (.bool true)], args := [d1, d2, d3] }
  | _ => none }
def handNilRow : OpenClaim := { program := "ytinpkimflcmkgaa", sum := "339a0ee3ea0b77f0987b29446148116930cf34a132d8e2e8f396629d906fc700", func := "skerry/skerrylaw15.HandNil", spec := "handNil", unfollowed := true, recurses := true, apart := false }
def HandNilSaid : Prop := handNilRow.holds Try.pinned (OpenSpec.ofChange handNilSpec)

/-- ITS FALSE NEIGHBOUR: 'it returns false'. Refute it at one input. -/
def handNilWrong : ChangeSpec := { name := "handNil", fn := fun _ => fun
  | [d1, d2, d3] => { results := [.lit (.bool false)], args := [d1, d2, d3] }
  | _ => none }
def HandNilWrongFalsely : Prop := handNilRow.holds Try.pinned (OpenSpec.ofChange handNilWrong)

/- THE SECOND FORM. 'bulk': how many values and letters a reading holds, each counted each time it is reached (what is shared counts as often as it is met; a slice's spare places count too). A statement '..UptoSaid' is the law's where the arguments, and the package variables that the reading takes, are together of bulk at most 1048576: NARROWER than '..Said'. Prove '..Said' where nothing that the law and all that it calls make is longer than what came in: it says more and counts as full. Else prove '..UptoSaid'. A law counts once. -/
mutual
def uptoBulk {H : Type} : DataW H → Nat
  | .lit (.string bytes) => bytes.length + 1
  | .lit _ => 1
  | .nil => 1
  | .ptr d => uptoBulk d + 1
  | .slice elems spare => uptoBulkAll elems + uptoBulkAll spare + 1
  | .agg parts => uptoBulkAll parts + 1
  | .iface _ d => uptoBulk d + 1
  | .map entries => uptoBulkEntries entries + 1
  | .held _ => 1
def uptoBulkAll {H : Type} : List (DataW H) → Nat
  | [] => 0
  | d :: r => uptoBulk d + uptoBulkAll r
def uptoBulkEntries {H : Type} : List (Lit × DataW H) → Nat
  | [] => 0
  | x :: r => uptoBulkEntry x + uptoBulkEntries r
def uptoBulkEntry {H : Type} : Lit × DataW H → Nat
  | (.string bytes, d) => bytes.length + uptoBulk d + 1
  | (_, d) => uptoBulk d + 1
 end
def uptoSmall : (H : Type) → List (DataW H) → Bool := fun _ ds => decide (uptoBulkAll ds ≤ 1048576)
def OpenSpec.upto (s : _root_.Go.ChangeSpec) : _root_.Go.OpenSpec := { _root_.Go.OpenSpec.ofChange s with cond := some uptoSmall }

/-- 'skerrylaw15.HandFresh', WHERE WHAT IT READS IS OF BULK AT MOST 1048576: true; the input reads as it did. -/
def handFreshUptoRow : OpenClaim := { program := "ytinpkimflcmkgaa", sum := "339a0ee3ea0b77f0987b29446148116930cf34a132d8e2e8f396629d906fc700", func := "skerry/skerrylaw15.HandFresh", spec := "handFresh", unfollowed := true, recurses := true, apart := false, narrowed := true }
def HandFreshUptoSaid : Prop := handFreshUptoRow.holds Try.pinned (OpenSpec.upto handFreshSpec)

/-- 'skerrylaw14.StackTop', WHERE WHAT IT READS IS OF BULK AT MOST 1048576: true; the input reads as it did. -/
def stackTopUptoRow : OpenClaim := { program := "ytinpkimflcmkgaa", sum := "339a0ee3ea0b77f0987b29446148116930cf34a132d8e2e8f396629d906fc700", func := "skerry/skerrylaw14.StackTop", spec := "stackTop", unfollowed := true, recurses := true, apart := false, narrowed := true }
def StackTopUptoSaid : Prop := stackTopUptoRow.holds Try.pinned (OpenSpec.upto stackTopSpec)

/-- 'skerrylaw16.WeakGone', WHERE WHAT IT READS IS OF BULK AT MOST 1048576: true; the input reads as it did. -/
def weakGoneUptoRow : OpenClaim := { program := "ytinpkimflcmkgaa", sum := "339a0ee3ea0b77f0987b29446148116930cf34a132d8e2e8f396629d906fc700", func := "skerry/skerrylaw16.WeakGone", spec := "weakGone", unfollowed := true, recurses := true, apart := false, narrowed := true }
def WeakGoneUptoSaid : Prop := weakGoneUptoRow.holds Try.pinned (OpenSpec.upto weakGoneSpec)

/-- 'skerrylaw14.StackFrames', WHERE WHAT IT READS IS OF BULK AT MOST 1048576: true; the input reads as it did. -/
def stackFramesUptoRow : OpenClaim := { program := "ytinpkimflcmkgaa", sum := "339a0ee3ea0b77f0987b29446148116930cf34a132d8e2e8f396629d906fc700", func := "skerry/skerrylaw14.StackFrames", spec := "stackFrames", unfollowed := true, recurses := true, apart := false, narrowed := true }
def StackFramesUptoSaid : Prop := stackFramesUptoRow.holds Try.pinned (OpenSpec.upto stackFramesSpec)

/-- 'skerrylaw16.WeakNil', WHERE WHAT IT READS IS OF BULK AT MOST 1048576: true; the input reads as it did. -/
def weakNilUptoRow : OpenClaim := { program := "ytinpkimflcmkgaa", sum := "339a0ee3ea0b77f0987b29446148116930cf34a132d8e2e8f396629d906fc700", func := "skerry/skerrylaw16.WeakNil", spec := "weakNil", unfollowed := true, recurses := true, apart := false, narrowed := true }
def WeakNilUptoSaid : Prop := weakNilUptoRow.holds Try.pinned (OpenSpec.upto weakNilSpec)

/-- 'skerrylaw14.StackPlays', WHERE WHAT IT READS IS OF BULK AT MOST 1048576: true; the input reads as it did. -/
def stackPlaysUptoRow : OpenClaim := { program := "ytinpkimflcmkgaa", sum := "339a0ee3ea0b77f0987b29446148116930cf34a132d8e2e8f396629d906fc700", func := "skerry/skerrylaw14.StackPlays", spec := "stackPlays", unfollowed := true, recurses := true, apart := false, narrowed := true }
def StackPlaysUptoSaid : Prop := stackPlaysUptoRow.holds Try.pinned (OpenSpec.upto stackPlaysSpec)

/-- 'skerrylaw14.StackNil', WHERE WHAT IT READS IS OF BULK AT MOST 1048576: true; the input reads as it did. -/
def stackNilUptoRow : OpenClaim := { program := "ytinpkimflcmkgaa", sum := "339a0ee3ea0b77f0987b29446148116930cf34a132d8e2e8f396629d906fc700", func := "skerry/skerrylaw14.StackNil", spec := "stackNil", unfollowed := true, recurses := true, apart := false, narrowed := true }
def StackNilUptoSaid : Prop := stackNilUptoRow.holds Try.pinned (OpenSpec.upto stackNilSpec)

/-- 'skerrylaw15.HandNil', WHERE WHAT IT READS IS OF BULK AT MOST 1048576: true; the input reads as it did. -/
def handNilUptoRow : OpenClaim := { program := "ytinpkimflcmkgaa", sum := "339a0ee3ea0b77f0987b29446148116930cf34a132d8e2e8f396629d906fc700", func := "skerry/skerrylaw15.HandNil", spec := "handNil", unfollowed := true, recurses := true, apart := false, narrowed := true }
def HandNilUptoSaid : Prop := handNilUptoRow.holds Try.pinned (OpenSpec.upto handNilSpec)

end Rows
end Go.Proofs.Ytinpkimflcmkgaa
