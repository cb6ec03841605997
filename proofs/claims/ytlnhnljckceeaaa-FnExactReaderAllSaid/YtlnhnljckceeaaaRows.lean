/-
  No cell of these rows narrows 'for every input' (looked for: loops, veiled, ifaces, maps, wideKeys, modest, calm, conditions, laid).
  DERIVED. THE GIVEN ROWS OF THIS SEAT. 10 by the template 'for every input the law returns true; each argument reads behind the call as it read before'; 0 by the template 'total and deterministic' (their statements: YtlnhnljckceeaaaTotals.lean).
  GIVEN WITH THE SEED: the statements are not yours to turn. If you find one false, say at which input.
  Laid BY PROGRAM, IN A SANDBOX (cutbox-rows.mjs): the forced cells as the released guide's own fill.sh prints them over the translation 9e0839ed7c526429… (all of the seat's roots in one cut). By AI agents, Wed Nov 11 2026. No macro, syntax, notation, axiom, sorry.
-/
import Derived.Test.YtlnhnljckceeaaaChecked
import GoSem.Claim
import GoSem.ClaimJoined
import GoSem.ClaimMapViews
import Derived.JoinedTies
import Derived.KernelRfl
namespace Go.Proofs.Ytlnhnljckceeaaa
/- THE CELL 'sum', in the pinned program and in every row, IS THE sha256 OF THE DUMP (.gsa) THAT YtlnhnljckceeaaaProg.lean LOADS. Nothing in Lean hashes anything: it is a label: what it is worth is what the hold of that sum in a sandbox is worth. -/
noncomputable def Try.pinned : Pinned := { name := "ytlnhnljckceeaaa", sum := "9e0839ed7c526429a70543252a7d7ae43085a9b6e7caf177ced162756253db8a", checked := Try.checked }
namespace Rows
def none {H : Type} : Left H := { results := [], args := [] }

/-- 'laws.FnTakeLost': WHATEVER THE INPUT: true; the input reads as it did. -/
def fnTakeLostSpec : ChangeSpec := { name := "fnTakeLost", fn := fun _ => fun
  | [d] => { results := [.lit (.bool true)], args := [d] }
  | _ => none }
def fnTakeLostRow : OpenClaim := { program := "ytlnhnljckceeaaa", sum := "9e0839ed7c526429a70543252a7d7ae43085a9b6e7caf177ced162756253db8a", func := "loop.example/mediarelay/laws.FnTakeLost", spec := "fnTakeLost", unfollowed := true, recurses := true, apart := false }
def FnTakeLostSaid : Prop := fnTakeLostRow.holds Try.pinned (OpenSpec.ofChange fnTakeLostSpec)

/-- ITS FALSE NEIGHBOUR: 'it returns false'. Refute it at one input. -/
def fnTakeLostWrong : ChangeSpec := { name := "fnTakeLost", fn := fun _ => fun
  | [d] => { results := [.lit (.bool false)], args := [d] }
  | _ => none }
def FnTakeLostWrongFalsely : Prop := fnTakeLostRow.holds Try.pinned (OpenSpec.ofChange fnTakeLostWrong)

/-- 'laws.FnTakeNone': WHATEVER THE INPUT: true; the input reads as it did. -/
def fnTakeNoneSpec : ChangeSpec := { name := "fnTakeNone", fn := fun _ => fun
  | [d] => { results := [.lit (.bool true)], args := [d] }
  | _ => none }
def fnTakeNoneRow : OpenClaim := { program := "ytlnhnljckceeaaa", sum := "9e0839ed7c526429a70543252a7d7ae43085a9b6e7caf177ced162756253db8a", func := "loop.example/mediarelay/laws.FnTakeNone", spec := "fnTakeNone", unfollowed := true, recurses := true, apart := false }
def FnTakeNoneSaid : Prop := fnTakeNoneRow.holds Try.pinned (OpenSpec.ofChange fnTakeNoneSpec)

/-- ITS FALSE NEIGHBOUR: 'it returns false'. Refute it at one input. -/
def fnTakeNoneWrong : ChangeSpec := { name := "fnTakeNone", fn := fun _ => fun
  | [d] => { results := [.lit (.bool false)], args := [d] }
  | _ => none }
def FnTakeNoneWrongFalsely : Prop := fnTakeNoneRow.holds Try.pinned (OpenSpec.ofChange fnTakeNoneWrong)

/-- 'laws.FnTakeWait': WHATEVER THE INPUT: true; the input reads as it did. -/
def fnTakeWaitSpec : ChangeSpec := { name := "fnTakeWait", fn := fun _ => fun
  | [d] => { results := [.lit (.bool true)], args := [d] }
  | _ => none }
def fnTakeWaitRow : OpenClaim := { program := "ytlnhnljckceeaaa", sum := "9e0839ed7c526429a70543252a7d7ae43085a9b6e7caf177ced162756253db8a", func := "loop.example/mediarelay/laws.FnTakeWait", spec := "fnTakeWait", unfollowed := true, recurses := true, apart := false }
def FnTakeWaitSaid : Prop := fnTakeWaitRow.holds Try.pinned (OpenSpec.ofChange fnTakeWaitSpec)

/-- ITS FALSE NEIGHBOUR: 'it returns false'. Refute it at one input. -/
def fnTakeWaitWrong : ChangeSpec := { name := "fnTakeWait", fn := fun _ => fun
  | [d] => { results := [.lit (.bool false)], args := [d] }
  | _ => none }
def FnTakeWaitWrongFalsely : Prop := fnTakeWaitRow.holds Try.pinned (OpenSpec.ofChange fnTakeWaitWrong)

/-- 'laws.FnExactReaderTake': WHATEVER THE INPUT: true; the input reads as it did. -/
def fnExactReaderTakeSpec : ChangeSpec := { name := "fnExactReaderTake", fn := fun _ => fun
  | [d1, d2] => { results := [.lit (.bool true)], args := [d1, d2] }
  | _ => none }
def fnExactReaderTakeRow : OpenClaim := { program := "ytlnhnljckceeaaa", sum := "9e0839ed7c526429a70543252a7d7ae43085a9b6e7caf177ced162756253db8a", func := "loop.example/mediarelay/laws.FnExactReaderTake", spec := "fnExactReaderTake", unfollowed := true, recurses := true, apart := false }
def FnExactReaderTakeSaid : Prop := fnExactReaderTakeRow.holds Try.pinned (OpenSpec.ofChange fnExactReaderTakeSpec)

/-- ITS FALSE NEIGHBOUR: 'it returns false'. Refute it at one input. -/
def fnExactReaderTakeWrong : ChangeSpec := { name := "fnExactReaderTake", fn := fun _ => fun
  | [d1, d2] => { results := [.lit (.bool false)], args := [d1, d2] }
  | _ => none }
def FnExactReaderTakeWrongFalsely : Prop := fnExactReaderTakeRow.holds Try.pinned (OpenSpec.ofChange fnExactReaderTakeWrong)

/-- 'laws.FnTake': WHATEVER THE INPUT: true; the input reads as it did. -/
def fnTakeSpec : ChangeSpec := { name := "fnTake", fn := fun _ => fun
  | [d] => { results := [.lit (.bool true)], args := [d] }
  | _ => none }
def fnTakeRow : OpenClaim := { program := "ytlnhnljckceeaaa", sum := "9e0839ed7c526429a70543252a7d7ae43085a9b6e7caf177ced162756253db8a", func := "loop.example/mediarelay/laws.FnTake", spec := "fnTake", unfollowed := true, recurses := true, apart := false }
def FnTakeSaid : Prop := fnTakeRow.holds Try.pinned (OpenSpec.ofChange fnTakeSpec)

/-- ITS FALSE NEIGHBOUR: 'it returns false'. Refute it at one input. -/
def fnTakeWrong : ChangeSpec := { name := "fnTake", fn := fun _ => fun
  | [d] => { results := [.lit (.bool false)], args := [d] }
  | _ => none }
def FnTakeWrongFalsely : Prop := fnTakeRow.holds Try.pinned (OpenSpec.ofChange fnTakeWrong)

/-- 'laws.FnTakeLostKey': WHATEVER THE INPUT: true; the input reads as it did. -/
def fnTakeLostKeySpec : ChangeSpec := { name := "fnTakeLostKey", fn := fun _ => fun
  | [d] => { results := [.lit (.bool true)], args := [d] }
  | _ => none }
def fnTakeLostKeyRow : OpenClaim := { program := "ytlnhnljckceeaaa", sum := "9e0839ed7c526429a70543252a7d7ae43085a9b6e7caf177ced162756253db8a", func := "loop.example/mediarelay/laws.FnTakeLostKey", spec := "fnTakeLostKey", unfollowed := true, recurses := true, apart := false }
def FnTakeLostKeySaid : Prop := fnTakeLostKeyRow.holds Try.pinned (OpenSpec.ofChange fnTakeLostKeySpec)

/-- ITS FALSE NEIGHBOUR: 'it returns false'. Refute it at one input. -/
def fnTakeLostKeyWrong : ChangeSpec := { name := "fnTakeLostKey", fn := fun _ => fun
  | [d] => { results := [.lit (.bool false)], args := [d] }
  | _ => none }
def FnTakeLostKeyWrongFalsely : Prop := fnTakeLostKeyRow.holds Try.pinned (OpenSpec.ofChange fnTakeLostKeyWrong)

/-- 'laws.FnAll': WHATEVER THE INPUT: true; the input reads as it did. -/
def fnAllSpec : ChangeSpec := { name := "fnAll", fn := fun _ => fun
  | [d] => { results := [.lit (.bool true)], args := [d] }
  | _ => none }
def fnAllRow : OpenClaim := { program := "ytlnhnljckceeaaa", sum := "9e0839ed7c526429a70543252a7d7ae43085a9b6e7caf177ced162756253db8a", func := "loop.example/mediarelay/laws.FnAll", spec := "fnAll", unfollowed := true, recurses := true, apart := false }
def FnAllSaid : Prop := fnAllRow.holds Try.pinned (OpenSpec.ofChange fnAllSpec)

/-- ITS FALSE NEIGHBOUR: 'it returns false'. Refute it at one input. -/
def fnAllWrong : ChangeSpec := { name := "fnAll", fn := fun _ => fun
  | [d] => { results := [.lit (.bool false)], args := [d] }
  | _ => none }
def FnAllWrongFalsely : Prop := fnAllRow.holds Try.pinned (OpenSpec.ofChange fnAllWrong)

/-- 'laws.FnAllOrder': WHATEVER THE INPUT: true; the input reads as it did. -/
def fnAllOrderSpec : ChangeSpec := { name := "fnAllOrder", fn := fun _ => fun
  | [d] => { results := [.lit (.bool true)], args := [d] }
  | _ => none }
def fnAllOrderRow : OpenClaim := { program := "ytlnhnljckceeaaa", sum := "9e0839ed7c526429a70543252a7d7ae43085a9b6e7caf177ced162756253db8a", func := "loop.example/mediarelay/laws.FnAllOrder", spec := "fnAllOrder", unfollowed := true, recurses := true, apart := false }
def FnAllOrderSaid : Prop := fnAllOrderRow.holds Try.pinned (OpenSpec.ofChange fnAllOrderSpec)

/-- ITS FALSE NEIGHBOUR: 'it returns false'. Refute it at one input. -/
def fnAllOrderWrong : ChangeSpec := { name := "fnAllOrder", fn := fun _ => fun
  | [d] => { results := [.lit (.bool false)], args := [d] }
  | _ => none }
def FnAllOrderWrongFalsely : Prop := fnAllOrderRow.holds Try.pinned (OpenSpec.ofChange fnAllOrderWrong)

/-- 'laws.FnAllTwice': WHATEVER THE INPUT: true; the input reads as it did. -/
def fnAllTwiceSpec : ChangeSpec := { name := "fnAllTwice", fn := fun _ => fun
  | [d] => { results := [.lit (.bool true)], args := [d] }
  | _ => none }
def fnAllTwiceRow : OpenClaim := { program := "ytlnhnljckceeaaa", sum := "9e0839ed7c526429a70543252a7d7ae43085a9b6e7caf177ced162756253db8a", func := "loop.example/mediarelay/laws.FnAllTwice", spec := "fnAllTwice", unfollowed := true, recurses := true, apart := false }
def FnAllTwiceSaid : Prop := fnAllTwiceRow.holds Try.pinned (OpenSpec.ofChange fnAllTwiceSpec)

/-- ITS FALSE NEIGHBOUR: 'it returns false'. Refute it at one input. -/
def fnAllTwiceWrong : ChangeSpec := { name := "fnAllTwice", fn := fun _ => fun
  | [d] => { results := [.lit (.bool false)], args := [d] }
  | _ => none }
def FnAllTwiceWrongFalsely : Prop := fnAllTwiceRow.holds Try.pinned (OpenSpec.ofChange fnAllTwiceWrong)

/-- 'laws.FnExactReaderAll': WHATEVER THE INPUT: true; the input reads as it did. -/
def fnExactReaderAllSpec : ChangeSpec := { name := "fnExactReaderAll", fn := fun _ => fun
  | [d1, d2] => { results := [.lit (.bool true)], args := [d1, d2] }
  | _ => none }
def fnExactReaderAllRow : OpenClaim := { program := "ytlnhnljckceeaaa", sum := "9e0839ed7c526429a70543252a7d7ae43085a9b6e7caf177ced162756253db8a", func := "loop.example/mediarelay/laws.FnExactReaderAll", spec := "fnExactReaderAll", unfollowed := true, recurses := true, apart := false }
def FnExactReaderAllSaid : Prop := fnExactReaderAllRow.holds Try.pinned (OpenSpec.ofChange fnExactReaderAllSpec)

/-- ITS FALSE NEIGHBOUR: 'it returns false'. Refute it at one input. -/
def fnExactReaderAllWrong : ChangeSpec := { name := "fnExactReaderAll", fn := fun _ => fun
  | [d1, d2] => { results := [.lit (.bool false)], args := [d1, d2] }
  | _ => none }
def FnExactReaderAllWrongFalsely : Prop := fnExactReaderAllRow.holds Try.pinned (OpenSpec.ofChange fnExactReaderAllWrong)

/- THE SECOND FORM. 'bulk': how many values and letters a reading holds, each counted each time it is reached (what is shared counts as often as it is met; a slice's spare places count too). A statement '..UptoSaid' is the law's where the arguments, and the package variables that the reading takes, are together of bulk at most 1048576: NARROWER than '..Said'. Prove '..Said' where nothing that the law and all that it calls make is longer than what came in: it says more and counts as full. Else prove '..UptoSaid'. A law counts once. -/
mutual
def uptoBulk {H : Type} : DataW H → Nat
  | .lit (.string bytes) => bytes.length + 1
  | .lit _ => 1
  | .nil => 1
  | .ptr d => uptoBulk d + 1
  | .slice elems spare => uptoBulkAll elems + uptoBulkAll spare + 1
  | .agg parts => uptoBulkAll parts + 1
  | .iface _ d => uptoBulk d + 1
  | .map entries => uptoBulkEntries entries + 1
  | .held _ => 1
def uptoBulkAll {H : Type} : List (DataW H) → Nat
  | [] => 0
  | d :: r => uptoBulk d + uptoBulkAll r
def uptoBulkEntries {H : Type} : List (Lit × DataW H) → Nat
  | [] => 0
  | x :: r => uptoBulkEntry x + uptoBulkEntries r
def uptoBulkEntry {H : Type} : Lit × DataW H → Nat
  | (.string bytes, d) => bytes.length + uptoBulk d + 1
  | (_, d) => uptoBulk d + 1
 end
def uptoSmall : (H : Type) → List (DataW H) → Bool := fun _ ds => decide (uptoBulkAll ds ≤ 1048576)
def OpenSpec.upto (s : _root_.Go.ChangeSpec) : _root_.Go.OpenSpec := { _root_.Go.OpenSpec.ofChange s with cond := some uptoSmall }

/-- 'laws.FnTakeLost', WHERE WHAT IT READS IS OF BULK AT MOST 1048576: true; the input reads as it did. -/
def fnTakeLostUptoRow : OpenClaim := { program := "ytlnhnljckceeaaa", sum := "9e0839ed7c526429a70543252a7d7ae43085a9b6e7caf177ced162756253db8a", func := "loop.example/mediarelay/laws.FnTakeLost", spec := "fnTakeLost", unfollowed := true, recurses := true, apart := false, narrowed := true }
def FnTakeLostUptoSaid : Prop := fnTakeLostUptoRow.holds Try.pinned (OpenSpec.upto fnTakeLostSpec)

/-- 'laws.FnTakeNone', WHERE WHAT IT READS IS OF BULK AT MOST 1048576: true; the input reads as it did. -/
def fnTakeNoneUptoRow : OpenClaim := { program := "ytlnhnljckceeaaa", sum := "9e0839ed7c526429a70543252a7d7ae43085a9b6e7caf177ced162756253db8a", func := "loop.example/mediarelay/laws.FnTakeNone", spec := "fnTakeNone", unfollowed := true, recurses := true, apart := false, narrowed := true }
def FnTakeNoneUptoSaid : Prop := fnTakeNoneUptoRow.holds Try.pinned (OpenSpec.upto fnTakeNoneSpec)

/-- 'laws.FnTakeWait', WHERE WHAT IT READS IS OF BULK AT MOST 1048576: true; the input reads as it did. -/
def fnTakeWaitUptoRow : OpenClaim := { program := "ytlnhnljckceeaaa", sum := "9e0839ed7c526429a70543252a7d7ae43085a9b6e7caf177ced162756253db8a", func := "loop.example/mediarelay/laws.FnTakeWait", spec := "fnTakeWait", unfollowed := true, recurses := true, apart := false, narrowed := true }
def FnTakeWaitUptoSaid : Prop := fnTakeWaitUptoRow.holds Try.pinned (OpenSpec.upto fnTakeWaitSpec)

/-- 'laws.FnExactReaderTake', WHERE WHAT IT READS IS OF BULK AT MOST 1048576: true; the input reads as it did. -/
def fnExactReaderTakeUptoRow : OpenClaim := { program := "ytlnhnljckceeaaa", sum := "9e0839ed7c526429a70543252a7d7ae43085a9b6e7caf177ced162756253db8a", func := "loop.example/mediarelay/laws.FnExactReaderTake", spec := "fnExactReaderTake", unfollowed := true, recurses := true, apart := false, narrowed := true }
def FnExactReaderTakeUptoSaid : Prop := fnExactReaderTakeUptoRow.holds Try.pinned (OpenSpec.upto fnExactReaderTakeSpec)

/-- 'laws.FnTake', WHERE WHAT IT READS IS OF BULK AT MOST 1048576: true; the input reads as it did. -/
def fnTakeUptoRow : OpenClaim := { program := "ytlnhnljckceeaaa", sum := "9e0839ed7c526429a70543252a7d7ae43085a9b6e7caf177ced162756253db8a", func := "loop.example/mediarelay/laws.FnTake", spec := "fnTake", unfollowed := true, recurses := true, apart := false, narrowed := true }
def FnTakeUptoSaid : Prop := fnTakeUptoRow.holds Try.pinned (OpenSpec.upto fnTakeSpec)

/-- 'laws.FnTakeLostKey', WHERE WHAT IT READS IS OF BULK AT MOST 1048576: true; the input reads as it did. -/
def fnTakeLostKeyUptoRow : OpenClaim := { program := "ytlnhnljckceeaaa", sum := "9e0839ed7c526429a70543252a7d7ae43085a9b6e7caf177ced162756253db8a", func := "loop.example/mediarelay/laws.FnTakeLostKey", spec := "fnTakeLostKey", unfollowed := true, recurses := true, apart := false, narrowed := true }
def FnTakeLostKeyUptoSaid : Prop := fnTakeLostKeyUptoRow.holds Try.pinned (OpenSpec.upto fnTakeLostKeySpec)

/-- 'laws.FnAll', WHERE WHAT IT READS IS OF BULK AT MOST 1048576: true; the input reads as it did. -/
def fnAllUptoRow : OpenClaim := { program := "ytlnhnljckceeaaa", sum := "9e0839ed7c526429a70543252a7d7ae43085a9b6e7caf177ced162756253db8a", func := "loop.example/mediarelay/laws.FnAll", spec := "fnAll", unfollowed := true, recurses := true, apart := false, narrowed := true }
def FnAllUptoSaid : Prop := fnAllUptoRow.holds Try.pinned (OpenSpec.upto fnAllSpec)

/-- 'laws.FnAllOrder', WHERE WHAT IT READS IS OF BULK AT MOST 1048576: true; the input reads as it did. -/
def fnAllOrderUptoRow : OpenClaim := { program := "ytlnhnljckceeaaa", sum := "9e0839ed7c526429a70543252a7d7ae43085a9b6e7caf177ced162756253db8a", func := "loop.example/mediarelay/laws.FnAllOrder", spec := "fnAllOrder", unfollowed := true, recurses := true, apart := false, narrowed := true }
def FnAllOrderUptoSaid : Prop := fnAllOrderUptoRow.holds Try.pinned (OpenSpec.upto fnAllOrderSpec)

/-- 'laws.FnAllTwice', WHERE WHAT IT READS IS OF BULK AT MOST 1048576: true; the input reads as it did. -/
def fnAllTwiceUptoRow : OpenClaim := { program := "ytlnhnljckceeaaa", sum := "9e0839ed7c526429a70543252a7d7ae43085a9b6e7caf177ced162756253db8a", func := "loop.example/mediarelay/laws.FnAllTwice", spec := "fnAllTwice", unfollowed := true, recurses := true, apart := false, narrowed := true }
def FnAllTwiceUptoSaid : Prop := fnAllTwiceUptoRow.holds Try.pinned (OpenSpec.upto fnAllTwiceSpec)

/-- 'laws.FnExactReaderAll', WHERE WHAT IT READS IS OF BULK AT MOST 1048576: true; the input reads as it did. -/
def fnExactReaderAllUptoRow : OpenClaim := { program := "ytlnhnljckceeaaa", sum := "9e0839ed7c526429a70543252a7d7ae43085a9b6e7caf177ced162756253db8a", func := "loop.example/mediarelay/laws.FnExactReaderAll", spec := "fnExactReaderAll", unfollowed := true, recurses := true, apart := false, narrowed := true }
def FnExactReaderAllUptoSaid : Prop := fnExactReaderAllUptoRow.holds Try.pinned (OpenSpec.upto fnExactReaderAllSpec)

end Rows
end Go.Proofs.Ytlnhnljckceeaaa
