/-
  No cell of these rows narrows 'for every input' (looked for: loops, veiled, ifaces, maps, wideKeys, modest, calm, conditions, laid).
  DERIVED. THE GIVEN ROWS OF THIS SEAT. 6 by the template 'for every input the law returns true; each argument reads behind the call as it read before'; 0 by the template 'total and deterministic' (their statements: YtjdpagjcbhkonaaTotals.lean).
  GIVEN WITH THE SEED: the statements are not yours to turn. If you find one false, say at which input.
  Laid BY PROGRAM, IN A SANDBOX (cutbox-rows.mjs): the forced cells as the released guide's own fill.sh prints them over the translation 8d0ab0fc9f1b3acf… (all of the seat's roots in one cut). By AI agents, Wed Nov 11 2026. No macro, syntax, notation, axiom, sorry.
-/
import Derived.Test.YtjdpagjcbhkonaaChecked
import GoSem.Claim
import GoSem.ClaimJoined
import GoSem.ClaimMapViews
import Derived.JoinedTies
import Derived.KernelRfl
namespace Go.Proofs.Ytjdpagjcbhkonaa
/- THE CELL 'sum', in the pinned program and in every row, IS THE sha256 OF THE DUMP (.gsa) THAT YtjdpagjcbhkonaaProg.lean LOADS. Nothing in Lean hashes anything: it is a label: what it is worth is what the hold of that sum in a sandbox is worth. -/
noncomputable def Try.pinned : Pinned := { name := "ytjdpagjcbhkonaa", sum := "8d0ab0fc9f1b3acf699406bf1e8404ce872d380e47fc9693f38da4d2073d1976", checked := Try.checked }
namespace Rows
def none {H : Type} : Left H := { results := [], args := [] }

/-- 'laws.FnPictureBefore': WHATEVER THE INPUT: true; the input reads as it did. -/
def fnPictureBeforeSpec : ChangeSpec := { name := "fnPictureBefore", fn := fun _ => fun
  | [d] => { results := [.lit (.bool true)], args := [d] }
  | _ => none }
def fnPictureBeforeRow : OpenClaim := { program := "ytjdpagjcbhkonaa", sum := "8d0ab0fc9f1b3acf699406bf1e8404ce872d380e47fc9693f38da4d2073d1976", func := "loop.example/mediarelay/laws.FnPictureBefore", spec := "fnPictureBefore", unfollowed := true, recurses := true, apart := false }
def FnPictureBeforeSaid : Prop := fnPictureBeforeRow.holds Try.pinned (OpenSpec.ofChange fnPictureBeforeSpec)

/-- ITS FALSE NEIGHBOUR: 'it returns false'. Refute it at one input. -/
def fnPictureBeforeWrong : ChangeSpec := { name := "fnPictureBefore", fn := fun _ => fun
  | [d] => { results := [.lit (.bool false)], args := [d] }
  | _ => none }
def FnPictureBeforeWrongFalsely : Prop := fnPictureBeforeRow.holds Try.pinned (OpenSpec.ofChange fnPictureBeforeWrong)

/-- 'laws.FnPictureKey': WHATEVER THE INPUT: true; the input reads as it did. -/
def fnPictureKeySpec : ChangeSpec := { name := "fnPictureKey", fn := fun _ => fun
  | [d] => { results := [.lit (.bool true)], args := [d] }
  | _ => none }
def fnPictureKeyRow : OpenClaim := { program := "ytjdpagjcbhkonaa", sum := "8d0ab0fc9f1b3acf699406bf1e8404ce872d380e47fc9693f38da4d2073d1976", func := "loop.example/mediarelay/laws.FnPictureKey", spec := "fnPictureKey", unfollowed := true, recurses := true, apart := false }
def FnPictureKeySaid : Prop := fnPictureKeyRow.holds Try.pinned (OpenSpec.ofChange fnPictureKeySpec)

/-- ITS FALSE NEIGHBOUR: 'it returns false'. Refute it at one input. -/
def fnPictureKeyWrong : ChangeSpec := { name := "fnPictureKey", fn := fun _ => fun
  | [d] => { results := [.lit (.bool false)], args := [d] }
  | _ => none }
def FnPictureKeyWrongFalsely : Prop := fnPictureKeyRow.holds Try.pinned (OpenSpec.ofChange fnPictureKeyWrong)

/-- 'laws.FnPictureWhole': WHATEVER THE INPUT: true; the input reads as it did. -/
def fnPictureWholeSpec : ChangeSpec := { name := "fnPictureWhole", fn := fun _ => fun
  | [d] => { results := [.lit (.bool true)], args := [d] }
  | _ => none }
def fnPictureWholeRow : OpenClaim := { program := "ytjdpagjcbhkonaa", sum := "8d0ab0fc9f1b3acf699406bf1e8404ce872d380e47fc9693f38da4d2073d1976", func := "loop.example/mediarelay/laws.FnPictureWhole", spec := "fnPictureWhole", unfollowed := true, recurses := true, apart := false }
def FnPictureWholeSaid : Prop := fnPictureWholeRow.holds Try.pinned (OpenSpec.ofChange fnPictureWholeSpec)

/-- ITS FALSE NEIGHBOUR: 'it returns false'. Refute it at one input. -/
def fnPictureWholeWrong : ChangeSpec := { name := "fnPictureWhole", fn := fun _ => fun
  | [d] => { results := [.lit (.bool false)], args := [d] }
  | _ => none }
def FnPictureWholeWrongFalsely : Prop := fnPictureWholeRow.holds Try.pinned (OpenSpec.ofChange fnPictureWholeWrong)

/-- 'laws.FnPictures': WHATEVER THE INPUT: true; the input reads as it did. -/
def fnPicturesSpec : ChangeSpec := { name := "fnPictures", fn := fun _ => fun
  | [d] => { results := [.lit (.bool true)], args := [d] }
  | _ => none }
def fnPicturesRow : OpenClaim := { program := "ytjdpagjcbhkonaa", sum := "8d0ab0fc9f1b3acf699406bf1e8404ce872d380e47fc9693f38da4d2073d1976", func := "loop.example/mediarelay/laws.FnPictures", spec := "fnPictures", unfollowed := true, recurses := true, apart := false }
def FnPicturesSaid : Prop := fnPicturesRow.holds Try.pinned (OpenSpec.ofChange fnPicturesSpec)

/-- ITS FALSE NEIGHBOUR: 'it returns false'. Refute it at one input. -/
def fnPicturesWrong : ChangeSpec := { name := "fnPictures", fn := fun _ => fun
  | [d] => { results := [.lit (.bool false)], args := [d] }
  | _ => none }
def FnPicturesWrongFalsely : Prop := fnPicturesRow.holds Try.pinned (OpenSpec.ofChange fnPicturesWrong)

/-- 'laws.FnPicturesTime': WHATEVER THE INPUT: true; the input reads as it did. -/
def fnPicturesTimeSpec : ChangeSpec := { name := "fnPicturesTime", fn := fun _ => fun
  | [d] => { results := [.lit (.bool true)], args := [d] }
  | _ => none }
def fnPicturesTimeRow : OpenClaim := { program := "ytjdpagjcbhkonaa", sum := "8d0ab0fc9f1b3acf699406bf1e8404ce872d380e47fc9693f38da4d2073d1976", func := "loop.example/mediarelay/laws.FnPicturesTime", spec := "fnPicturesTime", unfollowed := true, recurses := true, apart := false }
def FnPicturesTimeSaid : Prop := fnPicturesTimeRow.holds Try.pinned (OpenSpec.ofChange fnPicturesTimeSpec)

/-- ITS FALSE NEIGHBOUR: 'it returns false'. Refute it at one input. -/
def fnPicturesTimeWrong : ChangeSpec := { name := "fnPicturesTime", fn := fun _ => fun
  | [d] => { results := [.lit (.bool false)], args := [d] }
  | _ => none }
def FnPicturesTimeWrongFalsely : Prop := fnPicturesTimeRow.holds Try.pinned (OpenSpec.ofChange fnPicturesTimeWrong)

/-- 'laws.FnExactPicturesOf': WHATEVER THE INPUT: true; the input reads as it did. -/
def fnExactPicturesOfSpec : ChangeSpec := { name := "fnExactPicturesOf", fn := fun _ => fun
  | [d] => { results := [.lit (.bool true)], args := [d] }
  | _ => none }
def fnExactPicturesOfRow : OpenClaim := { program := "ytjdpagjcbhkonaa", sum := "8d0ab0fc9f1b3acf699406bf1e8404ce872d380e47fc9693f38da4d2073d1976", func := "loop.example/mediarelay/laws.FnExactPicturesOf", spec := "fnExactPicturesOf", unfollowed := true, recurses := true, apart := false }
def FnExactPicturesOfSaid : Prop := fnExactPicturesOfRow.holds Try.pinned (OpenSpec.ofChange fnExactPicturesOfSpec)

/-- ITS FALSE NEIGHBOUR: 'it returns false'. Refute it at one input. -/
def fnExactPicturesOfWrong : ChangeSpec := { name := "fnExactPicturesOf", fn := fun _ => fun
  | [d] => { results := [.lit (.bool false)], args := [d] }
  | _ => none }
def FnExactPicturesOfWrongFalsely : Prop := fnExactPicturesOfRow.holds Try.pinned (OpenSpec.ofChange fnExactPicturesOfWrong)

/- THE SECOND FORM. 'bulk': how many values and letters a reading holds, each counted each time it is reached (what is shared counts as often as it is met; a slice's spare places count too). A statement '..UptoSaid' is the law's where the arguments, and the package variables that the reading takes, are together of bulk at most 1048576: NARROWER than '..Said'. Prove '..Said' where nothing that the law and all that it calls make is longer than what came in: it says more and counts as full. Else prove '..UptoSaid'. A law counts once. -/
mutual
def uptoBulk {H : Type} : DataW H → Nat
  | .lit (.string bytes) => bytes.length + 1
  | .lit _ => 1
  | .nil => 1
  | .ptr d => uptoBulk d + 1
  | .slice elems spare => uptoBulkAll elems + uptoBulkAll spare + 1
  | .agg parts => uptoBulkAll parts + 1
  | .iface _ d => uptoBulk d + 1
  | .map entries => uptoBulkEntries entries + 1
  | .held _ => 1
def uptoBulkAll {H : Type} : List (DataW H) → Nat
  | [] => 0
  | d :: r => uptoBulk d + uptoBulkAll r
def uptoBulkEntries {H : Type} : List (Lit × DataW H) → Nat
  | [] => 0
  | x :: r => uptoBulkEntry x + uptoBulkEntries r
def uptoBulkEntry {H : Type} : Lit × DataW H → Nat
  | (.string bytes, d) => bytes.length + uptoBulk d + 1
  | (_, d) => uptoBulk d + 1
 end
def uptoSmall : (H : Type) → List (DataW H) → Bool := fun _ ds => decide (uptoBulkAll ds ≤ 1048576)
def OpenSpec.upto (s : _root_.Go.ChangeSpec) : _root_.Go.OpenSpec := { _root_.Go.OpenSpec.ofChange s with cond := some uptoSmall }

/-- 'laws.FnPictureBefore', WHERE WHAT IT READS IS OF BULK AT MOST 1048576: true; the input reads as it did. -/
def fnPictureBeforeUptoRow : OpenClaim := { program := "ytjdpagjcbhkonaa", sum := "8d0ab0fc9f1b3acf699406bf1e8404ce872d380e47fc9693f38da4d2073d1976", func := "loop.example/mediarelay/laws.FnPictureBefore", spec := "fnPictureBefore", unfollowed := true, recurses := true, apart := false, narrowed := true }
def FnPictureBeforeUptoSaid : Prop := fnPictureBeforeUptoRow.holds Try.pinned (OpenSpec.upto fnPictureBeforeSpec)

/-- 'laws.FnPictureKey', WHERE WHAT IT READS IS OF BULK AT MOST 1048576: true; the input reads as it did. -/
def fnPictureKeyUptoRow : OpenClaim := { program := "ytjdpagjcbhkonaa", sum := "8d0ab0fc9f1b3acf699406bf1e8404ce872d380e47fc9693f38da4d2073d1976", func := "loop.example/mediarelay/laws.FnPictureKey", spec := "fnPictureKey", unfollowed := true, recurses := true, apart := false, narrowed := true }
def FnPictureKeyUptoSaid : Prop := fnPictureKeyUptoRow.holds Try.pinned (OpenSpec.upto fnPictureKeySpec)

/-- 'laws.FnPictureWhole', WHERE WHAT IT READS IS OF BULK AT MOST 1048576: true; the input reads as it did. -/
def fnPictureWholeUptoRow : OpenClaim := { program := "ytjdpagjcbhkonaa", sum := "8d0ab0fc9f1b3acf699406bf1e8404ce872d380e47fc9693f38da4d2073d1976", func := "loop.example/mediarelay/laws.FnPictureWhole", spec := "fnPictureWhole", unfollowed := true, recurses := true, apart := false, narrowed := true }
def FnPictureWholeUptoSaid : Prop := fnPictureWholeUptoRow.holds Try.pinned (OpenSpec.upto fnPictureWholeSpec)

/-- 'laws.FnPictures', WHERE WHAT IT READS IS OF BULK AT MOST 1048576: true; the input reads as it did. -/
def fnPicturesUptoRow : OpenClaim := { program := "ytjdpagjcbhkonaa", sum := "8d0ab0fc9f1b3acf699406bf1e8404ce872d380e47fc9693f38da4d2073d1976", func := "loop.example/mediarelay/laws.FnPictures", spec := "fnPictures", unfollowed := true, recurses := true, apart := false, narrowed := true }
def FnPicturesUptoSaid : Prop := fnPicturesUptoRow.holds Try.pinned (OpenSpec.upto fnPicturesSpec)

/-- 'laws.FnPicturesTime', WHERE WHAT IT READS IS OF BULK AT MOST 1048576: true; the input reads as it did. -/
def fnPicturesTimeUptoRow : OpenClaim := { program := "ytjdpagjcbhkonaa", sum := "8d0ab0fc9f1b3acf699406bf1e8404ce872d380e47fc9693f38da4d2073d1976", func := "loop.example/mediarelay/laws.FnPicturesTime", spec := "fnPicturesTime", unfollowed := true, recurses := true, apart := false, narrowed := true }
def FnPicturesTimeUptoSaid : Prop := fnPicturesTimeUptoRow.holds Try.pinned (OpenSpec.upto fnPicturesTimeSpec)

/-- 'laws.FnExactPicturesOf', WHERE WHAT IT READS IS OF BULK AT MOST 1048576: true; the input reads as it did. -/
def fnExactPicturesOfUptoRow : OpenClaim := { program := "ytjdpagjcbhkonaa", sum := "8d0ab0fc9f1b3acf699406bf1e8404ce872d380e47fc9693f38da4d2073d1976", func := "loop.example/mediarelay/laws.FnExactPicturesOf", spec := "fnExactPicturesOf", unfollowed := true, recurses := true, apart := false, narrowed := true }
def FnExactPicturesOfUptoSaid : Prop := fnExactPicturesOfUptoRow.holds Try.pinned (OpenSpec.upto fnExactPicturesOfSpec)

end Rows
end Go.Proofs.Ytjdpagjcbhkonaa
