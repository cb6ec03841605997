/-
  No cell of these rows narrows 'for every input' (looked for: loops, veiled, ifaces, maps, wideKeys, modest, calm, conditions, laid).
  DERIVED. THE GIVEN ROWS OF THIS SEAT. 11 by the template 'for every input the law returns true; each argument reads behind the call as it read before'; 0 by the template 'total and deterministic' (their statements: YtaghejdanjenaaaTotals.lean).
  GIVEN WITH THE SEED: the statements are not yours to turn. If you find one false, say at which input.
  Laid BY PROGRAM, IN A SANDBOX (cutbox-rows.mjs): the forced cells as the released guide's own fill.sh prints them over the translation 76bfc180fc1668e3… (all of the seat's roots in one cut). By AI agents, Wed Nov 11 2026. No macro, syntax, notation, axiom, sorry.
-/
import Derived.Test.YtaghejdanjenaaaChecked
import GoSem.Claim
import GoSem.ClaimJoined
import GoSem.ClaimMapViews
import Derived.JoinedTies
import Derived.KernelRfl
namespace Go.Proofs.Ytaghejdanjenaaa
/- THE CELL 'sum', in the pinned program and in every row, IS THE sha256 OF THE DUMP (.gsa) THAT YtaghejdanjenaaaProg.lean LOADS. Nothing in Lean hashes anything: it is a label: what it is worth is what the hold of that sum in a sandbox is worth. -/
noncomputable def Try.pinned : Pinned := { name := "ytaghejdanjenaaa", sum := "76bfc180fc1668e311639162d0df22b8a76ccf6ca0253a97674a8d68521c66aa", checked := Try.checked }
namespace Rows
def none {H : Type} : Left H := { results := [], args := [] }

/-- 'laws.FnRingPart': WHATEVER THE INPUT: true; the input reads as it did. -/
def fnRingPartSpec : ChangeSpec := { name := "fnRingPart", fn := fun _ => fun
  | [d] => { results := [.lit (.bool true)], args := [d] }
  | _ => none }
def fnRingPartRow : OpenClaim := { program := "ytaghejdanjenaaa", sum := "76bfc180fc1668e311639162d0df22b8a76ccf6ca0253a97674a8d68521c66aa", func := "loop.example/mediarelay/laws.FnRingPart", spec := "fnRingPart", apart := false }
def FnRingPartSaid : Prop := fnRingPartRow.holds Try.pinned (OpenSpec.ofChange fnRingPartSpec)

/-- ITS FALSE NEIGHBOUR: 'it returns false'. Refute it at one input. -/
def fnRingPartWrong : ChangeSpec := { name := "fnRingPart", fn := fun _ => fun
  | [d] => { results := [.lit (.bool false)], args := [d] }
  | _ => none }
def FnRingPartWrongFalsely : Prop := fnRingPartRow.holds Try.pinned (OpenSpec.ofChange fnRingPartWrong)

/-- 'laws.FnExactRingValid': WHATEVER THE INPUT: true; the input reads as it did. -/
def fnExactRingValidSpec : ChangeSpec := { name := "fnExactRingValid", fn := fun _ => fun
  | [d] => { results := [.lit (.bool true)], args := [d] }
  | _ => none }
def fnExactRingValidRow : OpenClaim := { program := "ytaghejdanjenaaa", sum := "76bfc180fc1668e311639162d0df22b8a76ccf6ca0253a97674a8d68521c66aa", func := "loop.example/mediarelay/laws.FnExactRingValid", spec := "fnExactRingValid", apart := false }
def FnExactRingValidSaid : Prop := fnExactRingValidRow.holds Try.pinned (OpenSpec.ofChange fnExactRingValidSpec)

/-- ITS FALSE NEIGHBOUR: 'it returns false'. Refute it at one input. -/
def fnExactRingValidWrong : ChangeSpec := { name := "fnExactRingValid", fn := fun _ => fun
  | [d] => { results := [.lit (.bool false)], args := [d] }
  | _ => none }
def FnExactRingValidWrongFalsely : Prop := fnExactRingValidRow.holds Try.pinned (OpenSpec.ofChange fnExactRingValidWrong)

/-- 'laws.FnReaderPart': WHATEVER THE INPUT: true; the input reads as it did. -/
def fnReaderPartSpec : ChangeSpec := { name := "fnReaderPart", fn := fun _ => fun
  | [d] => { results := [.lit (.bool true)], args := [d] }
  | _ => none }
def fnReaderPartRow : OpenClaim := { program := "ytaghejdanjenaaa", sum := "76bfc180fc1668e311639162d0df22b8a76ccf6ca0253a97674a8d68521c66aa", func := "loop.example/mediarelay/laws.FnReaderPart", spec := "fnReaderPart", apart := false }
def FnReaderPartSaid : Prop := fnReaderPartRow.holds Try.pinned (OpenSpec.ofChange fnReaderPartSpec)

/-- ITS FALSE NEIGHBOUR: 'it returns false'. Refute it at one input. -/
def fnReaderPartWrong : ChangeSpec := { name := "fnReaderPart", fn := fun _ => fun
  | [d] => { results := [.lit (.bool false)], args := [d] }
  | _ => none }
def FnReaderPartWrongFalsely : Prop := fnReaderPartRow.holds Try.pinned (OpenSpec.ofChange fnReaderPartWrong)

/-- 'laws.FnExactRingOldest': WHATEVER THE INPUT: true; the input reads as it did. -/
def fnExactRingOldestSpec : ChangeSpec := { name := "fnExactRingOldest", fn := fun _ => fun
  | [d] => { results := [.lit (.bool true)], args := [d] }
  | _ => none }
def fnExactRingOldestRow : OpenClaim := { program := "ytaghejdanjenaaa", sum := "76bfc180fc1668e311639162d0df22b8a76ccf6ca0253a97674a8d68521c66aa", func := "loop.example/mediarelay/laws.FnExactRingOldest", spec := "fnExactRingOldest", apart := false }
def FnExactRingOldestSaid : Prop := fnExactRingOldestRow.holds Try.pinned (OpenSpec.ofChange fnExactRingOldestSpec)

/-- ITS FALSE NEIGHBOUR: 'it returns false'. Refute it at one input. -/
def fnExactRingOldestWrong : ChangeSpec := { name := "fnExactRingOldest", fn := fun _ => fun
  | [d] => { results := [.lit (.bool false)], args := [d] }
  | _ => none }
def FnExactRingOldestWrongFalsely : Prop := fnExactRingOldestRow.holds Try.pinned (OpenSpec.ofChange fnExactRingOldestWrong)

/-- 'laws.FnExactReaderValid': WHATEVER THE INPUT: true; the input reads as it did. -/
def fnExactReaderValidSpec : ChangeSpec := { name := "fnExactReaderValid", fn := fun _ => fun
  | [d1, d2] => { results := [.lit (.bool true)], args := [d1, d2] }
  | _ => none }
def fnExactReaderValidRow : OpenClaim := { program := "ytaghejdanjenaaa", sum := "76bfc180fc1668e311639162d0df22b8a76ccf6ca0253a97674a8d68521c66aa", func := "loop.example/mediarelay/laws.FnExactReaderValid", spec := "fnExactReaderValid", apart := false }
def FnExactReaderValidSaid : Prop := fnExactReaderValidRow.holds Try.pinned (OpenSpec.ofChange fnExactReaderValidSpec)

/-- ITS FALSE NEIGHBOUR: 'it returns false'. Refute it at one input. -/
def fnExactReaderValidWrong : ChangeSpec := { name := "fnExactReaderValid", fn := fun _ => fun
  | [d1, d2] => { results := [.lit (.bool false)], args := [d1, d2] }
  | _ => none }
def FnExactReaderValidWrongFalsely : Prop := fnExactReaderValidRow.holds Try.pinned (OpenSpec.ofChange fnExactReaderValidWrong)

/-- 'laws.FnRingGet': WHATEVER THE INPUT: true; the input reads as it did. -/
def fnRingGetSpec : ChangeSpec := { name := "fnRingGet", fn := fun _ => fun
  | [d] => { results := [.lit (.bool true)], args := [d] }
  | _ => none }
def fnRingGetRow : OpenClaim := { program := "ytaghejdanjenaaa", sum := "76bfc180fc1668e311639162d0df22b8a76ccf6ca0253a97674a8d68521c66aa", func := "loop.example/mediarelay/laws.FnRingGet", spec := "fnRingGet", apart := false }
def FnRingGetSaid : Prop := fnRingGetRow.holds Try.pinned (OpenSpec.ofChange fnRingGetSpec)

/-- ITS FALSE NEIGHBOUR: 'it returns false'. Refute it at one input. -/
def fnRingGetWrong : ChangeSpec := { name := "fnRingGet", fn := fun _ => fun
  | [d] => { results := [.lit (.bool false)], args := [d] }
  | _ => none }
def FnRingGetWrongFalsely : Prop := fnRingGetRow.holds Try.pinned (OpenSpec.ofChange fnRingGetWrong)

/-- 'laws.FnRingGetWhen': WHATEVER THE INPUT: true; the input reads as it did. -/
def fnRingGetWhenSpec : ChangeSpec := { name := "fnRingGetWhen", fn := fun _ => fun
  | [d] => { results := [.lit (.bool true)], args := [d] }
  | _ => none }
def fnRingGetWhenRow : OpenClaim := { program := "ytaghejdanjenaaa", sum := "76bfc180fc1668e311639162d0df22b8a76ccf6ca0253a97674a8d68521c66aa", func := "loop.example/mediarelay/laws.FnRingGetWhen", spec := "fnRingGetWhen", apart := false }
def FnRingGetWhenSaid : Prop := fnRingGetWhenRow.holds Try.pinned (OpenSpec.ofChange fnRingGetWhenSpec)

/-- ITS FALSE NEIGHBOUR: 'it returns false'. Refute it at one input. -/
def fnRingGetWhenWrong : ChangeSpec := { name := "fnRingGetWhen", fn := fun _ => fun
  | [d] => { results := [.lit (.bool false)], args := [d] }
  | _ => none }
def FnRingGetWhenWrongFalsely : Prop := fnRingGetWhenRow.holds Try.pinned (OpenSpec.ofChange fnRingGetWhenWrong)

/-- 'laws.FnOldest': WHATEVER THE INPUT: true; the input reads as it did. -/
def fnOldestSpec : ChangeSpec := { name := "fnOldest", fn := fun _ => fun
  | [d] => { results := [.lit (.bool true)], args := [d] }
  | _ => none }
def fnOldestRow : OpenClaim := { program := "ytaghejdanjenaaa", sum := "76bfc180fc1668e311639162d0df22b8a76ccf6ca0253a97674a8d68521c66aa", func := "loop.example/mediarelay/laws.FnOldest", spec := "fnOldest", apart := false }
def FnOldestSaid : Prop := fnOldestRow.holds Try.pinned (OpenSpec.ofChange fnOldestSpec)

/-- ITS FALSE NEIGHBOUR: 'it returns false'. Refute it at one input. -/
def fnOldestWrong : ChangeSpec := { name := "fnOldest", fn := fun _ => fun
  | [d] => { results := [.lit (.bool false)], args := [d] }
  | _ => none }
def FnOldestWrongFalsely : Prop := fnOldestRow.holds Try.pinned (OpenSpec.ofChange fnOldestWrong)

/-- 'laws.FnExactRingGet': WHATEVER THE INPUT: true; the input reads as it did. -/
def fnExactRingGetSpec : ChangeSpec := { name := "fnExactRingGet", fn := fun _ => fun
  | [d1, d2] => { results := [.lit (.bool true)], args := [d1, d2] }
  | _ => none }
def fnExactRingGetRow : OpenClaim := { program := "ytaghejdanjenaaa", sum := "76bfc180fc1668e311639162d0df22b8a76ccf6ca0253a97674a8d68521c66aa", func := "loop.example/mediarelay/laws.FnExactRingGet", spec := "fnExactRingGet", apart := false }
def FnExactRingGetSaid : Prop := fnExactRingGetRow.holds Try.pinned (OpenSpec.ofChange fnExactRingGetSpec)

/-- ITS FALSE NEIGHBOUR: 'it returns false'. Refute it at one input. -/
def fnExactRingGetWrong : ChangeSpec := { name := "fnExactRingGet", fn := fun _ => fun
  | [d1, d2] => { results := [.lit (.bool false)], args := [d1, d2] }
  | _ => none }
def FnExactRingGetWrongFalsely : Prop := fnExactRingGetRow.holds Try.pinned (OpenSpec.ofChange fnExactRingGetWrong)

/-- 'laws.FnExactReaderNew': WHATEVER THE INPUT: true; the input reads as it did. -/
def fnExactReaderNewSpec : ChangeSpec := { name := "fnExactReaderNew", fn := fun _ => fun
  | [d] => { results := [.lit (.bool true)], args := [d] }
  | _ => none }
def fnExactReaderNewRow : OpenClaim := { program := "ytaghejdanjenaaa", sum := "76bfc180fc1668e311639162d0df22b8a76ccf6ca0253a97674a8d68521c66aa", func := "loop.example/mediarelay/laws.FnExactReaderNew", spec := "fnExactReaderNew", apart := false }
def FnExactReaderNewSaid : Prop := fnExactReaderNewRow.holds Try.pinned (OpenSpec.ofChange fnExactReaderNewSpec)

/-- ITS FALSE NEIGHBOUR: 'it returns false'. Refute it at one input. -/
def fnExactReaderNewWrong : ChangeSpec := { name := "fnExactReaderNew", fn := fun _ => fun
  | [d] => { results := [.lit (.bool false)], args := [d] }
  | _ => none }
def FnExactReaderNewWrongFalsely : Prop := fnExactReaderNewRow.holds Try.pinned (OpenSpec.ofChange fnExactReaderNewWrong)

/-- 'laws.FnReaderNew': WHATEVER THE INPUT: true; the input reads as it did. -/
def fnReaderNewSpec : ChangeSpec := { name := "fnReaderNew", fn := fun _ => fun
  | [d] => { results := [.lit (.bool true)], args := [d] }
  | _ => none }
def fnReaderNewRow : OpenClaim := { program := "ytaghejdanjenaaa", sum := "76bfc180fc1668e311639162d0df22b8a76ccf6ca0253a97674a8d68521c66aa", func := "loop.example/mediarelay/laws.FnReaderNew", spec := "fnReaderNew", apart := false }
def FnReaderNewSaid : Prop := fnReaderNewRow.holds Try.pinned (OpenSpec.ofChange fnReaderNewSpec)

/-- ITS FALSE NEIGHBOUR: 'it returns false'. Refute it at one input. -/
def fnReaderNewWrong : ChangeSpec := { name := "fnReaderNew", fn := fun _ => fun
  | [d] => { results := [.lit (.bool false)], args := [d] }
  | _ => none }
def FnReaderNewWrongFalsely : Prop := fnReaderNewRow.holds Try.pinned (OpenSpec.ofChange fnReaderNewWrong)

/- THE SECOND FORM. 'bulk': how many values and letters a reading holds, each counted each time it is reached (what is shared counts as often as it is met; a slice's spare places count too). A statement '..UptoSaid' is the law's where the arguments, and the package variables that the reading takes, are together of bulk at most 1048576: NARROWER than '..Said'. Prove '..Said' where nothing that the law and all that it calls make is longer than what came in: it says more and counts as full. Else prove '..UptoSaid'. A law counts once. -/
mutual
def uptoBulk {H : Type} : DataW H → Nat
  | .lit (.string bytes) => bytes.length + 1
  | .lit _ => 1
  | .nil => 1
  | .ptr d => uptoBulk d + 1
  | .slice elems spare => uptoBulkAll elems + uptoBulkAll spare + 1
  | .agg parts => uptoBulkAll parts + 1
  | .iface _ d => uptoBulk d + 1
  | .map entries => uptoBulkEntries entries + 1
  | .held _ => 1
def uptoBulkAll {H : Type} : List (DataW H) → Nat
  | [] => 0
  | d :: r => uptoBulk d + uptoBulkAll r
def uptoBulkEntries {H : Type} : List (Lit × DataW H) → Nat
  | [] => 0
  | x :: r => uptoBulkEntry x + uptoBulkEntries r
def uptoBulkEntry {H : Type} : Lit × DataW H → Nat
  | (.string bytes, d) => bytes.length + uptoBulk d + 1
  | (_, d) => uptoBulk d + 1
 end
def uptoSmall : (H : Type) → List (DataW H) → Bool := fun _ ds => decide (uptoBulkAll ds ≤ 1048576)
def OpenSpec.upto (s : _root_.Go.ChangeSpec) : _root_.Go.OpenSpec := { _root_.Go.OpenSpec.ofChange s with cond := some uptoSmall }

/-- 'laws.FnRingPart', WHERE WHAT IT READS IS OF BULK AT MOST 1048576: true; the input reads as it did. -/
def fnRingPartUptoRow : OpenClaim := { program := "ytaghejdanjenaaa", sum := "76bfc180fc1668e311639162d0df22b8a76ccf6ca0253a97674a8d68521c66aa", func := "loop.example/mediarelay/laws.FnRingPart", spec := "fnRingPart", apart := false, narrowed := true }
def FnRingPartUptoSaid : Prop := fnRingPartUptoRow.holds Try.pinned (OpenSpec.upto fnRingPartSpec)

/-- 'laws.FnExactRingValid', WHERE WHAT IT READS IS OF BULK AT MOST 1048576: true; the input reads as it did. -/
def fnExactRingValidUptoRow : OpenClaim := { program := "ytaghejdanjenaaa", sum := "76bfc180fc1668e311639162d0df22b8a76ccf6ca0253a97674a8d68521c66aa", func := "loop.example/mediarelay/laws.FnExactRingValid", spec := "fnExactRingValid", apart := false, narrowed := true }
def FnExactRingValidUptoSaid : Prop := fnExactRingValidUptoRow.holds Try.pinned (OpenSpec.upto fnExactRingValidSpec)

/-- 'laws.FnReaderPart', WHERE WHAT IT READS IS OF BULK AT MOST 1048576: true; the input reads as it did. -/
def fnReaderPartUptoRow : OpenClaim := { program := "ytaghejdanjenaaa", sum := "76bfc180fc1668e311639162d0df22b8a76ccf6ca0253a97674a8d68521c66aa", func := "loop.example/mediarelay/laws.FnReaderPart", spec := "fnReaderPart", apart := false, narrowed := true }
def FnReaderPartUptoSaid : Prop := fnReaderPartUptoRow.holds Try.pinned (OpenSpec.upto fnReaderPartSpec)

/-- 'laws.FnExactRingOldest', WHERE WHAT IT READS IS OF BULK AT MOST 1048576: true; the input reads as it did. -/
def fnExactRingOldestUptoRow : OpenClaim := { program := "ytaghejdanjenaaa", sum := "76bfc180fc1668e311639162d0df22b8a76ccf6ca0253a97674a8d68521c66aa", func := "loop.example/mediarelay/laws.FnExactRingOldest", spec := "fnExactRingOldest", apart := false, narrowed := true }
def FnExactRingOldestUptoSaid : Prop := fnExactRingOldestUptoRow.holds Try.pinned (OpenSpec.upto fnExactRingOldestSpec)

/-- 'laws.FnExactReaderValid', WHERE WHAT IT READS IS OF BULK AT MOST 1048576: true; the input reads as it did. -/
def fnExactReaderValidUptoRow : OpenClaim := { program := "ytaghejdanjenaaa", sum := "76bfc180fc1668e311639162d0df22b8a76ccf6ca0253a97674a8d68521c66aa", func := "loop.example/mediarelay/laws.FnExactReaderValid", spec := "fnExactReaderValid", apart := false, narrowed := true }
def FnExactReaderValidUptoSaid : Prop := fnExactReaderValidUptoRow.holds Try.pinned (OpenSpec.upto fnExactReaderValidSpec)

/-- 'laws.FnRingGet', WHERE WHAT IT READS IS OF BULK AT MOST 1048576: true; the input reads as it did. -/
def fnRingGetUptoRow : OpenClaim := { program := "ytaghejdanjenaaa", sum := "76bfc180fc1668e311639162d0df22b8a76ccf6ca0253a97674a8d68521c66aa", func := "loop.example/mediarelay/laws.FnRingGet", spec := "fnRingGet", apart := false, narrowed := true }
def FnRingGetUptoSaid : Prop := fnRingGetUptoRow.holds Try.pinned (OpenSpec.upto fnRingGetSpec)

/-- 'laws.FnRingGetWhen', WHERE WHAT IT READS IS OF BULK AT MOST 1048576: true; the input reads as it did. -/
def fnRingGetWhenUptoRow : OpenClaim := { program := "ytaghejdanjenaaa", sum := "76bfc180fc1668e311639162d0df22b8a76ccf6ca0253a97674a8d68521c66aa", func := "loop.example/mediarelay/laws.FnRingGetWhen", spec := "fnRingGetWhen", apart := false, narrowed := true }
def FnRingGetWhenUptoSaid : Prop := fnRingGetWhenUptoRow.holds Try.pinned (OpenSpec.upto fnRingGetWhenSpec)

/-- 'laws.FnOldest', WHERE WHAT IT READS IS OF BULK AT MOST 1048576: true; the input reads as it did. -/
def fnOldestUptoRow : OpenClaim := { program := "ytaghejdanjenaaa", sum := "76bfc180fc1668e311639162d0df22b8a76ccf6ca0253a97674a8d68521c66aa", func := "loop.example/mediarelay/laws.FnOldest", spec := "fnOldest", apart := false, narrowed := true }
def FnOldestUptoSaid : Prop := fnOldestUptoRow.holds Try.pinned (OpenSpec.upto fnOldestSpec)

/-- 'laws.FnExactRingGet', WHERE WHAT IT READS IS OF BULK AT MOST 1048576: true; the input reads as it did. -/
def fnExactRingGetUptoRow : OpenClaim := { program := "ytaghejdanjenaaa", sum := "76bfc180fc1668e311639162d0df22b8a76ccf6ca0253a97674a8d68521c66aa", func := "loop.example/mediarelay/laws.FnExactRingGet", spec := "fnExactRingGet", apart := false, narrowed := true }
def FnExactRingGetUptoSaid : Prop := fnExactRingGetUptoRow.holds Try.pinned (OpenSpec.upto fnExactRingGetSpec)

/-- 'laws.FnExactReaderNew', WHERE WHAT IT READS IS OF BULK AT MOST 1048576: true; the input reads as it did. -/
def fnExactReaderNewUptoRow : OpenClaim := { program := "ytaghejdanjenaaa", sum := "76bfc180fc1668e311639162d0df22b8a76ccf6ca0253a97674a8d68521c66aa", func := "loop.example/mediarelay/laws.FnExactReaderNew", spec := "fnExactReaderNew", apart := false, narrowed := true }
def FnExactReaderNewUptoSaid : Prop := fnExactReaderNewUptoRow.holds Try.pinned (OpenSpec.upto fnExactReaderNewSpec)

/-- 'laws.FnReaderNew', WHERE WHAT IT READS IS OF BULK AT MOST 1048576: true; the input reads as it did. -/
def fnReaderNewUptoRow : OpenClaim := { program := "ytaghejdanjenaaa", sum := "76bfc180fc1668e311639162d0df22b8a76ccf6ca0253a97674a8d68521c66aa", func := "loop.example/mediarelay/laws.FnReaderNew", spec := "fnReaderNew", apart := false, narrowed := true }
def FnReaderNewUptoSaid : Prop := fnReaderNewUptoRow.holds Try.pinned (OpenSpec.upto fnReaderNewSpec)

end Rows
end Go.Proofs.Ytaghejdanjenaaa
