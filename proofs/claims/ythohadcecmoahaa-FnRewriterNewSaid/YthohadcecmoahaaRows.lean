/-
  No cell of these rows narrows 'for every input' (looked for: loops, veiled, ifaces, maps, wideKeys, modest, calm, conditions, laid).
  DERIVED. THE GIVEN ROWS OF THIS SEAT. 12 by the template 'for every input the law returns true; each argument reads behind the call as it read before'; 0 by the template 'total and deterministic' (their statements: YthohadcecmoahaaTotals.lean).
  GIVEN WITH THE SEED: the statements are not yours to turn. If you find one false, say at which input.
  Laid BY PROGRAM, IN A SANDBOX (cutbox-rows.mjs): the forced cells as the released guide's own fill.sh prints them over the translation 170ecb24a492597d… (all of the seat's roots in one cut). By AI agents, Wed Nov 11 2026. No macro, syntax, notation, axiom, sorry.
-/
import Derived.Test.YthohadcecmoahaaChecked
import GoSem.Claim
import GoSem.ClaimJoined
import GoSem.ClaimMapViews
import Derived.JoinedTies
import Derived.KernelRfl
namespace Go.Proofs.Ythohadcecmoahaa
/- THE CELL 'sum', in the pinned program and in every row, IS THE sha256 OF THE DUMP (.gsa) THAT YthohadcecmoahaaProg.lean LOADS. Nothing in Lean hashes anything: it is a label: what it is worth is what the hold of that sum in a sandbox is worth. -/
noncomputable def Try.pinned : Pinned := { name := "ythohadcecmoahaa", sum := "170ecb24a492597dcdf135545eac3795ffaf6b7f6b84ebcbaa8aa90cbbe36085", checked := Try.checked }
namespace Rows
def none {H : Type} : Left H := { results := [], args := [] }

/-- 'laws.FnExactRewriteBack': WHATEVER THE INPUT: true; the input reads as it did. -/
def fnExactRewriteBackSpec : ChangeSpec := { name := "fnExactRewriteBack", fn := fun _ => fun
  | [d1, d2] => { results := [.lit (.bool true)], args := [d1, d2] }
  | _ => none }
def fnExactRewriteBackRow : OpenClaim := { program := "ythohadcecmoahaa", sum := "170ecb24a492597dcdf135545eac3795ffaf6b7f6b84ebcbaa8aa90cbbe36085", func := "loop.example/mediarelay/laws.FnExactRewriteBack", spec := "fnExactRewriteBack", apart := false }
def FnExactRewriteBackSaid : Prop := fnExactRewriteBackRow.holds Try.pinned (OpenSpec.ofChange fnExactRewriteBackSpec)

/-- ITS FALSE NEIGHBOUR: 'it returns false'. Refute it at one input. -/
def fnExactRewriteBackWrong : ChangeSpec := { name := "fnExactRewriteBack", fn := fun _ => fun
  | [d1, d2] => { results := [.lit (.bool false)], args := [d1, d2] }
  | _ => none }
def FnExactRewriteBackWrongFalsely : Prop := fnExactRewriteBackRow.holds Try.pinned (OpenSpec.ofChange fnExactRewriteBackWrong)

/-- 'laws.FnRewriterNew': WHATEVER THE INPUT: true; the input reads as it did. -/
def fnRewriterNewSpec : ChangeSpec := { name := "fnRewriterNew", fn := fun _ => fun
  | [d] => { results := [.lit (.bool true)], args := [d] }
  | _ => none }
def fnRewriterNewRow : OpenClaim := { program := "ythohadcecmoahaa", sum := "170ecb24a492597dcdf135545eac3795ffaf6b7f6b84ebcbaa8aa90cbbe36085", func := "loop.example/mediarelay/laws.FnRewriterNew", spec := "fnRewriterNew", unfollowed := true, recurses := true, apart := false }
def FnRewriterNewSaid : Prop := fnRewriterNewRow.holds Try.pinned (OpenSpec.ofChange fnRewriterNewSpec)

/-- ITS FALSE NEIGHBOUR: 'it returns false'. Refute it at one input. -/
def fnRewriterNewWrong : ChangeSpec := { name := "fnRewriterNew", fn := fun _ => fun
  | [d] => { results := [.lit (.bool false)], args := [d] }
  | _ => none }
def FnRewriterNewWrongFalsely : Prop := fnRewriterNewRow.holds Try.pinned (OpenSpec.ofChange fnRewriterNewWrong)

/-- 'laws.FnRewriterPart': WHATEVER THE INPUT: true; the input reads as it did. -/
def fnRewriterPartSpec : ChangeSpec := { name := "fnRewriterPart", fn := fun _ => fun
  | [d] => { results := [.lit (.bool true)], args := [d] }
  | _ => none }
def fnRewriterPartRow : OpenClaim := { program := "ythohadcecmoahaa", sum := "170ecb24a492597dcdf135545eac3795ffaf6b7f6b84ebcbaa8aa90cbbe36085", func := "loop.example/mediarelay/laws.FnRewriterPart", spec := "fnRewriterPart", apart := false }
def FnRewriterPartSaid : Prop := fnRewriterPartRow.holds Try.pinned (OpenSpec.ofChange fnRewriterPartSpec)

/-- ITS FALSE NEIGHBOUR: 'it returns false'. Refute it at one input. -/
def fnRewriterPartWrong : ChangeSpec := { name := "fnRewriterPart", fn := fun _ => fun
  | [d] => { results := [.lit (.bool false)], args := [d] }
  | _ => none }
def FnRewriterPartWrongFalsely : Prop := fnRewriterPartRow.holds Try.pinned (OpenSpec.ofChange fnRewriterPartWrong)

/-- 'laws.FnBack': WHATEVER THE INPUT: true; the input reads as it did. -/
def fnBackSpec : ChangeSpec := { name := "fnBack", fn := fun _ => fun
  | [d] => { results := [.lit (.bool true)], args := [d] }
  | _ => none }
def fnBackRow : OpenClaim := { program := "ythohadcecmoahaa", sum := "170ecb24a492597dcdf135545eac3795ffaf6b7f6b84ebcbaa8aa90cbbe36085", func := "loop.example/mediarelay/laws.FnBack", spec := "fnBack", apart := false }
def FnBackSaid : Prop := fnBackRow.holds Try.pinned (OpenSpec.ofChange fnBackSpec)

/-- ITS FALSE NEIGHBOUR: 'it returns false'. Refute it at one input. -/
def fnBackWrong : ChangeSpec := { name := "fnBack", fn := fun _ => fun
  | [d] => { results := [.lit (.bool false)], args := [d] }
  | _ => none }
def FnBackWrongFalsely : Prop := fnBackRow.holds Try.pinned (OpenSpec.ofChange fnBackWrong)

/-- 'laws.FnBackNone': WHATEVER THE INPUT: true; the input reads as it did. -/
def fnBackNoneSpec : ChangeSpec := { name := "fnBackNone", fn := fun _ => fun
  | [d] => { results := [.lit (.bool true)], args := [d] }
  | _ => none }
def fnBackNoneRow : OpenClaim := { program := "ythohadcecmoahaa", sum := "170ecb24a492597dcdf135545eac3795ffaf6b7f6b84ebcbaa8aa90cbbe36085", func := "loop.example/mediarelay/laws.FnBackNone", spec := "fnBackNone", apart := false }
def FnBackNoneSaid : Prop := fnBackNoneRow.holds Try.pinned (OpenSpec.ofChange fnBackNoneSpec)

/-- ITS FALSE NEIGHBOUR: 'it returns false'. Refute it at one input. -/
def fnBackNoneWrong : ChangeSpec := { name := "fnBackNone", fn := fun _ => fun
  | [d] => { results := [.lit (.bool false)], args := [d] }
  | _ => none }
def FnBackNoneWrongFalsely : Prop := fnBackNoneRow.holds Try.pinned (OpenSpec.ofChange fnBackNoneWrong)

/-- 'laws.FnExactRewriteNext': WHATEVER THE INPUT: true; the input reads as it did. -/
def fnExactRewriteNextSpec : ChangeSpec := { name := "fnExactRewriteNext", fn := fun _ => fun
  | [d1, d2, d3] => { results := [.lit (.bool true)], args := [d1, d2, d3] }
  | _ => none }
def fnExactRewriteNextRow : OpenClaim := { program := "ythohadcecmoahaa", sum := "170ecb24a492597dcdf135545eac3795ffaf6b7f6b84ebcbaa8aa90cbbe36085", func := "loop.example/mediarelay/laws.FnExactRewriteNext", spec := "fnExactRewriteNext", unfollowed := true, recurses := true, apart := false }
def FnExactRewriteNextSaid : Prop := fnExactRewriteNextRow.holds Try.pinned (OpenSpec.ofChange fnExactRewriteNextSpec)

/-- ITS FALSE NEIGHBOUR: 'it returns false'. Refute it at one input. -/
def fnExactRewriteNextWrong : ChangeSpec := { name := "fnExactRewriteNext", fn := fun _ => fun
  | [d1, d2, d3] => { results := [.lit (.bool false)], args := [d1, d2, d3] }
  | _ => none }
def FnExactRewriteNextWrongFalsely : Prop := fnExactRewriteNextRow.holds Try.pinned (OpenSpec.ofChange fnExactRewriteNextWrong)

/-- 'laws.FnRewriteKeep': WHATEVER THE INPUT: true; the input reads as it did. -/
def fnRewriteKeepSpec : ChangeSpec := { name := "fnRewriteKeep", fn := fun _ => fun
  | [d] => { results := [.lit (.bool true)], args := [d] }
  | _ => none }
def fnRewriteKeepRow : OpenClaim := { program := "ythohadcecmoahaa", sum := "170ecb24a492597dcdf135545eac3795ffaf6b7f6b84ebcbaa8aa90cbbe36085", func := "loop.example/mediarelay/laws.FnRewriteKeep", spec := "fnRewriteKeep", unfollowed := true, recurses := true, apart := false }
def FnRewriteKeepSaid : Prop := fnRewriteKeepRow.holds Try.pinned (OpenSpec.ofChange fnRewriteKeepSpec)

/-- ITS FALSE NEIGHBOUR: 'it returns false'. Refute it at one input. -/
def fnRewriteKeepWrong : ChangeSpec := { name := "fnRewriteKeep", fn := fun _ => fun
  | [d] => { results := [.lit (.bool false)], args := [d] }
  | _ => none }
def FnRewriteKeepWrongFalsely : Prop := fnRewriteKeepRow.holds Try.pinned (OpenSpec.ofChange fnRewriteKeepWrong)

/-- 'laws.FnRewriteMost': WHATEVER THE INPUT: true; the input reads as it did. -/
def fnRewriteMostSpec : ChangeSpec := { name := "fnRewriteMost", fn := fun _ => fun
  | [d] => { results := [.lit (.bool true)], args := [d] }
  | _ => none }
def fnRewriteMostRow : OpenClaim := { program := "ythohadcecmoahaa", sum := "170ecb24a492597dcdf135545eac3795ffaf6b7f6b84ebcbaa8aa90cbbe36085", func := "loop.example/mediarelay/laws.FnRewriteMost", spec := "fnRewriteMost", unfollowed := true, recurses := true, apart := false }
def FnRewriteMostSaid : Prop := fnRewriteMostRow.holds Try.pinned (OpenSpec.ofChange fnRewriteMostSpec)

/-- ITS FALSE NEIGHBOUR: 'it returns false'. Refute it at one input. -/
def fnRewriteMostWrong : ChangeSpec := { name := "fnRewriteMost", fn := fun _ => fun
  | [d] => { results := [.lit (.bool false)], args := [d] }
  | _ => none }
def FnRewriteMostWrongFalsely : Prop := fnRewriteMostRow.holds Try.pinned (OpenSpec.ofChange fnRewriteMostWrong)

/-- 'laws.FnRewriteOther': WHATEVER THE INPUT: true; the input reads as it did. -/
def fnRewriteOtherSpec : ChangeSpec := { name := "fnRewriteOther", fn := fun _ => fun
  | [d] => { results := [.lit (.bool true)], args := [d] }
  | _ => none }
def fnRewriteOtherRow : OpenClaim := { program := "ythohadcecmoahaa", sum := "170ecb24a492597dcdf135545eac3795ffaf6b7f6b84ebcbaa8aa90cbbe36085", func := "loop.example/mediarelay/laws.FnRewriteOther", spec := "fnRewriteOther", unfollowed := true, recurses := true, apart := false }
def FnRewriteOtherSaid : Prop := fnRewriteOtherRow.holds Try.pinned (OpenSpec.ofChange fnRewriteOtherSpec)

/-- ITS FALSE NEIGHBOUR: 'it returns false'. Refute it at one input. -/
def fnRewriteOtherWrong : ChangeSpec := { name := "fnRewriteOther", fn := fun _ => fun
  | [d] => { results := [.lit (.bool false)], args := [d] }
  | _ => none }
def FnRewriteOtherWrongFalsely : Prop := fnRewriteOtherRow.holds Try.pinned (OpenSpec.ofChange fnRewriteOtherWrong)

/-- 'laws.FnRewriteSame': WHATEVER THE INPUT: true; the input reads as it did. -/
def fnRewriteSameSpec : ChangeSpec := { name := "fnRewriteSame", fn := fun _ => fun
  | [d] => { results := [.lit (.bool true)], args := [d] }
  | _ => none }
def fnRewriteSameRow : OpenClaim := { program := "ythohadcecmoahaa", sum := "170ecb24a492597dcdf135545eac3795ffaf6b7f6b84ebcbaa8aa90cbbe36085", func := "loop.example/mediarelay/laws.FnRewriteSame", spec := "fnRewriteSame", unfollowed := true, recurses := true, apart := false }
def FnRewriteSameSaid : Prop := fnRewriteSameRow.holds Try.pinned (OpenSpec.ofChange fnRewriteSameSpec)

/-- ITS FALSE NEIGHBOUR: 'it returns false'. Refute it at one input. -/
def fnRewriteSameWrong : ChangeSpec := { name := "fnRewriteSame", fn := fun _ => fun
  | [d] => { results := [.lit (.bool false)], args := [d] }
  | _ => none }
def FnRewriteSameWrongFalsely : Prop := fnRewriteSameRow.holds Try.pinned (OpenSpec.ofChange fnRewriteSameWrong)

/-- 'laws.FnRewriteTwo': WHATEVER THE INPUT: true; the input reads as it did. -/
def fnRewriteTwoSpec : ChangeSpec := { name := "fnRewriteTwo", fn := fun _ => fun
  | [d] => { results := [.lit (.bool true)], args := [d] }
  | _ => none }
def fnRewriteTwoRow : OpenClaim := { program := "ythohadcecmoahaa", sum := "170ecb24a492597dcdf135545eac3795ffaf6b7f6b84ebcbaa8aa90cbbe36085", func := "loop.example/mediarelay/laws.FnRewriteTwo", spec := "fnRewriteTwo", unfollowed := true, recurses := true, apart := false }
def FnRewriteTwoSaid : Prop := fnRewriteTwoRow.holds Try.pinned (OpenSpec.ofChange fnRewriteTwoSpec)

/-- ITS FALSE NEIGHBOUR: 'it returns false'. Refute it at one input. -/
def fnRewriteTwoWrong : ChangeSpec := { name := "fnRewriteTwo", fn := fun _ => fun
  | [d] => { results := [.lit (.bool false)], args := [d] }
  | _ => none }
def FnRewriteTwoWrongFalsely : Prop := fnRewriteTwoRow.holds Try.pinned (OpenSpec.ofChange fnRewriteTwoWrong)

/-- 'laws.FnRewriteBack': WHATEVER THE INPUT: true; the input reads as it did. -/
def fnRewriteBackSpec : ChangeSpec := { name := "fnRewriteBack", fn := fun _ => fun
  | [d] => { results := [.lit (.bool true)], args := [d] }
  | _ => none }
def fnRewriteBackRow : OpenClaim := { program := "ythohadcecmoahaa", sum := "170ecb24a492597dcdf135545eac3795ffaf6b7f6b84ebcbaa8aa90cbbe36085", func := "loop.example/mediarelay/laws.FnRewriteBack", spec := "fnRewriteBack", unfollowed := true, recurses := true, apart := false }
def FnRewriteBackSaid : Prop := fnRewriteBackRow.holds Try.pinned (OpenSpec.ofChange fnRewriteBackSpec)

/-- ITS FALSE NEIGHBOUR: 'it returns false'. Refute it at one input. -/
def fnRewriteBackWrong : ChangeSpec := { name := "fnRewriteBack", fn := fun _ => fun
  | [d] => { results := [.lit (.bool false)], args := [d] }
  | _ => none }
def FnRewriteBackWrongFalsely : Prop := fnRewriteBackRow.holds Try.pinned (OpenSpec.ofChange fnRewriteBackWrong)

/- THE SECOND FORM. 'bulk': how many values and letters a reading holds, each counted each time it is reached (what is shared counts as often as it is met; a slice's spare places count too). A statement '..UptoSaid' is the law's where the arguments, and the package variables that the reading takes, are together of bulk at most 1048576: NARROWER than '..Said'. Prove '..Said' where nothing that the law and all that it calls make is longer than what came in: it says more and counts as full. Else prove '..UptoSaid'. A law counts once. -/
mutual
def uptoBulk {H : Type} : DataW H → Nat
  | .lit (.string bytes) => bytes.length + 1
  | .lit _ => 1
  | .nil => 1
  | .ptr d => uptoBulk d + 1
  | .slice elems spare => uptoBulkAll elems + uptoBulkAll spare + 1
  | .agg parts => uptoBulkAll parts + 1
  | .iface _ d => uptoBulk d + 1
  | .map entries => uptoBulkEntries entries + 1
  | .held _ => 1
def uptoBulkAll {H : Type} : List (DataW H) → Nat
  | [] => 0
  | d :: r => uptoBulk d + uptoBulkAll r
def uptoBulkEntries {H : Type} : List (Lit × DataW H) → Nat
  | [] => 0
  | x :: r => uptoBulkEntry x + uptoBulkEntries r
def uptoBulkEntry {H : Type} : Lit × DataW H → Nat
  | (.string bytes, d) => bytes.length + uptoBulk d + 1
  | (_, d) => uptoBulk d + 1
 end
def uptoSmall : (H : Type) → List (DataW H) → Bool := fun _ ds => decide (uptoBulkAll ds ≤ 1048576)
def OpenSpec.upto (s : _root_.Go.ChangeSpec) : _root_.Go.OpenSpec := { _root_.Go.OpenSpec.ofChange s with cond := some uptoSmall }

/-- 'laws.FnExactRewriteBack', WHERE WHAT IT READS IS OF BULK AT MOST 1048576: true; the input reads as it did. -/
def fnExactRewriteBackUptoRow : OpenClaim := { program := "ythohadcecmoahaa", sum := "170ecb24a492597dcdf135545eac3795ffaf6b7f6b84ebcbaa8aa90cbbe36085", func := "loop.example/mediarelay/laws.FnExactRewriteBack", spec := "fnExactRewriteBack", apart := false, narrowed := true }
def FnExactRewriteBackUptoSaid : Prop := fnExactRewriteBackUptoRow.holds Try.pinned (OpenSpec.upto fnExactRewriteBackSpec)

/-- 'laws.FnRewriterNew', WHERE WHAT IT READS IS OF BULK AT MOST 1048576: true; the input reads as it did. -/
def fnRewriterNewUptoRow : OpenClaim := { program := "ythohadcecmoahaa", sum := "170ecb24a492597dcdf135545eac3795ffaf6b7f6b84ebcbaa8aa90cbbe36085", func := "loop.example/mediarelay/laws.FnRewriterNew", spec := "fnRewriterNew", unfollowed := true, recurses := true, apart := false, narrowed := true }
def FnRewriterNewUptoSaid : Prop := fnRewriterNewUptoRow.holds Try.pinned (OpenSpec.upto fnRewriterNewSpec)

/-- 'laws.FnRewriterPart', WHERE WHAT IT READS IS OF BULK AT MOST 1048576: true; the input reads as it did. -/
def fnRewriterPartUptoRow : OpenClaim := { program := "ythohadcecmoahaa", sum := "170ecb24a492597dcdf135545eac3795ffaf6b7f6b84ebcbaa8aa90cbbe36085", func := "loop.example/mediarelay/laws.FnRewriterPart", spec := "fnRewriterPart", apart := false, narrowed := true }
def FnRewriterPartUptoSaid : Prop := fnRewriterPartUptoRow.holds Try.pinned (OpenSpec.upto fnRewriterPartSpec)

/-- 'laws.FnBack', WHERE WHAT IT READS IS OF BULK AT MOST 1048576: true; the input reads as it did. -/
def fnBackUptoRow : OpenClaim := { program := "ythohadcecmoahaa", sum := "170ecb24a492597dcdf135545eac3795ffaf6b7f6b84ebcbaa8aa90cbbe36085", func := "loop.example/mediarelay/laws.FnBack", spec := "fnBack", apart := false, narrowed := true }
def FnBackUptoSaid : Prop := fnBackUptoRow.holds Try.pinned (OpenSpec.upto fnBackSpec)

/-- 'laws.FnBackNone', WHERE WHAT IT READS IS OF BULK AT MOST 1048576: true; the input reads as it did. -/
def fnBackNoneUptoRow : OpenClaim := { program := "ythohadcecmoahaa", sum := "170ecb24a492597dcdf135545eac3795ffaf6b7f6b84ebcbaa8aa90cbbe36085", func := "loop.example/mediarelay/laws.FnBackNone", spec := "fnBackNone", apart := false, narrowed := true }
def FnBackNoneUptoSaid : Prop := fnBackNoneUptoRow.holds Try.pinned (OpenSpec.upto fnBackNoneSpec)

/-- 'laws.FnExactRewriteNext', WHERE WHAT IT READS IS OF BULK AT MOST 1048576: true; the input reads as it did. -/
def fnExactRewriteNextUptoRow : OpenClaim := { program := "ythohadcecmoahaa", sum := "170ecb24a492597dcdf135545eac3795ffaf6b7f6b84ebcbaa8aa90cbbe36085", func := "loop.example/mediarelay/laws.FnExactRewriteNext", spec := "fnExactRewriteNext", unfollowed := true, recurses := true, apart := false, narrowed := true }
def FnExactRewriteNextUptoSaid : Prop := fnExactRewriteNextUptoRow.holds Try.pinned (OpenSpec.upto fnExactRewriteNextSpec)

/-- 'laws.FnRewriteKeep', WHERE WHAT IT READS IS OF BULK AT MOST 1048576: true; the input reads as it did. -/
def fnRewriteKeepUptoRow : OpenClaim := { program := "ythohadcecmoahaa", sum := "170ecb24a492597dcdf135545eac3795ffaf6b7f6b84ebcbaa8aa90cbbe36085", func := "loop.example/mediarelay/laws.FnRewriteKeep", spec := "fnRewriteKeep", unfollowed := true, recurses := true, apart := false, narrowed := true }
def FnRewriteKeepUptoSaid : Prop := fnRewriteKeepUptoRow.holds Try.pinned (OpenSpec.upto fnRewriteKeepSpec)

/-- 'laws.FnRewriteMost', WHERE WHAT IT READS IS OF BULK AT MOST 1048576: true; the input reads as it did. -/
def fnRewriteMostUptoRow : OpenClaim := { program := "ythohadcecmoahaa", sum := "170ecb24a492597dcdf135545eac3795ffaf6b7f6b84ebcbaa8aa90cbbe36085", func := "loop.example/mediarelay/laws.FnRewriteMost", spec := "fnRewriteMost", unfollowed := true, recurses := true, apart := false, narrowed := true }
def FnRewriteMostUptoSaid : Prop := fnRewriteMostUptoRow.holds Try.pinned (OpenSpec.upto fnRewriteMostSpec)

/-- 'laws.FnRewriteOther', WHERE WHAT IT READS IS OF BULK AT MOST 1048576: true; the input reads as it did. -/
def fnRewriteOtherUptoRow : OpenClaim := { program := "ythohadcecmoahaa", sum := "170ecb24a492597dcdf135545eac3795ffaf6b7f6b84ebcbaa8aa90cbbe36085", func := "loop.example/mediarelay/laws.FnRewriteOther", spec := "fnRewriteOther", unfollowed := true, recurses := true, apart := false, narrowed := true }
def FnRewriteOtherUptoSaid : Prop := fnRewriteOtherUptoRow.holds Try.pinned (OpenSpec.upto fnRewriteOtherSpec)

/-- 'laws.FnRewriteSame', WHERE WHAT IT READS IS OF BULK AT MOST 1048576: true; the input reads as it did. -/
def fnRewriteSameUptoRow : OpenClaim := { program := "ythohadcecmoahaa", sum := "170ecb24a492597dcdf135545eac3795ffaf6b7f6b84ebcbaa8aa90cbbe36085", func := "loop.example/mediarelay/laws.FnRewriteSame", spec := "fnRewriteSame", unfollowed := true, recurses := true, apart := false, narrowed := true }
def FnRewriteSameUptoSaid : Prop := fnRewriteSameUptoRow.holds Try.pinned (OpenSpec.upto fnRewriteSameSpec)

/-- 'laws.FnRewriteTwo', WHERE WHAT IT READS IS OF BULK AT MOST 1048576: true; the input reads as it did. -/
def fnRewriteTwoUptoRow : OpenClaim := { program := "ythohadcecmoahaa", sum := "170ecb24a492597dcdf135545eac3795ffaf6b7f6b84ebcbaa8aa90cbbe36085", func := "loop.example/mediarelay/laws.FnRewriteTwo", spec := "fnRewriteTwo", unfollowed := true, recurses := true, apart := false, narrowed := true }
def FnRewriteTwoUptoSaid : Prop := fnRewriteTwoUptoRow.holds Try.pinned (OpenSpec.upto fnRewriteTwoSpec)

/-- 'laws.FnRewriteBack', WHERE WHAT IT READS IS OF BULK AT MOST 1048576: true; the input reads as it did. -/
def fnRewriteBackUptoRow : OpenClaim := { program := "ythohadcecmoahaa", sum := "170ecb24a492597dcdf135545eac3795ffaf6b7f6b84ebcbaa8aa90cbbe36085", func := "loop.example/mediarelay/laws.FnRewriteBack", spec := "fnRewriteBack", unfollowed := true, recurses := true, apart := false, narrowed := true }
def FnRewriteBackUptoSaid : Prop := fnRewriteBackUptoRow.holds Try.pinned (OpenSpec.upto fnRewriteBackSpec)

end Rows
end Go.Proofs.Ythohadcecmoahaa
