/-
  No cell of these rows narrows 'for every input' (looked for: loops, veiled, ifaces, maps, wideKeys, modest, calm, conditions, laid).
  DERIVED. THE GIVEN ROWS OF THIS SEAT. 6 by the template 'for every input the law returns true; each argument reads behind the call as it read before'; 0 by the template 'total and deterministic' (their statements: YtencijlgmbmafaaTotals.lean).
  GIVEN WITH THE SEED: the statements are not yours to turn. If you find one false, say at which input.
  Laid BY PROGRAM, IN A SANDBOX (cutbox-rows.mjs): the forced cells as the released guide's own fill.sh prints them over the translation 2cf67e15f20ac8db… (all of the seat's roots in one cut). By AI agents, Wed Nov 11 2026. No macro, syntax, notation, axiom, sorry.
-/
import Derived.Test.YtencijlgmbmafaaChecked
import GoSem.Claim
import GoSem.ClaimJoined
import GoSem.ClaimMapViews
import Derived.JoinedTies
import Derived.KernelRfl
namespace Go.Proofs.Ytencijlgmbmafaa
/- THE CELL 'sum', in the pinned program and in every row, IS THE sha256 OF THE DUMP (.gsa) THAT YtencijlgmbmafaaProg.lean LOADS. Nothing in Lean hashes anything: it is a label: what it is worth is what the hold of that sum in a sandbox is worth. -/
noncomputable def Try.pinned : Pinned := { name := "ytencijlgmbmafaa", sum := "2cf67e15f20ac8db31029554818742c14f6263cd66d3d6d1517a2479b0392dba", checked := Try.checked }
namespace Rows
def none {H : Type} : Left H := { results := [], args := [] }

/-- 'laws.FnExactConstants': WHATEVER THE INPUT: true; the input reads as it did. -/
def fnExactConstantsSpec : ChangeSpec := { name := "fnExactConstants", fn := fun _ => fun
  | [] => { results := [.lit (.bool true)], args := [] }
  | _ => none }
def fnExactConstantsRow : OpenClaim := { program := "ytencijlgmbmafaa", sum := "2cf67e15f20ac8db31029554818742c14f6263cd66d3d6d1517a2479b0392dba", func := "loop.example/mediarelay/laws.FnExactConstants", spec := "fnExactConstants", apart := false }
def FnExactConstantsSaid : Prop := fnExactConstantsRow.holds Try.pinned (OpenSpec.ofChange fnExactConstantsSpec)

/-- ITS FALSE NEIGHBOUR: 'it returns false'. Refute it at one input. -/
def fnExactConstantsWrong : ChangeSpec := { name := "fnExactConstants", fn := fun _ => fun
  | [] => { results := [.lit (.bool false)], args := [] }
  | _ => none }
def FnExactConstantsWrongFalsely : Prop := fnExactConstantsRow.holds Try.pinned (OpenSpec.ofChange fnExactConstantsWrong)

/-- 'laws.FnExactSerialOf': WHATEVER THE INPUT: true; the input reads as it did. -/
def fnExactSerialOfSpec : ChangeSpec := { name := "fnExactSerialOf", fn := fun _ => fun
  | [d] => { results := [.lit (.bool true)], args := [d] }
  | _ => none }
def fnExactSerialOfRow : OpenClaim := { program := "ytencijlgmbmafaa", sum := "2cf67e15f20ac8db31029554818742c14f6263cd66d3d6d1517a2479b0392dba", func := "loop.example/mediarelay/laws.FnExactSerialOf", spec := "fnExactSerialOf", apart := false }
def FnExactSerialOfSaid : Prop := fnExactSerialOfRow.holds Try.pinned (OpenSpec.ofChange fnExactSerialOfSpec)

/-- ITS FALSE NEIGHBOUR: 'it returns false'. Refute it at one input. -/
def fnExactSerialOfWrong : ChangeSpec := { name := "fnExactSerialOf", fn := fun _ => fun
  | [d] => { results := [.lit (.bool false)], args := [d] }
  | _ => none }
def FnExactSerialOfWrongFalsely : Prop := fnExactSerialOfRow.holds Try.pinned (OpenSpec.ofChange fnExactSerialOfWrong)

/-- 'laws.FnExactPacketValid': WHATEVER THE INPUT: true; the input reads as it did. -/
def fnExactPacketValidSpec : ChangeSpec := { name := "fnExactPacketValid", fn := fun _ => fun
  | [d] => { results := [.lit (.bool true)], args := [d] }
  | _ => none }
def fnExactPacketValidRow : OpenClaim := { program := "ytencijlgmbmafaa", sum := "2cf67e15f20ac8db31029554818742c14f6263cd66d3d6d1517a2479b0392dba", func := "loop.example/mediarelay/laws.FnExactPacketValid", spec := "fnExactPacketValid", apart := false }
def FnExactPacketValidSaid : Prop := fnExactPacketValidRow.holds Try.pinned (OpenSpec.ofChange fnExactPacketValidSpec)

/-- ITS FALSE NEIGHBOUR: 'it returns false'. Refute it at one input. -/
def fnExactPacketValidWrong : ChangeSpec := { name := "fnExactPacketValid", fn := fun _ => fun
  | [d] => { results := [.lit (.bool false)], args := [d] }
  | _ => none }
def FnExactPacketValidWrongFalsely : Prop := fnExactPacketValidRow.holds Try.pinned (OpenSpec.ofChange fnExactPacketValidWrong)

/-- 'laws.FnExactRewriterValid': WHATEVER THE INPUT: true; the input reads as it did. -/
def fnExactRewriterValidSpec : ChangeSpec := { name := "fnExactRewriterValid", fn := fun _ => fun
  | [d] => { results := [.lit (.bool true)], args := [d] }
  | _ => none }
def fnExactRewriterValidRow : OpenClaim := { program := "ytencijlgmbmafaa", sum := "2cf67e15f20ac8db31029554818742c14f6263cd66d3d6d1517a2479b0392dba", func := "loop.example/mediarelay/laws.FnExactRewriterValid", spec := "fnExactRewriterValid", apart := false }
def FnExactRewriterValidSaid : Prop := fnExactRewriterValidRow.holds Try.pinned (OpenSpec.ofChange fnExactRewriterValidSpec)

/-- ITS FALSE NEIGHBOUR: 'it returns false'. Refute it at one input. -/
def fnExactRewriterValidWrong : ChangeSpec := { name := "fnExactRewriterValid", fn := fun _ => fun
  | [d] => { results := [.lit (.bool false)], args := [d] }
  | _ => none }
def FnExactRewriterValidWrongFalsely : Prop := fnExactRewriterValidRow.holds Try.pinned (OpenSpec.ofChange fnExactRewriterValidWrong)

/-- 'laws.FnExactRewriterNew': WHATEVER THE INPUT: true; the input reads as it did. -/
def fnExactRewriterNewSpec : ChangeSpec := { name := "fnExactRewriterNew", fn := fun _ => fun
  | [d] => { results := [.lit (.bool true)], args := [d] }
  | _ => none }
def fnExactRewriterNewRow : OpenClaim := { program := "ytencijlgmbmafaa", sum := "2cf67e15f20ac8db31029554818742c14f6263cd66d3d6d1517a2479b0392dba", func := "loop.example/mediarelay/laws.FnExactRewriterNew", spec := "fnExactRewriterNew", apart := false }
def FnExactRewriterNewSaid : Prop := fnExactRewriterNewRow.holds Try.pinned (OpenSpec.ofChange fnExactRewriterNewSpec)

/-- ITS FALSE NEIGHBOUR: 'it returns false'. Refute it at one input. -/
def fnExactRewriterNewWrong : ChangeSpec := { name := "fnExactRewriterNew", fn := fun _ => fun
  | [d] => { results := [.lit (.bool false)], args := [d] }
  | _ => none }
def FnExactRewriterNewWrongFalsely : Prop := fnExactRewriterNewRow.holds Try.pinned (OpenSpec.ofChange fnExactRewriterNewWrong)

/-- 'laws.FnSerial': WHATEVER THE INPUT: true; the input reads as it did. -/
def fnSerialSpec : ChangeSpec := { name := "fnSerial", fn := fun _ => fun
  | [d] => { results := [.lit (.bool true)], args := [d] }
  | _ => none }
def fnSerialRow : OpenClaim := { program := "ytencijlgmbmafaa", sum := "2cf67e15f20ac8db31029554818742c14f6263cd66d3d6d1517a2479b0392dba", func := "loop.example/mediarelay/laws.FnSerial", spec := "fnSerial", apart := false }
def FnSerialSaid : Prop := fnSerialRow.holds Try.pinned (OpenSpec.ofChange fnSerialSpec)

/-- ITS FALSE NEIGHBOUR: 'it returns false'. Refute it at one input. -/
def fnSerialWrong : ChangeSpec := { name := "fnSerial", fn := fun _ => fun
  | [d] => { results := [.lit (.bool false)], args := [d] }
  | _ => none }
def FnSerialWrongFalsely : Prop := fnSerialRow.holds Try.pinned (OpenSpec.ofChange fnSerialWrong)

/- THE SECOND FORM. 'bulk': how many values and letters a reading holds, each counted each time it is reached (what is shared counts as often as it is met; a slice's spare places count too). A statement '..UptoSaid' is the law's where the arguments, and the package variables that the reading takes, are together of bulk at most 1048576: NARROWER than '..Said'. Prove '..Said' where nothing that the law and all that it calls make is longer than what came in: it says more and counts as full. Else prove '..UptoSaid'. A law counts once. -/
mutual
def uptoBulk {H : Type} : DataW H → Nat
  | .lit (.string bytes) => bytes.length + 1
  | .lit _ => 1
  | .nil => 1
  | .ptr d => uptoBulk d + 1
  | .slice elems spare => uptoBulkAll elems + uptoBulkAll spare + 1
  | .agg parts => uptoBulkAll parts + 1
  | .iface _ d => uptoBulk d + 1
  | .map entries => uptoBulkEntries entries + 1
  | .held _ => 1
def uptoBulkAll {H : Type} : List (DataW H) → Nat
  | [] => 0
  | d :: r => uptoBulk d + uptoBulkAll r
def uptoBulkEntries {H : Type} : List (Lit × DataW H) → Nat
  | [] => 0
  | x :: r => uptoBulkEntry x + uptoBulkEntries r
def uptoBulkEntry {H : Type} : Lit × DataW H → Nat
  | (.string bytes, d) => bytes.length + uptoBulk d + 1
  | (_, d) => uptoBulk d + 1
 end
def uptoSmall : (H : Type) → List (DataW H) → Bool := fun _ ds => decide (uptoBulkAll ds ≤ 1048576)
def OpenSpec.upto (s : _root_.Go.ChangeSpec) : _root_.Go.OpenSpec := { _root_.Go.OpenSpec.ofChange s with cond := some uptoSmall }

/-- 'laws.FnExactConstants', WHERE WHAT IT READS IS OF BULK AT MOST 1048576: true; the input reads as it did. -/
def fnExactConstantsUptoRow : OpenClaim := { program := "ytencijlgmbmafaa", sum := "2cf67e15f20ac8db31029554818742c14f6263cd66d3d6d1517a2479b0392dba", func := "loop.example/mediarelay/laws.FnExactConstants", spec := "fnExactConstants", apart := false, narrowed := true }
def FnExactConstantsUptoSaid : Prop := fnExactConstantsUptoRow.holds Try.pinned (OpenSpec.upto fnExactConstantsSpec)

/-- 'laws.FnExactSerialOf', WHERE WHAT IT READS IS OF BULK AT MOST 1048576: true; the input reads as it did. -/
def fnExactSerialOfUptoRow : OpenClaim := { program := "ytencijlgmbmafaa", sum := "2cf67e15f20ac8db31029554818742c14f6263cd66d3d6d1517a2479b0392dba", func := "loop.example/mediarelay/laws.FnExactSerialOf", spec := "fnExactSerialOf", apart := false, narrowed := true }
def FnExactSerialOfUptoSaid : Prop := fnExactSerialOfUptoRow.holds Try.pinned (OpenSpec.upto fnExactSerialOfSpec)

/-- 'laws.FnExactPacketValid', WHERE WHAT IT READS IS OF BULK AT MOST 1048576: true; the input reads as it did. -/
def fnExactPacketValidUptoRow : OpenClaim := { program := "ytencijlgmbmafaa", sum := "2cf67e15f20ac8db31029554818742c14f6263cd66d3d6d1517a2479b0392dba", func := "loop.example/mediarelay/laws.FnExactPacketValid", spec := "fnExactPacketValid", apart := false, narrowed := true }
def FnExactPacketValidUptoSaid : Prop := fnExactPacketValidUptoRow.holds Try.pinned (OpenSpec.upto fnExactPacketValidSpec)

/-- 'laws.FnExactRewriterValid', WHERE WHAT IT READS IS OF BULK AT MOST 1048576: true; the input reads as it did. -/
def fnExactRewriterValidUptoRow : OpenClaim := { program := "ytencijlgmbmafaa", sum := "2cf67e15f20ac8db31029554818742c14f6263cd66d3d6d1517a2479b0392dba", func := "loop.example/mediarelay/laws.FnExactRewriterValid", spec := "fnExactRewriterValid", apart := false, narrowed := true }
def FnExactRewriterValidUptoSaid : Prop := fnExactRewriterValidUptoRow.holds Try.pinned (OpenSpec.upto fnExactRewriterValidSpec)

/-- 'laws.FnExactRewriterNew', WHERE WHAT IT READS IS OF BULK AT MOST 1048576: true; the input reads as it did. -/
def fnExactRewriterNewUptoRow : OpenClaim := { program := "ytencijlgmbmafaa", sum := "2cf67e15f20ac8db31029554818742c14f6263cd66d3d6d1517a2479b0392dba", func := "loop.example/mediarelay/laws.FnExactRewriterNew", spec := "fnExactRewriterNew", apart := false, narrowed := true }
def FnExactRewriterNewUptoSaid : Prop := fnExactRewriterNewUptoRow.holds Try.pinned (OpenSpec.upto fnExactRewriterNewSpec)

/-- 'laws.FnSerial', WHERE WHAT IT READS IS OF BULK AT MOST 1048576: true; the input reads as it did. -/
def fnSerialUptoRow : OpenClaim := { program := "ytencijlgmbmafaa", sum := "2cf67e15f20ac8db31029554818742c14f6263cd66d3d6d1517a2479b0392dba", func := "loop.example/mediarelay/laws.FnSerial", spec := "fnSerial", apart := false, narrowed := true }
def FnSerialUptoSaid : Prop := fnSerialUptoRow.holds Try.pinned (OpenSpec.upto fnSerialSpec)

end Rows
end Go.Proofs.Ytencijlgmbmafaa
