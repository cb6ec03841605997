/-
  No cell of these rows narrows 'for every input' (looked for: loops, veiled, ifaces, maps, wideKeys, modest, calm, conditions, laid).
  DERIVED. THE GIVEN ROWS OF THIS SEAT. 8 by the template 'for every input the law returns true; each argument reads behind the call as it read before'; 0 by the template 'total and deterministic' (their statements: YthbekleahjfniaaTotals.lean).
  GIVEN WITH THE SEED: the statements are not yours to turn. If you find one false, say at which input.
  Laid BY PROGRAM, IN A SANDBOX (cutbox-rows.mjs): the forced cells as the released guide's own fill.sh prints them over the translation 8f6e4e2df3ae4313… (all of the seat's roots in one cut). By AI agents, Wed Nov 11 2026. No macro, syntax, notation, axiom, sorry.
-/
import Derived.Test.YthbekleahjfniaaChecked
import GoSem.Claim
import GoSem.ClaimJoined
import GoSem.ClaimMapViews
import Derived.JoinedTies
import Derived.KernelRfl
namespace Go.Proofs.Ythbekleahjfniaa
/- THE CELL 'sum', in the pinned program and in every row, IS THE sha256 OF THE DUMP (.gsa) THAT YthbekleahjfniaaProg.lean LOADS. Nothing in Lean hashes anything: it is a label: what it is worth is what the hold of that sum in a sandbox is worth. -/
noncomputable def Try.pinned : Pinned := { name := "ythbekleahjfniaa", sum := "8f6e4e2df3ae4313a6d7820de795bd709a0d9353bf652fd32726c606a611c4fb", checked := Try.checked }
namespace Rows
def none {H : Type} : Left H := { results := [], args := [] }

/-- 'laws.FnPacketPart': WHATEVER THE INPUT: true; the input reads as it did. -/
def fnPacketPartSpec : ChangeSpec := { name := "fnPacketPart", fn := fun _ => fun
  | [d] => { results := [.lit (.bool true)], args := [d] }
  | _ => none }
def fnPacketPartRow : OpenClaim := { program := "ythbekleahjfniaa", sum := "8f6e4e2df3ae4313a6d7820de795bd709a0d9353bf652fd32726c606a611c4fb", func := "loop.example/mediarelay/laws.FnPacketPart", spec := "fnPacketPart", apart := false }
def FnPacketPartSaid : Prop := fnPacketPartRow.holds Try.pinned (OpenSpec.ofChange fnPacketPartSpec)

/-- ITS FALSE NEIGHBOUR: 'it returns false'. Refute it at one input. -/
def fnPacketPartWrong : ChangeSpec := { name := "fnPacketPart", fn := fun _ => fun
  | [d] => { results := [.lit (.bool false)], args := [d] }
  | _ => none }
def FnPacketPartWrongFalsely : Prop := fnPacketPartRow.holds Try.pinned (OpenSpec.ofChange fnPacketPartWrong)

/-- 'laws.FnSlotPart': WHATEVER THE INPUT: true; the input reads as it did. -/
def fnSlotPartSpec : ChangeSpec := { name := "fnSlotPart", fn := fun _ => fun
  | [d] => { results := [.lit (.bool true)], args := [d] }
  | _ => none }
def fnSlotPartRow : OpenClaim := { program := "ythbekleahjfniaa", sum := "8f6e4e2df3ae4313a6d7820de795bd709a0d9353bf652fd32726c606a611c4fb", func := "loop.example/mediarelay/laws.FnSlotPart", spec := "fnSlotPart", apart := false }
def FnSlotPartSaid : Prop := fnSlotPartRow.holds Try.pinned (OpenSpec.ofChange fnSlotPartSpec)

/-- ITS FALSE NEIGHBOUR: 'it returns false'. Refute it at one input. -/
def fnSlotPartWrong : ChangeSpec := { name := "fnSlotPart", fn := fun _ => fun
  | [d] => { results := [.lit (.bool false)], args := [d] }
  | _ => none }
def FnSlotPartWrongFalsely : Prop := fnSlotPartRow.holds Try.pinned (OpenSpec.ofChange fnSlotPartWrong)

/-- 'laws.FnExactSlotValid': WHATEVER THE INPUT: true; the input reads as it did. -/
def fnExactSlotValidSpec : ChangeSpec := { name := "fnExactSlotValid", fn := fun _ => fun
  | [d] => { results := [.lit (.bool true)], args := [d] }
  | _ => none }
def fnExactSlotValidRow : OpenClaim := { program := "ythbekleahjfniaa", sum := "8f6e4e2df3ae4313a6d7820de795bd709a0d9353bf652fd32726c606a611c4fb", func := "loop.example/mediarelay/laws.FnExactSlotValid", spec := "fnExactSlotValid", apart := false }
def FnExactSlotValidSaid : Prop := fnExactSlotValidRow.holds Try.pinned (OpenSpec.ofChange fnExactSlotValidSpec)

/-- ITS FALSE NEIGHBOUR: 'it returns false'. Refute it at one input. -/
def fnExactSlotValidWrong : ChangeSpec := { name := "fnExactSlotValid", fn := fun _ => fun
  | [d] => { results := [.lit (.bool false)], args := [d] }
  | _ => none }
def FnExactSlotValidWrongFalsely : Prop := fnExactSlotValidRow.holds Try.pinned (OpenSpec.ofChange fnExactSlotValidWrong)

/-- 'laws.FnPacketsPart': WHATEVER THE INPUT: true; the input reads as it did. -/
def fnPacketsPartSpec : ChangeSpec := { name := "fnPacketsPart", fn := fun _ => fun
  | [d1, d2] => { results := [.lit (.bool true)], args := [d1, d2] }
  | _ => none }
def fnPacketsPartRow : OpenClaim := { program := "ythbekleahjfniaa", sum := "8f6e4e2df3ae4313a6d7820de795bd709a0d9353bf652fd32726c606a611c4fb", func := "loop.example/mediarelay/laws.FnPacketsPart", spec := "fnPacketsPart", apart := false }
def FnPacketsPartSaid : Prop := fnPacketsPartRow.holds Try.pinned (OpenSpec.ofChange fnPacketsPartSpec)

/-- ITS FALSE NEIGHBOUR: 'it returns false'. Refute it at one input. -/
def fnPacketsPartWrong : ChangeSpec := { name := "fnPacketsPart", fn := fun _ => fun
  | [d1, d2] => { results := [.lit (.bool false)], args := [d1, d2] }
  | _ => none }
def FnPacketsPartWrongFalsely : Prop := fnPacketsPartRow.holds Try.pinned (OpenSpec.ofChange fnPacketsPartWrong)

/-- 'laws.FnExactPacketsValid': WHATEVER THE INPUT: true; the input reads as it did. -/
def fnExactPacketsValidSpec : ChangeSpec := { name := "fnExactPacketsValid", fn := fun _ => fun
  | [d] => { results := [.lit (.bool true)], args := [d] }
  | _ => none }
def fnExactPacketsValidRow : OpenClaim := { program := "ythbekleahjfniaa", sum := "8f6e4e2df3ae4313a6d7820de795bd709a0d9353bf652fd32726c606a611c4fb", func := "loop.example/mediarelay/laws.FnExactPacketsValid", spec := "fnExactPacketsValid", apart := false }
def FnExactPacketsValidSaid : Prop := fnExactPacketsValidRow.holds Try.pinned (OpenSpec.ofChange fnExactPacketsValidSpec)

/-- ITS FALSE NEIGHBOUR: 'it returns false'. Refute it at one input. -/
def fnExactPacketsValidWrong : ChangeSpec := { name := "fnExactPacketsValid", fn := fun _ => fun
  | [d] => { results := [.lit (.bool false)], args := [d] }
  | _ => none }
def FnExactPacketsValidWrongFalsely : Prop := fnExactPacketsValidRow.holds Try.pinned (OpenSpec.ofChange fnExactPacketsValidWrong)

/-- 'laws.FnKeyLast': WHATEVER THE INPUT: true; the input reads as it did. -/
def fnKeyLastSpec : ChangeSpec := { name := "fnKeyLast", fn := fun _ => fun
  | [d] => { results := [.lit (.bool true)], args := [d] }
  | _ => none }
def fnKeyLastRow : OpenClaim := { program := "ythbekleahjfniaa", sum := "8f6e4e2df3ae4313a6d7820de795bd709a0d9353bf652fd32726c606a611c4fb", func := "loop.example/mediarelay/laws.FnKeyLast", spec := "fnKeyLast", apart := false }
def FnKeyLastSaid : Prop := fnKeyLastRow.holds Try.pinned (OpenSpec.ofChange fnKeyLastSpec)

/-- ITS FALSE NEIGHBOUR: 'it returns false'. Refute it at one input. -/
def fnKeyLastWrong : ChangeSpec := { name := "fnKeyLast", fn := fun _ => fun
  | [d] => { results := [.lit (.bool false)], args := [d] }
  | _ => none }
def FnKeyLastWrongFalsely : Prop := fnKeyLastRow.holds Try.pinned (OpenSpec.ofChange fnKeyLastWrong)

/-- 'laws.FnKeyNone': WHATEVER THE INPUT: true; the input reads as it did. -/
def fnKeyNoneSpec : ChangeSpec := { name := "fnKeyNone", fn := fun _ => fun
  | [d] => { results := [.lit (.bool true)], args := [d] }
  | _ => none }
def fnKeyNoneRow : OpenClaim := { program := "ythbekleahjfniaa", sum := "8f6e4e2df3ae4313a6d7820de795bd709a0d9353bf652fd32726c606a611c4fb", func := "loop.example/mediarelay/laws.FnKeyNone", spec := "fnKeyNone", apart := false }
def FnKeyNoneSaid : Prop := fnKeyNoneRow.holds Try.pinned (OpenSpec.ofChange fnKeyNoneSpec)

/-- ITS FALSE NEIGHBOUR: 'it returns false'. Refute it at one input. -/
def fnKeyNoneWrong : ChangeSpec := { name := "fnKeyNone", fn := fun _ => fun
  | [d] => { results := [.lit (.bool false)], args := [d] }
  | _ => none }
def FnKeyNoneWrongFalsely : Prop := fnKeyNoneRow.holds Try.pinned (OpenSpec.ofChange fnKeyNoneWrong)

/-- 'laws.FnExactPacketsKey': WHATEVER THE INPUT: true; the input reads as it did. -/
def fnExactPacketsKeySpec : ChangeSpec := { name := "fnExactPacketsKey", fn := fun _ => fun
  | [d] => { results := [.lit (.bool true)], args := [d] }
  | _ => none }
def fnExactPacketsKeyRow : OpenClaim := { program := "ythbekleahjfniaa", sum := "8f6e4e2df3ae4313a6d7820de795bd709a0d9353bf652fd32726c606a611c4fb", func := "loop.example/mediarelay/laws.FnExactPacketsKey", spec := "fnExactPacketsKey", apart := false }
def FnExactPacketsKeySaid : Prop := fnExactPacketsKeyRow.holds Try.pinned (OpenSpec.ofChange fnExactPacketsKeySpec)

/-- ITS FALSE NEIGHBOUR: 'it returns false'. Refute it at one input. -/
def fnExactPacketsKeyWrong : ChangeSpec := { name := "fnExactPacketsKey", fn := fun _ => fun
  | [d] => { results := [.lit (.bool false)], args := [d] }
  | _ => none }
def FnExactPacketsKeyWrongFalsely : Prop := fnExactPacketsKeyRow.holds Try.pinned (OpenSpec.ofChange fnExactPacketsKeyWrong)

/- THE SECOND FORM. 'bulk': how many values and letters a reading holds, each counted each time it is reached (what is shared counts as often as it is met; a slice's spare places count too). A statement '..UptoSaid' is the law's where the arguments, and the package variables that the reading takes, are together of bulk at most 1048576: NARROWER than '..Said'. Prove '..Said' where nothing that the law and all that it calls make is longer than what came in: it says more and counts as full. Else prove '..UptoSaid'. A law counts once. -/
mutual
def uptoBulk {H : Type} : DataW H → Nat
  | .lit (.string bytes) => bytes.length + 1
  | .lit _ => 1
  | .nil => 1
  | .ptr d => uptoBulk d + 1
  | .slice elems spare => uptoBulkAll elems + uptoBulkAll spare + 1
  | .agg parts => uptoBulkAll parts + 1
  | .iface _ d => uptoBulk d + 1
  | .map entries => uptoBulkEntries entries + 1
  | .held _ => 1
def uptoBulkAll {H : Type} : List (DataW H) → Nat
  | [] => 0
  | d :: r => uptoBulk d + uptoBulkAll r
def uptoBulkEntries {H : Type} : List (Lit × DataW H) → Nat
  | [] => 0
  | x :: r => uptoBulkEntry x + uptoBulkEntries r
def uptoBulkEntry {H : Type} : Lit × DataW H → Nat
  | (.string bytes, d) => bytes.length + uptoBulk d + 1
  | (_, d) => uptoBulk d + 1
 end
def uptoSmall : (H : Type) → List (DataW H) → Bool := fun _ ds => decide (uptoBulkAll ds ≤ 1048576)
def OpenSpec.upto (s : _root_.Go.ChangeSpec) : _root_.Go.OpenSpec := { _root_.Go.OpenSpec.ofChange s with cond := some uptoSmall }

/-- 'laws.FnPacketPart', WHERE WHAT IT READS IS OF BULK AT MOST 1048576: true; the input reads as it did. -/
def fnPacketPartUptoRow : OpenClaim := { program := "ythbekleahjfniaa", sum := "8f6e4e2df3ae4313a6d7820de795bd709a0d9353bf652fd32726c606a611c4fb", func := "loop.example/mediarelay/laws.FnPacketPart", spec := "fnPacketPart", apart := false, narrowed := true }
def FnPacketPartUptoSaid : Prop := fnPacketPartUptoRow.holds Try.pinned (OpenSpec.upto fnPacketPartSpec)

/-- 'laws.FnSlotPart', WHERE WHAT IT READS IS OF BULK AT MOST 1048576: true; the input reads as it did. -/
def fnSlotPartUptoRow : OpenClaim := { program := "ythbekleahjfniaa", sum := "8f6e4e2df3ae4313a6d7820de795bd709a0d9353bf652fd32726c606a611c4fb", func := "loop.example/mediarelay/laws.FnSlotPart", spec := "fnSlotPart", apart := false, narrowed := true }
def FnSlotPartUptoSaid : Prop := fnSlotPartUptoRow.holds Try.pinned (OpenSpec.upto fnSlotPartSpec)

/-- 'laws.FnExactSlotValid', WHERE WHAT IT READS IS OF BULK AT MOST 1048576: true; the input reads as it did. -/
def fnExactSlotValidUptoRow : OpenClaim := { program := "ythbekleahjfniaa", sum := "8f6e4e2df3ae4313a6d7820de795bd709a0d9353bf652fd32726c606a611c4fb", func := "loop.example/mediarelay/laws.FnExactSlotValid", spec := "fnExactSlotValid", apart := false, narrowed := true }
def FnExactSlotValidUptoSaid : Prop := fnExactSlotValidUptoRow.holds Try.pinned (OpenSpec.upto fnExactSlotValidSpec)

/-- 'laws.FnPacketsPart', WHERE WHAT IT READS IS OF BULK AT MOST 1048576: true; the input reads as it did. -/
def fnPacketsPartUptoRow : OpenClaim := { program := "ythbekleahjfniaa", sum := "8f6e4e2df3ae4313a6d7820de795bd709a0d9353bf652fd32726c606a611c4fb", func := "loop.example/mediarelay/laws.FnPacketsPart", spec := "fnPacketsPart", apart := false, narrowed := true }
def FnPacketsPartUptoSaid : Prop := fnPacketsPartUptoRow.holds Try.pinned (OpenSpec.upto fnPacketsPartSpec)

/-- 'laws.FnExactPacketsValid', WHERE WHAT IT READS IS OF BULK AT MOST 1048576: true; the input reads as it did. -/
def fnExactPacketsValidUptoRow : OpenClaim := { program := "ythbekleahjfniaa", sum := "8f6e4e2df3ae4313a6d7820de795bd709a0d9353bf652fd32726c606a611c4fb", func := "loop.example/mediarelay/laws.FnExactPacketsValid", spec := "fnExactPacketsValid", apart := false, narrowed := true }
def FnExactPacketsValidUptoSaid : Prop := fnExactPacketsValidUptoRow.holds Try.pinned (OpenSpec.upto fnExactPacketsValidSpec)

/-- 'laws.FnKeyLast', WHERE WHAT IT READS IS OF BULK AT MOST 1048576: true; the input reads as it did. -/
def fnKeyLastUptoRow : OpenClaim := { program := "ythbekleahjfniaa", sum := "8f6e4e2df3ae4313a6d7820de795bd709a0d9353bf652fd32726c606a611c4fb", func := "loop.example/mediarelay/laws.FnKeyLast", spec := "fnKeyLast", apart := false, narrowed := true }
def FnKeyLastUptoSaid : Prop := fnKeyLastUptoRow.holds Try.pinned (OpenSpec.upto fnKeyLastSpec)

/-- 'laws.FnKeyNone', WHERE WHAT IT READS IS OF BULK AT MOST 1048576: true; the input reads as it did. -/
def fnKeyNoneUptoRow : OpenClaim := { program := "ythbekleahjfniaa", sum := "8f6e4e2df3ae4313a6d7820de795bd709a0d9353bf652fd32726c606a611c4fb", func := "loop.example/mediarelay/laws.FnKeyNone", spec := "fnKeyNone", apart := false, narrowed := true }
def FnKeyNoneUptoSaid : Prop := fnKeyNoneUptoRow.holds Try.pinned (OpenSpec.upto fnKeyNoneSpec)

/-- 'laws.FnExactPacketsKey', WHERE WHAT IT READS IS OF BULK AT MOST 1048576: true; the input reads as it did. -/
def fnExactPacketsKeyUptoRow : OpenClaim := { program := "ythbekleahjfniaa", sum := "8f6e4e2df3ae4313a6d7820de795bd709a0d9353bf652fd32726c606a611c4fb", func := "loop.example/mediarelay/laws.FnExactPacketsKey", spec := "fnExactPacketsKey", apart := false, narrowed := true }
def FnExactPacketsKeyUptoSaid : Prop := fnExactPacketsKeyUptoRow.holds Try.pinned (OpenSpec.upto fnExactPacketsKeySpec)

end Rows
end Go.Proofs.Ythbekleahjfniaa
