/-
  What drawings of rings leave; states without a reader of the code.
-/
import Derived.Test.YtlnhnljckceeaaaDrawRing
namespace Go.Proofs.Ytlnhnljckceeaaa
open Go.RowKit
set_option linter.unusedSimpArgs false
set_option linter.unusedVariables false

/-- Some ring is returned. -/
def SomeRing (w : World) (e : Ending) (w' : World) : Prop :=
  ∃ room count A cap, ∃ ps : List Pk, e = .returned (.agg #[.int .i64 room, .int .i64 count, .slice A ps.length cap]) ∧ PkRow w' w'.heap.size A ps ∧ ps.length ≤ cap ∧ cap ≤ 9223372036854775807 ∧ (-1 ≤ room ∧ room ≤ 9) ∧ (-1 ≤ count ∧ count ≤ 1000000) ∧ Below w.heap.size w w'
/-- .. and a number. -/
def SomeRingInt (w : World) (e : Ending) (w' : World) : Prop :=
  ∃ room count A cap n, ∃ ps : List Pk, e = .returned (.tuple #[.agg #[.int .i64 room, .int .i64 count, .slice A ps.length cap], .int .i64 n]) ∧ PkRow w' w'.heap.size A ps ∧ ps.length ≤ cap ∧ cap ≤ 9223372036854775807 ∧ (-1 ≤ room ∧ room ≤ 9) ∧ (-1 ≤ count ∧ count ≤ 1000000) ∧ (-9223372036854775808 ≤ n ∧ n ≤ 2000000) ∧ Below w.heap.size w w'
/-- .. and a reader. -/
def SomeRingReader (w : World) (e : Ending) (w' : World) : Prop :=
  ∃ room count A cap nx lost wt, ∃ ps : List Pk, e = .returned (.tuple #[.agg #[.int .i64 room, .int .i64 count, .slice A ps.length cap], .agg #[.int .i64 nx, .int .i64 lost, .bool wt]]) ∧ PkRow w' w'.heap.size A ps ∧ ps.length ≤ cap ∧ cap ≤ 9223372036854775807 ∧ (-1 ≤ room ∧ room ≤ 9) ∧ (-1 ≤ count ∧ count ≤ 1000000) ∧ (-1 ≤ nx ∧ nx ≤ 1000001) ∧ (-1 ≤ lost ∧ lost ≤ 999999) ∧ Below w.heap.size w w'

/-- Blocks that are known whole, and a row of packets. -/
structure Sk (w wx : World) (L : List (Nat × TypeId × Array Value)) (A : Option Addr) (ps : List Pk) : Prop where
  below : Below w.heap.size w wx
  blks : ∀ b T cs, (b, T, cs) ∈ L → Blk wx b T cs
  row : PkRow wx wx.heap.size A ps
section
variable {w wx w' : World} {b T : Nat} {L : List (Nat × TypeId × Array Value)} {A : Option Addr} {ps : List Pk} {cs : Array Value}
theorem Sk.mem (h : Sk w wx L A ps) (hb : Below wx.heap.size wx w') : Sk w w' L A ps := ⟨Fr.step h.below hb, fun b T cs hm => (h.blks b T cs hm).below hb (h.blks b T cs hm).lt, h.row.mem hb⟩
theorem Sk.alloc (h : Sk w wx L A ps) (o : Obj) : Sk w (wx.alloc o) L A ps := ⟨Fr.alloc h.below o, fun b T cs hm => (h.blks b T cs hm).alloc o, h.row.alloc o⟩
theorem Sk.push (h : Sk w wx L A ps) (T : TypeId) (cs : Array Value) (hb : b = wx.heap.size) : Sk w (wx.alloc (.cells cs T)) ((b, T, cs) :: L) A ps :=
  ⟨Fr.alloc h.below _, fun b' T' cs' hm => by
    rcases List.mem_cons.1 hm with e | hm
    · cases e; exact Blk.new _ _ _ hb
    · exact (h.blks b' T' cs' hm).alloc _, h.row.alloc _⟩
theorem Sk.b0 (h : Sk w wx ((b, T, cs) :: L) A ps) : Blk wx b T cs := h.blks b T cs (.head _)
theorem Sk.b1 {x1} (h : Sk w wx (x1 :: (b, T, cs) :: L) A ps) : Blk wx b T cs := h.blks b T cs (.tail _ (.head _))
theorem Sk.b2 {x1 x2} (h : Sk w wx (x1 :: x2 :: (b, T, cs) :: L) A ps) : Blk wx b T cs := h.blks b T cs (.tail _ (.tail _ (.head _)))
theorem Sk.b3 {x1 x2 x3} (h : Sk w wx (x1 :: x2 :: x3 :: (b, T, cs) :: L) A ps) : Blk wx b T cs := h.blks b T cs (.tail _ (.tail _ (.tail _ (.head _))))
theorem Sk.b4 {x1 x2 x3 x4} (h : Sk w wx (x1 :: x2 :: x3 :: x4 :: (b, T, cs) :: L) A ps) : Blk wx b T cs := h.blks b T cs (.tail _ (.tail _ (.tail _ (.tail _ (.head _)))))
theorem Sk.b5 {x1 x2 x3 x4 x5} (h : Sk w wx (x1 :: x2 :: x3 :: x4 :: x5 :: (b, T, cs) :: L) A ps) : Blk wx b T cs := h.blks b T cs (.tail _ (.tail _ (.tail _ (.tail _ (.tail _ (.head _))))))
theorem Sk.nil (hp : PkRow wx wx.heap.size A ps) (hb : Below w.heap.size w wx) : Sk w wx [] A ps := ⟨hb, fun _ _ _ h => (by cases h), hp⟩
theorem Sk.head1 (h : Sk w wx ((b, T, cs) :: L) A ps) (hs : cs.size ≤ 5) (hp : w.heap.size ≤ b) (hL : ∀ x ∈ L, x.1 ≠ b) (i : Nat) (u : Value) : Sk w (wx.setCell ⟨b, i, none⟩ u) ((b, T, cs.setIfInBounds i u) :: L) A ps :=
  ⟨h.below.setCell hp u, fun b' T' cs' hm => by
    rcases List.mem_cons.1 hm with e | hm
    · cases e; exact h.b0.set_ i u
    · exact (h.blks b' T' cs' (.tail _ hm)).far (hL _ hm) u, by simpa using h.row.setBlk h.b0 hs i u⟩
end
end Go.Proofs.Ytlnhnljckceeaaa
