/-
  A state in which the block of the result holds a ring.
-/
import Derived.Test.YtlnhnljckceeaaaSomeRing
namespace Go.Proofs.Ytlnhnljckceeaaa
open Go.RowKit
set_option linter.unusedSimpArgs false
set_option linter.unusedVariables false

/-- A block holds a ring. -/
def HasRing (D : Nat) (W : World) : Prop := ∃ r c A cap, ∃ ps : List Pk, Blk W D 25 #[.int .i64 r, .int .i64 c, .slice A ps.length cap] ∧ PkRow W W.heap.size A ps ∧ ps.length ≤ cap ∧ cap ≤ 9223372036854775807 ∧ (-1 ≤ r ∧ r ≤ 9) ∧ (-1 ≤ c ∧ c ≤ 1000000)
theorem HasRing.zero {D : Nat} {W : World} (h : Blk W D 25 #[.int .i64 0, .int .i64 0, .slice none 0 0]) : HasRing D W := ⟨0, 0, none, 0, [], h, PkRow.nil _ _ _, Nat.le_refl _, Nat.zero_le _, by omega, by omega⟩
theorem HasRing.goes {D g N B : Nat} {W W' : World} (h : HasRing D W) (hg : Goes g W W') (hr : Rd W B g N) (hn : D ≠ g) : HasRing D W' := by
  obtain ⟨r, c, A, cap, ps, hB, hp, h'⟩ := h
  exact ⟨r, c, A, cap, ps, hB.goes hg hn, (hp.goes hr hg (Nat.le_refl _)).more hg.size, h'⟩
theorem HasRing.mem {D : Nat} {W W' : World} (h : HasRing D W) (hb : Below W.heap.size W W') : HasRing D W' := by
  obtain ⟨r, c, A, cap, ps, hB, hp, h'⟩ := h
  exact ⟨r, c, A, cap, ps, hB.below hb hB.lt, hp.mem hb, h'⟩
/-- What the region's operations leave in the memory: the reader goes on, the block of the result holds a ring. -/
structure Sh (w wx : World) (g N : Nat) (L : List (Nat × TypeId × Array Value)) (A : Option Addr) (ps : List Pk) (D : Nat) : Prop where
  sg : Sg w wx g N L A ps
  ring : HasRing D wx
  ne : D ≠ g
  far : ∀ x ∈ L, x.1 ≠ D
  ge : w.heap.size ≤ D
section
variable {w wx w' : World} {g N M D : Nat} {L : List (Nat × TypeId × Array Value)} {A : Option Addr} {ps : List Pk}
theorem Sh.le (h : Sh w wx g N L A ps D) (hM : N ≤ M) : Sh w wx g M L A ps D := ⟨h.sg.le hM, h.ring, h.ne, h.far, h.ge⟩
theorem Sh.drew (h : Sh w wx g N L A ps D) : Sh w wx.drew g N L A ps D := ⟨h.sg.drew, h.ring, h.ne, h.far, h.ge⟩
theorem pickH (h : Sh w wx g N L A ps D) (n : Int) (hN : N ≤ 1000000000000) (hn0 : 1 ≤ n) (hn1 : n ≤ 9223372036854775807) :
    Calls Try.prog 43 #[.pointer (some ⟨g, 0, none⟩), .int .i64 n] wx fun e w' => ∃ u, e = .returned (.int .i64 u) ∧ 0 ≤ u ∧ u + 1 ≤ n ∧ Sh w w' g (N + 1) L A ps D :=
  (pickG h.sg n hN hn0 hn1).mono fun _ _ ⟨u, he, h0, h1, hs, hg⟩ => ⟨u, he, h0, h1, hs, h.ring.goes hg h.sg.st.rd h.ne, h.ne, h.far, h.ge⟩
theorem Sh.store {room count : Int} {A' : Option Addr} {ps' : List Pk} {cap : Nat} (h : Sh w wx g N L A ps D) (hp : PkRow wx wx.heap.size A' ps') (h1 : ps'.length ≤ cap) (h2 : cap ≤ 9223372036854775807) (h3 : -1 ≤ room ∧ room ≤ 9) (h4 : -1 ≤ count ∧ count ≤ 1000000) :
    Sh w (wset3 wx D (.int .i64 room) (.int .i64 count) (.slice A' ps'.length cap)) g N L A ps D := by
  obtain ⟨r, c, A9, cap9, ps9, hB, hp9, h'⟩ := h.ring
  exact ⟨⟨h.sg.st.set3 (Ne.symm h.ne) h.ge h.far _ _ _, by simpa using h.sg.row.set3 hB _ _ _⟩, ⟨_, _, _, _, _, hB.set3 _ _ _, by simpa using hp.set3 hB _ _ _, h1, h2, h3, h4⟩, h.ne, h.far, h.ge⟩
end

end Go.Proofs.Ytlnhnljckceeaaa
