/-
  What ReaderTake returns; a state in which two results are written.
-/
import Derived.Test.YtlnhnljckceeaaaRing2
import Derived.Test.YtlnhnljckceeaaaLastK
import Derived.Test.YtlnhnljckceeaaaGoOn
import Derived.Test.YtlnhnljckceeaaaSomeRing
import Derived.Test.YtlnhnljckceeaaaFacts
import Derived.Test.YtlnhnljckceeaaaSkip
namespace Go.Proofs.Ytlnhnljckceeaaa
open Go.RowKit
set_option linter.unusedSimpArgs false
set_option linter.unusedVariables false

structure Tk where
  nx : Int
  lost : Int
  wt : Bool
  p : Pk
  code : Int
def zpk : Pk := ⟨0, 0, 0, 0, false, false⟩
def takeF (room count : Int) (ps : List Pk) (nx lost : Int) (wt : Bool) : Tk :=
  if readerB room count ps nx lost = false then ⟨0, 0, false, zpk, 3⟩
  else if nx < count - ps.length then ⟨(goOnF count ps (count - ps.length)).1, lostF nx lost (goOnF count ps (count - ps.length)).1, (goOnF count ps (count - ps.length)).2, zpk, 2⟩
  else if nx = count then ⟨nx, lost, wt, zpk, 1⟩
  else if wt = true ∧ ((ps[(nx - (count - ps.length)).toNat]?).getD zpk).k = false then ⟨(goOnF count ps nx).1, lostF nx lost (goOnF count ps nx).1, (goOnF count ps nx).2, zpk, 2⟩
  else ⟨nx + 1, lost, false, (ps[(nx - (count - ps.length)).toNat]?).getD zpk, 0⟩
def rdv (nx lost : Int) (wt : Bool) : Array Value := #[.int .i64 nx, .int .i64 lost, .bool wt]
def tkV (t : Tk) : Value := .tuple #[.agg #[.int .i64 t.nx, .int .i64 t.lost, .bool t.wt], .agg #[.int .i64 t.p.wd, .int .i64 t.p.tm, .int .i64 t.p.ly, .int .i64 t.p.sz, .bool t.p.k, .bool t.p.l], .int .i64 t.code]
section
variable {room count : Int} {ps : List Pk} {nx lost : Int} {wt : Bool}
theorem takeF_bad (h : readerB room count ps nx lost = false) : takeF room count ps nx lost wt = ⟨0, 0, false, zpk, 3⟩ := by unfold takeF; rw [if_pos h]
theorem takeF_far (h : readerB room count ps nx lost = true) (h1 : nx < count - ps.length) : takeF room count ps nx lost wt = ⟨(goOnF count ps (count - ps.length)).1, lostF nx lost (goOnF count ps (count - ps.length)).1, (goOnF count ps (count - ps.length)).2, zpk, 2⟩ := by
  unfold takeF; rw [if_neg (by rw [h]; simp), if_pos h1]
theorem takeF_end (h : readerB room count ps nx lost = true) (h1 : ¬ nx < count - ps.length) (h2 : nx = count) : takeF room count ps nx lost wt = ⟨nx, lost, wt, zpk, 1⟩ := by
  unfold takeF; rw [if_neg (by rw [h]; simp), if_neg h1, if_pos h2]
theorem takeF_skip {p : Pk} {i : Nat} (h : readerB room count ps nx lost = true) (h1 : nx = count - ps.length + i) (h2 : nx ≠ count) (hp : ps[i]? = some p) (hk : p.k = false) : takeF room count ps nx lost true = ⟨(goOnF count ps nx).1, lostF nx lost (goOnF count ps nx).1, (goOnF count ps nx).2, zpk, 2⟩ := by
  have e : (nx - (count - ps.length)).toNat = i := by omega
  unfold takeF; rw [if_neg (by rw [h]; simp), if_neg (by omega), if_neg h2, e, hp, if_pos ⟨rfl, hk⟩]
theorem takeF_got {p : Pk} {i : Nat} (h : readerB room count ps nx lost = true) (h1 : nx = count - ps.length + i) (h2 : nx ≠ count) (hp : ps[i]? = some p) (hk : wt = false ∨ p.k = true) : takeF room count ps nx lost wt = ⟨nx + 1, lost, false, p, 0⟩ := by
  have e : (nx - (count - ps.length)).toNat = i := by omega
  unfold takeF; rw [if_neg (by rw [h]; simp), if_neg (by omega), if_neg h2, e, hp, if_neg (by rintro ⟨a, b⟩; simp at b; rw [a, b] at hk; simp at hk)]; rfl
/-- The ways that a call of ReaderTake goes. -/
theorem take_ways (room count : Int) (ps : List Pk) (nx lost : Int) (wt : Bool) : readerB room count ps nx lost = false ∨ (readerB room count ps nx lost = true ∧ (nx < count - ps.length ∨ (¬ nx < count - ps.length ∧ nx = count) ∨
    ∃ i p, nx = count - ps.length + (i : Nat) ∧ nx ≠ count ∧ i < ps.length ∧ ps[i]? = some p ∧ ((wt = true ∧ p.k = false) ∨ wt = false ∨ (wt = true ∧ p.k = true)))) := by
  cases h : readerB room count ps nx lost
  · exact .inl rfl
  · refine .inr ⟨rfl, ?_⟩
    obtain ⟨hr, hn, hl⟩ := readerB_iff.1 h
    by_cases h1 : nx < count - ps.length
    · exact .inl h1
    by_cases h2 : nx = count
    · exact .inr (.inl ⟨h1, h2⟩)
    have hi : (nx - (count - ps.length)).toNat < ps.length := by omega
    refine .inr (.inr ⟨(nx - (count - ps.length)).toNat, ps[(nx - (count - ps.length)).toNat], by omega, h2, hi, List.getElem?_eq_getElem hi, ?_⟩)
    cases wt <;> cases ps[(nx - (count - ps.length)).toNat].k <;> simp
end

/-- Two results in blocks of their own. -/
structure Two (w W : World) (D4 D5 : Nat) (L : List (Nat × TypeId × Array Value)) : Prop where
  below : Below w.heap.size w W
  ge4 : w.heap.size ≤ D4
  ge5 : w.heap.size ≤ D5
  ne : D4 ≠ D5
  a : ∃ c0 c1 c2, Blk W D4 27 #[c0, c1, c2]
  b : ∃ c0 c1 c2 c3 c4 c5, Blk W D5 31 #[c0, c1, c2, c3, c4, c5]
  blks : ∀ b T cs, (b, T, cs) ∈ L → b ≠ D4 ∧ b ≠ D5 ∧ Blk W b T cs
section
variable {w W : World} {D4 D5 : Nat} {L : List (Nat × TypeId × Array Value)}
theorem Two.drew (h : Two w W D4 D5 L) : Two w W.drew D4 D5 L := ⟨h.below.drew, h.ge4, h.ge5, h.ne, h.a, h.b, h.blks⟩
theorem Two.set4 (h : Two w W D4 D5 L) (x0 x1 x2 : Value) : Two w (wset3 W D4 x0 x1 x2) D4 D5 L := by
  obtain ⟨_, _, _, ha⟩ := h.a
  obtain ⟨_, _, _, _, _, _, hb⟩ := h.b
  exact ⟨((h.below.setCell (p := ⟨D4, 0, none⟩) h.ge4 x0).setCell (p := ⟨D4, 1, none⟩) h.ge4 x1).setCell (p := ⟨D4, 2, none⟩) h.ge4 x2, h.ge4, h.ge5, h.ne, ⟨_, _, _, ha.set3 _ _ _⟩, ⟨_, _, _, _, _, _, hb.far3 (Ne.symm h.ne) _ _ _⟩, fun b T cs hm => ⟨(h.blks b T cs hm).1, (h.blks b T cs hm).2.1, (h.blks b T cs hm).2.2.far3 (h.blks b T cs hm).1 _ _ _⟩⟩
theorem Two.set5 (h : Two w W D4 D5 L) (x0 x1 x2 x3 x4 x5 : Value) : Two w (wset6 W D5 x0 x1 x2 x3 x4 x5) D4 D5 L := by
  obtain ⟨_, _, _, ha⟩ := h.a
  obtain ⟨_, _, _, _, _, _, hb⟩ := h.b
  exact ⟨(((((h.below.setCell (p := ⟨D5, 0, none⟩) h.ge5 x0).setCell (p := ⟨D5, 1, none⟩) h.ge5 x1).setCell (p := ⟨D5, 2, none⟩) h.ge5 x2).setCell (p := ⟨D5, 3, none⟩) h.ge5 x3).setCell (p := ⟨D5, 4, none⟩) h.ge5 x4).setCell (p := ⟨D5, 5, none⟩) h.ge5 x5, h.ge4, h.ge5, h.ne, ⟨_, _, _, ha.far6 h.ne _ _ _ _ _ _⟩, ⟨_, _, _, _, _, _, hb.set6 _ _ _ _ _ _⟩, fun b T cs hm => ⟨(h.blks b T cs hm).1, (h.blks b T cs hm).2.1, (h.blks b T cs hm).2.2.far6 (h.blks b T cs hm).2.1 _ _ _ _ _ _⟩⟩
/-- One step of such a region. -/
def RTwo (D4 D5 : Nat) (x0 x1 x2 y0 y1 y2 y3 y4 y5 : Value) (W W' : World) : Prop := D4 ≠ D5 ∧ (W' = W ∨ W' = wset3 W D4 x0 x1 x2 ∨ W' = wset6 W D5 y0 y1 y2 y3 y4 y5)
theorem RTwo.keep4 {x0 x1 x2 y0 y1 y2 y3 y4 y5 : Value} {W W' : World} {T : TypeId} (h : RTwo D4 D5 x0 x1 x2 y0 y1 y2 y3 y4 y5 W W') (hB : Blk W D4 T #[x0, x1, x2]) : Blk W' D4 T #[x0, x1, x2] := by
  obtain ⟨hn, rfl | rfl | rfl⟩ := h
  · exact hB
  · exact hB.set3 _ _ _
  · exact hB.far6 hn _ _ _ _ _ _
theorem RTwo.keep5 {x0 x1 x2 y0 y1 y2 y3 y4 y5 : Value} {W W' : World} {T : TypeId} (h : RTwo D4 D5 x0 x1 x2 y0 y1 y2 y3 y4 y5 W W') (hB : Blk W D5 T #[y0, y1, y2, y3, y4, y5]) : Blk W' D5 T #[y0, y1, y2, y3, y4, y5] := by
  obtain ⟨hn, rfl | rfl | rfl⟩ := h
  · exact hB
  · exact hB.far3 (Ne.symm hn) _ _ _
  · exact hB.set6 _ _ _ _ _ _
end

end Go.Proofs.Ytlnhnljckceeaaa
