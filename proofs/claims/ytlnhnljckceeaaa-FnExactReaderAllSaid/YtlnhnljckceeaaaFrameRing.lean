/-
  How an argument that is a ring, or a reader, is opened.
-/
import Derived.Test.YtlnhnljckceeaaaFramePks
namespace Go.Proofs.Ytlnhnljckceeaaa
open Go.RowKit Go.ChangeShapes Go.WideShapes Go.ChangeAt Go.Deep Go.Joins
set_option linter.unusedSimpArgs false
set_option linter.unusedVariables false

/-- Two numbers and a truth value. -/
theorem reader_ints {v : Value} {l : List Value} (hv : v = .agg l.toArray) (hl : l.length = 3) (f0 : ∃ x, l[0]? = some (.int .i64 x) ∧ In64 x) (f1 : ∃ x, l[1]? = some (.int .i64 x) ∧ In64 x) (f2 : ∃ x, l[2]? = some (.bool x)) :
    ∃ a b c, v = .agg #[.int .i64 a, .int .i64 b, .bool c] ∧ In64 a ∧ In64 b := by
  obtain ⟨a, ha, wa⟩ := f0; obtain ⟨b, hb, wb⟩ := f1; obtain ⟨c, hc⟩ := f2
  match l, hl with
  | [c0, c1, c2], _ =>
    simp at ha hb hc
    subst ha hb hc
    exact ⟨a, b, c, hv, wa, wb⟩

section
variable {H : Type} {enc : TypeId × Value → H} {P : Program} {w : World} {base : Nat} {held : Bool}
/-- Two numbers and a list of packets. -/
theorem ring_arg {v : Value} {l : List Value} {n : Nat} {t e : TypeId} (hv : v = .agg l.toArray) (hl : l.length = 3) (f0 : ∃ x, l[0]? = some (.int .i64 x) ∧ In64 x) (f1 : ∃ x, l[1]? = some (.int .i64 x) ∧ In64 x)
    (f2 : ∃ c y, l[2]? = some c ∧ DataW.trod enc P w base (fun _ => true) held n t [c] = some y)
    (K : ∀ {a : Option Addr} {len cap : Nat} {d : DataW H} {p : List MemPlace}, DataW.Trod enc P w base (fun _ => true) held t (.slice a len cap) d p → len ≤ cap ∧ cap ≤ maxLen ∧ ∃ ps : List Pk, ps.length = len ∧ PkRow w w.heap.size a ps)
    (ht : P.underlying t = some (.slice e)) :
    ∃ a b A len cap, ∃ ps : List Pk, v = .agg #[.int .i64 a, .int .i64 b, .slice A len cap] ∧ In64 a ∧ In64 b ∧ len ≤ cap ∧ cap ≤ maxLen ∧ ps.length = len ∧ PkRow w w.heap.size A ps := by
  obtain ⟨a, ha, wa⟩ := f0; obtain ⟨b, hb, wb⟩ := f1; obtain ⟨c, y, hc, hy⟩ := f2
  have hs : ∃ A len cap, c = .slice A len cap := by
    rcases open_slice ht hy with ⟨hcs, _⟩ | ⟨x, l, c', m, n, D, Pl, hcs, _⟩
    · simp only [List.cons.injEq, and_true] at hcs
      exact ⟨_, _, _, hcs⟩
    · simp only [List.cons.injEq, and_true] at hcs
      exact ⟨_, _, _, hcs⟩
  obtain ⟨A, len, cap, rfl⟩ := hs
  obtain ⟨k1, k2, ps, k3, k4⟩ := K (d := y.1) (p := y.2) ⟨n, hy⟩
  match l, hl with
  | [c0, c1, c2], _ =>
    simp at ha hb hc
    subst ha hb hc
    exact ⟨a, b, A, len, cap, ps, hv, wa, wb, k1, k2, k3, k4⟩
end

end Go.Proofs.Ytlnhnljckceeaaa
