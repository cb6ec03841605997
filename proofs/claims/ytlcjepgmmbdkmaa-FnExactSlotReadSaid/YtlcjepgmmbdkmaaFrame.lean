/-
  How the arguments of a law are opened: a code (a slice of bytes), and structs whose fields are numbers, truth values or slices.
-/
import Derived.Test.YtlcjepgmmbdkmaaWords
import Derived.ProofKit
import Derived.OpenShut
import Derived.ShutString
import Derived.ChangeOld
import Derived.Below
import Derived.Lib.SmallJoins
import Derived.Deep.Slices
import Derived.Deep.Fields
namespace Go.Proofs.Ytlcjepgmmbdkmaa
open Go.RowKit Go.ChangeShapes Go.WideShapes Go.ChangeAt Go.Deep Go.Joins

theorem ownKnob_ : ownKnob Try.prog.godebug = none := by kernel_rfl
theorem laidOut_ : laidOutB Try.prog = true := by kernel_rfl

/-- A number of 64 bits. -/
def In64 (n : Int) : Prop := -9223372036854775808 ≤ n ∧ n ≤ 9223372036854775807
theorem in64_of {n : Int} (h : (Lit.int .i64 n).wf = true) : In64 n := by
  have := h
  simp [Lit.wf, IntKind.min, IntKind.max, IntKind.signed, IntKind.bits] at this
  exact this
theorem byte_of {n : Int} (h : (Lit.int .u8 n).wf = true) : 0 ≤ n ∧ n ≤ 255 := by
  have := h
  simp [Lit.wf, IntKind.min, IntKind.max, IntKind.signed, IntKind.bits] at this
  exact this

section
variable {H : Type} {enc : TypeId × Value → H} {P : Program} {w : World} {base : Nat} {spare : Nat → Bool} {held : Bool}

theorem code_arg {t e : TypeId} {a : Option Addr} {len cap : Nat} {d : DataW H} {p : List MemPlace} (ht : P.underlying t = some (.slice e)) (he : P.underlying e = some (.int .u8)) (hC : P.cellsOf e = 1)
    (h : DataW.Trod enc P w base (fun _ => true) held t (.slice a len cap) d p) : len ≤ cap ∧ cap ≤ maxLen ∧ Code w w.heap.size a len := by
  obtain ⟨fuel, hf⟩ := h
  rcases open_ints ht he hC hf with ⟨hcs, _⟩ | ⟨x, l, c, zs, hcs, _, hl, hm, hz, _, hcell, hwz⟩
  · simp [Value.cells] at hcs
    obtain ⟨rfl, rfl, rfl⟩ := hcs
    exact ⟨Nat.le_refl _, Nat.zero_le _, fun h => absurd h (by omega)⟩
  · simp [Value.cells] at hcs
    obtain ⟨rfl, rfl, rfl⟩ := hcs
    have hz' : zs.length = cap := by simpa using hz
    refine ⟨hl, hm, fun h0 => ?_⟩
    obtain ⟨b, off, spot⟩ := x
    have hc0 := hcell 0 (by omega)
    obtain rfl : spot = none := by simpa [Addr.add] using World.cell?_spot hc0
    have hadd : ∀ j, (⟨b, off, none⟩ : Addr).add j = ⟨b, off + j, none⟩ := fun j => by unfold Addr.add; split <;> simp_all
    refine ⟨b, off, fun i => if i < zs.length then zs.getD i 0 else 0, rfl, ?_, fun i => ?_, fun i hi => ?_⟩
    · have := World.block_lt_of_cell? w _ hc0
      simpa [hadd] using this
    · simp only []
      split
      · rename_i hlt
        exact byte_of (hwz _ (by rw [List.getD_eq_getElem?_getD, List.getElem?_eq_getElem hlt]; exact List.getElem_mem hlt))
      · omega
    · have := hcell i (by omega)
      rw [hadd] at this
      have e1 : i < zs.length := by omega
      simp [this, e1]

/-- A struct of one-cell fields, by value: its cells, each with its own reading. -/
theorem open_rec {r : Reach} {b0 : Nat} {t : TypeId} {fs : Array Field} {v : Value} {d : DataW H} {p : List MemPlace} (hs : P.underlying t = some (.struct fs)) (hone : oneCellFields P fs = true) (hC : P.cellsOf t = fs.size)
    (hv : Value.okWide P w r b0 t v) (h : DataW.Trod enc P w base spare held t v d p) :
    ∃ l : List Value, v = .agg l.toArray ∧ l.length = fs.size ∧ ∃ n, ∀ (j : Nat) (f : Field), fs[j]? = some f → ∃ c y, l[j]? = some c ∧ DataW.trod enc P w base spare held n f.type [c] = some y := by
  obtain ⟨cs, rfl, hsz⟩ := okWide_struct hs hv
  obtain ⟨l⟩ := cs
  have hl : l.length = fs.size := hsz.trans hC
  obtain ⟨fuel, hf⟩ := h
  obtain ⟨xs, n, _, _, _, hlen, hg⟩ := DataW.trod_struct hs hf
  refine ⟨l, rfl, hl, n, fun j f hj => ?_⟩
  obtain ⟨ho, hk⟩ := hone_of hone j f hj
  have hjl : j < fs.size := (Array.getElem?_eq_some_iff.1 hj).1
  have hg1 := hg j f hj
  rw [ho, hk] at hg1
  have e1 : (((Value.agg l.toArray).cells.toList).drop j).take 1 = [l[j]'(by omega)] := by
    show (l.drop j).take 1 = _
    rw [List.drop_eq_getElem_cons (by omega)]
    rfl
  rw [e1, List.getElem?_eq_getElem (by omega)] at hg1
  exact ⟨l[j]'(by omega), _, List.getElem?_eq_getElem (by omega), hg1⟩

theorem fld_int {n : Nat} {t : TypeId} {l : List Value} {j : Nat} (ht : P.underlying t = some (.int .i64)) (h : ∃ c y, l[j]? = some c ∧ DataW.trod enc P w base spare held n t [c] = some y) : ∃ x, l[j]? = some (.int .i64 x) ∧ In64 x := by
  obtain ⟨c, y, hc, hy⟩ := h
  obtain ⟨x, hx, _, hw⟩ := DataW.trod_int ht hy
  simp only [List.cons.injEq, and_true] at hx
  subst hx
  exact ⟨x, hc, in64_of hw⟩
theorem fld_bool {n : Nat} {t : TypeId} {l : List Value} {j : Nat} (ht : P.underlying t = some .bool) (h : ∃ c y, l[j]? = some c ∧ DataW.trod enc P w base spare held n t [c] = some y) : ∃ x, l[j]? = some (.bool x) := by
  obtain ⟨c, y, hc, hy⟩ := h
  obtain ⟨x, hx, _⟩ := DataW.trod_bool ht hy
  simp only [List.cons.injEq, and_true] at hx
  subst hx
  exact ⟨x, hc⟩
end

/-- Six numbers. -/
theorem six_ints {v : Value} {l : List Value} (hv : v = .agg l.toArray) (hl : l.length = 6) (f0 : ∃ x, l[0]? = some (.int .i64 x) ∧ In64 x) (f1 : ∃ x, l[1]? = some (.int .i64 x) ∧ In64 x) (f2 : ∃ x, l[2]? = some (.int .i64 x) ∧ In64 x)
    (f3 : ∃ x, l[3]? = some (.int .i64 x) ∧ In64 x) (f4 : ∃ x, l[4]? = some (.int .i64 x) ∧ In64 x) (f5 : ∃ x, l[5]? = some (.int .i64 x) ∧ In64 x) :
    ∃ a b c d e f, v = .agg #[.int .i64 a, .int .i64 b, .int .i64 c, .int .i64 d, .int .i64 e, .int .i64 f] ∧ In64 a ∧ In64 b ∧ In64 c ∧ In64 d ∧ In64 e ∧ In64 f := by
  obtain ⟨a, ha, wa⟩ := f0; obtain ⟨b, hb, wb⟩ := f1; obtain ⟨c, hc, wc⟩ := f2; obtain ⟨d, hd, wd⟩ := f3; obtain ⟨e, he, we⟩ := f4; obtain ⟨f, hf, wf⟩ := f5
  match l, hl with
  | [c0, c1, c2, c3, c4, c5], _ =>
    simp at ha hb hc hd he hf
    subst ha hb hc hd he hf
    exact ⟨a, b, c, d, e, f, hv, wa, wb, wc, wd, we, wf⟩
/-- Four numbers and two truth values. -/
theorem four_ints {v : Value} {l : List Value} (hv : v = .agg l.toArray) (hl : l.length = 6) (f0 : ∃ x, l[0]? = some (.int .i64 x) ∧ In64 x) (f1 : ∃ x, l[1]? = some (.int .i64 x) ∧ In64 x) (f2 : ∃ x, l[2]? = some (.int .i64 x) ∧ In64 x)
    (f3 : ∃ x, l[3]? = some (.int .i64 x) ∧ In64 x) (f4 : ∃ x, l[4]? = some (.bool x)) (f5 : ∃ x, l[5]? = some (.bool x)) :
    ∃ a b c d e f, v = .agg #[.int .i64 a, .int .i64 b, .int .i64 c, .int .i64 d, .bool e, .bool f] ∧ In64 a ∧ In64 b ∧ In64 c ∧ In64 d := by
  obtain ⟨a, ha, wa⟩ := f0; obtain ⟨b, hb, wb⟩ := f1; obtain ⟨c, hc, wc⟩ := f2; obtain ⟨d, hd, wd⟩ := f3; obtain ⟨e, he⟩ := f4; obtain ⟨f, hf⟩ := f5
  match l, hl with
  | [c0, c1, c2, c3, c4, c5], _ =>
    simp at ha hb hc hd he hf
    subst ha hb hc hd he hf
    exact ⟨a, b, c, d, e, f, hv, wa, wb, wc, wd⟩

end Go.Proofs.Ytlcjepgmmbdkmaa
