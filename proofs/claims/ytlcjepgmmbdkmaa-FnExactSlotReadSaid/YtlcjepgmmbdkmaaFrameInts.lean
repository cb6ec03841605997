/-
  How an argument that is a list of numbers, or a slot, is opened.
-/
import Derived.Test.YtlcjepgmmbdkmaaFrame
import Derived.Test.YtlcjepgmmbdkmaaInts
import Derived.ChangeSame
namespace Go.Proofs.Ytlcjepgmmbdkmaa
open Go.RowKit Go.ChangeShapes Go.WideShapes Go.ChangeAt Go.Deep Go.Joins
set_option linter.unusedSimpArgs false
set_option linter.unusedVariables false

theorem list_ofI {α : Type} {Q : Nat → α → Prop} : ∀ (n : Nat), (∀ i, i < n → ∃ p, Q i p) → ∃ ps : List α, ps.length = n ∧ ∀ i p, ps[i]? = some p → Q i p
  | 0, _ => ⟨[], rfl, fun i p h => by simp at h⟩
  | n + 1, h => by
    obtain ⟨ps, hl, hps⟩ := list_ofI n fun i hi => h i (by omega)
    obtain ⟨p, hp⟩ := h n (by omega)
    refine ⟨ps ++ [p], by simp [hl], fun i q hq => ?_⟩
    rw [List.getElem?_append] at hq
    split at hq
    · exact hps i q hq
    · rename_i hi
      have : i = n := by
        rcases Nat.lt_or_ge (i - ps.length) 1 with h1 | h1
        · omega
        · rw [List.getElem?_eq_none (by simpa using h1)] at hq; cases hq
      subst this
      rw [hl] at hq
      simp at hq
      subst hq
      exact hp

section
variable {H : Type} {enc : TypeId × Value → H} {P : Program} {w : World} {base : Nat} {held : Bool}
theorem ints_arg {t e : TypeId} {a : Option Addr} {len cap : Nat} {d : DataW H} {p : List MemPlace} (ht : P.underlying t = some (.slice e)) (hti : P.underlying e = some (.int .i64)) (hC : P.cellsOf e = 1)
    (h : DataW.Trod enc P w base (fun _ => true) held t (.slice a len cap) d p) : len ≤ cap ∧ cap ≤ maxLen ∧ ∃ xs : List Int, xs.length = len ∧ IntRow w w.heap.size a xs := by
  obtain ⟨fuel, hf⟩ := h
  rcases open_slice ht hf with ⟨hcs, _⟩ | ⟨x, l, c, m, n, D, Pl, hcs, hb, hl, hm, hmm, hx, hi⟩
  · simp [Value.cells] at hcs
    obtain ⟨rfl, rfl, rfl⟩ := hcs
    exact ⟨Nat.le_refl _, Nat.zero_le _, [], rfl, IntRow.nil _ _ _⟩
  · simp [Value.cells] at hcs
    obtain ⟨rfl, rfl, rfl⟩ := hcs
    simp at hmm
    subst hmm
    refine ⟨hl, hm, ?_⟩
    obtain ⟨b, off, spot⟩ := x
    rcases Nat.eq_zero_or_pos len with hz | hz
    · subst hz; exact ⟨[], rfl, IntRow.nil _ _ _⟩
    have hsp : spot = none := by
      obtain ⟨cs', hc, _⟩ := hi 0 (by omega)
      rw [hC] at hc
      obtain ⟨_, hcl, hat⟩ := World.cells?_some hc
      have h1 := hat 0 (by omega)
      rw [Go.Deep.add_add, List.getElem?_eq_getElem (by have : cs'.length = 1 := hcl; omega)] at h1
      simpa [Addr.add] using World.cell?_spot h1
    subst hsp
    have hadd : ∀ j, (⟨b, off, none⟩ : Addr).add j = ⟨b, off + j, none⟩ := fun j => by unfold Addr.add; split <;> simp_all
    have key : ∀ i, i < len → ∃ x : Int, w.cell? ⟨b, off + i, none⟩ = some (.int .i64 x) := fun i hilt => by
      obtain ⟨cs', hc, ht'⟩ := hi i (by omega)
      rw [hC] at hc
      obtain ⟨_, hcl, hat⟩ := World.cells?_some hc
      have hcl' : cs'.length = 1 := hcl
      obtain ⟨x, hx, _, _⟩ := DataW.trod_int hti ht'
      have h1 := hat 0 (by omega)
      rw [hx, Go.Deep.add_add, hadd] at h1
      exact ⟨x, by simpa using h1⟩
    obtain ⟨xs, hpl, hps⟩ := list_ofI len key
    refine ⟨xs, hpl, fun h0 => ?_⟩
    obtain ⟨p0, hp0⟩ : ∃ p, xs[0]? = some p := ⟨xs[0], List.getElem?_eq_getElem h0⟩
    exact ⟨b, off, rfl, World.block_lt_of_cell? w _ (hps 0 p0 hp0), fun j q hq => hps j q hq⟩
/-- A number and a list of numbers. -/
theorem slot_arg {v : Value} {l : List Value} {n : Nat} {t e : TypeId} (hv : v = .agg l.toArray) (hl : l.length = 2) (f0 : ∃ x, l[0]? = some (.int .i64 x) ∧ In64 x)
    (f2 : ∃ c y, l[1]? = some c ∧ DataW.trod enc P w base (fun _ => true) held n t [c] = some y)
    (K : ∀ {a : Option Addr} {len cap : Nat} {d : DataW H} {p : List MemPlace}, DataW.Trod enc P w base (fun _ => true) held t (.slice a len cap) d p → len ≤ cap ∧ cap ≤ maxLen ∧ ∃ ps : List Int, ps.length = len ∧ IntRow w w.heap.size a ps)
    (ht : P.underlying t = some (.slice e)) :
    ∃ a A len cap, ∃ ps : List Int, v = .agg #[.int .i64 a, .slice A len cap] ∧ In64 a ∧ len ≤ cap ∧ cap ≤ maxLen ∧ ps.length = len ∧ IntRow w w.heap.size A ps := by
  obtain ⟨a, ha, wa⟩ := f0; obtain ⟨c, y, hc, hy⟩ := f2
  have hs : ∃ A len cap, c = .slice A len cap := by
    rcases open_slice ht hy with ⟨hcs, _⟩ | ⟨x, l, c', m, n, D, Pl, hcs, _⟩
    · simp only [List.cons.injEq, and_true] at hcs
      exact ⟨_, _, _, hcs⟩
    · simp only [List.cons.injEq, and_true] at hcs
      exact ⟨_, _, _, hcs⟩
  obtain ⟨A, len, cap, rfl⟩ := hs
  obtain ⟨k1, k2, ps, k3, k4⟩ := K (d := y.1) (p := y.2) ⟨n, hy⟩
  match l, hl with
  | [c0, c1], _ =>
    simp at ha hc
    subst ha hc
    exact ⟨a, A, len, cap, ps, hv, wa, k1, k2, k3, k4⟩
end

end Go.Proofs.Ytlcjepgmmbdkmaa
