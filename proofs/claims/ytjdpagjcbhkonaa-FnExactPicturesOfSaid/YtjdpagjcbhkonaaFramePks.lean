/-
  How an argument that is a list of packets is opened.
-/
import Derived.Test.YtjdpagjcbhkonaaFrame
import Derived.Test.YtjdpagjcbhkonaaPks
import Derived.ChangeSame
namespace Go.Proofs.Ytjdpagjcbhkonaa
open Go.RowKit Go.ChangeShapes Go.WideShapes Go.ChangeAt Go.Deep Go.Joins
set_option linter.unusedSimpArgs false
set_option linter.unusedVariables false

theorem list_of {α : Type} {Q : Nat → α → Prop} : ∀ (n : Nat), (∀ i, i < n → ∃ p, Q i p) → ∃ ps : List α, ps.length = n ∧ ∀ i p, ps[i]? = some p → Q i p
  | 0, _ => ⟨[], rfl, fun i p h => by simp at h⟩
  | n + 1, h => by
    obtain ⟨ps, hl, hps⟩ := list_of n fun i hi => h i (by omega)
    obtain ⟨p, hp⟩ := h n (by omega)
    refine ⟨ps ++ [p], by simp [hl], fun i q hq => ?_⟩
    rw [List.getElem?_append] at hq
    split at hq
    · exact hps i q hq
    · rename_i hi
      have : i = n := by
        rcases Nat.lt_or_ge (i - ps.length) 1 with h1 | h1
        · omega
        · rw [List.getElem?_eq_none (by simpa using h1)] at hq; cases hq
      subst this
      rw [hl] at hq
      simp at hq
      subst hq
      exact hp

section
variable {H : Type} {enc : TypeId × Value → H} {P : Program} {w : World} {base : Nat} {held : Bool}

theorem pks_arg {t e ti tb : TypeId} {fs : Array Field} {f0 f1 f2 f3 f4 f5 : Field} {a : Option Addr} {len cap : Nat} {d : DataW H} {p : List MemPlace} (ht : P.underlying t = some (.slice e)) (he : P.underlying e = some (.struct fs))
    (hti : P.underlying ti = some (.int .i64)) (htb : P.underlying tb = some .bool) (hone : oneCellFields P fs = true) (hC : P.cellsOf e = 6)
    (h0 : fs = #[f0, f1, f2, f3, f4, f5]) (e0 : f0.type = ti) (e1 : f1.type = ti) (e2 : f2.type = ti) (e3 : f3.type = ti) (e4 : f4.type = tb) (e5 : f5.type = tb)
    (h : DataW.Trod enc P w base (fun _ => true) held t (.slice a len cap) d p) : len ≤ cap ∧ cap ≤ maxLen ∧ ∃ ps : List Pk, ps.length = len ∧ PkRow w w.heap.size a ps := by
  subst h0
  obtain ⟨fuel, hf⟩ := h
  rcases open_slice ht hf with ⟨hcs, _⟩ | ⟨x, l, c, m, n, D, Pl, hcs, hb, hl, hm, hmm, hx, hi⟩
  · simp [Value.cells] at hcs
    obtain ⟨rfl, rfl, rfl⟩ := hcs
    exact ⟨Nat.le_refl _, Nat.zero_le _, [], rfl, PkRow.nil _ _ _⟩
  · simp [Value.cells] at hcs
    obtain ⟨rfl, rfl, rfl⟩ := hcs
    simp at hmm
    subst hmm
    refine ⟨hl, hm, ?_⟩
    obtain ⟨b, off, spot⟩ := x
    rcases Nat.eq_zero_or_pos len with hz | hz
    · subst hz; exact ⟨[], rfl, PkRow.nil _ _ _⟩
    have hsp : spot = none := by
      obtain ⟨cs', hc, _⟩ := hi 0 (by omega)
      rw [hC] at hc
      obtain ⟨_, hcl, hat⟩ := World.cells?_some hc
      have h1 := hat 0 (by omega)
      rw [Go.Deep.add_add, List.getElem?_eq_getElem (by have : cs'.length = 6 := hcl; omega)] at h1
      simpa [Addr.add] using World.cell?_spot h1
    subst hsp
    have key : ∀ i, i < len → ∃ p : Pk, Six w b (off + i * 6) p := fun i hilt => by
      obtain ⟨cs', hc, ht'⟩ := hi i (by omega)
      rw [hC] at hc
      obtain ⟨ys, n', hn', hy, hlen, hyl, hfl⟩ := DataW.trod_struct he ht'
      obtain ⟨_, hcl, hat⟩ := World.cells?_some hc
      have hcl' : cs'.length = 6 := hcl
      have hv : ∀ (j : Nat) (f : Field), #[f0, f1, f2, f3, f4, f5][j]? = some f → j < 6 → ∃ c y, cs'[j]? = some c ∧ w.cell? ((Addr.mk b off none).add (i * 6 + j)) = some c ∧ DataW.trod enc P w base (fun _ => true) held n' f.type [c] = some y := fun j f hj hj6 => by
        obtain ⟨ho, hk⟩ := hone_of hone j f hj
        have hcell := hat j hj6
        have hv : cs'[j]? = some (cs'[j]'(by omega)) := List.getElem?_eq_getElem (by omega)
        have h1 := hfl j f hj
        rw [ho, hk] at h1
        have hone' : (cs'.drop j).take 1 = [cs'[j]'(by omega)] := by
          rw [List.drop_eq_getElem_cons (by omega)]
          rfl
        rw [hone'] at h1
        have hys : ys[j]? = some (ys[j]'(by rw [hyl]; exact hj6)) := List.getElem?_eq_getElem _
        exact ⟨_, _, hv, by rw [← Go.Deep.add_add, hcell, hv], h1.trans hys⟩
      have int_of : ∀ (j : Nat) (f : Field), #[f0, f1, f2, f3, f4, f5][j]? = some f → j < 6 → f.type = ti → ∃ x, w.cell? ((Addr.mk b off none).add (i * 6 + j)) = some (.int .i64 x) := fun j f hj hj6 hft => by
        obtain ⟨c, y, _, hc2, hy⟩ := hv j f hj hj6
        rw [hft] at hy
        obtain ⟨x, hx, _, _⟩ := DataW.trod_int hti hy
        simp only [List.cons.injEq, and_true] at hx
        subst hx
        exact ⟨x, hc2⟩
      have bool_of : ∀ (j : Nat) (f : Field), #[f0, f1, f2, f3, f4, f5][j]? = some f → j < 6 → f.type = tb → ∃ x, w.cell? ((Addr.mk b off none).add (i * 6 + j)) = some (.bool x) := fun j f hj hj6 hft => by
        obtain ⟨c, y, _, hc2, hy⟩ := hv j f hj hj6
        rw [hft] at hy
        obtain ⟨x, hx, _⟩ := DataW.trod_bool htb hy
        simp only [List.cons.injEq, and_true] at hx
        subst hx
        exact ⟨x, hc2⟩
      obtain ⟨x0, g0⟩ := int_of 0 f0 rfl (by omega) e0
      obtain ⟨x1, g1⟩ := int_of 1 f1 rfl (by omega) e1
      obtain ⟨x2, g2⟩ := int_of 2 f2 rfl (by omega) e2
      obtain ⟨x3, g3⟩ := int_of 3 f3 rfl (by omega) e3
      obtain ⟨x4, g4⟩ := bool_of 4 f4 rfl (by omega) e4
      obtain ⟨x5, g5⟩ := bool_of 5 f5 rfl (by omega) e5
      have hadd : ∀ j, (⟨b, off, none⟩ : Addr).add j = ⟨b, off + j, none⟩ := fun j => by unfold Addr.add; split <;> simp_all
      simp only [hadd, Nat.add_zero] at g0 g1 g2 g3 g4 g5
      refine ⟨⟨x0, x1, x2, x3, x4, x5⟩, g0, ?_, ?_, ?_, ?_, ?_⟩
      · rw [Nat.add_assoc]; exact g1
      · rw [Nat.add_assoc]; exact g2
      · rw [Nat.add_assoc]; exact g3
      · rw [Nat.add_assoc]; exact g4
      · rw [Nat.add_assoc]; exact g5
    obtain ⟨ps, hpl, hps⟩ := list_of len key
    refine ⟨ps, hpl, fun h0 => ?_⟩
    obtain ⟨p0, hp0⟩ : ∃ p, ps[0]? = some p := ⟨ps[0], List.getElem?_eq_getElem h0⟩
    have hs0 := hps 0 p0 hp0
    refine ⟨b, off, rfl, ?_, fun j q hj => hps j q hj⟩
    exact World.block_lt_of_cell? w _ hs0.1
end

end Go.Proofs.Ytjdpagjcbhkonaa
