/-
  The state of a drawing that has a list of packets of its own.
-/
import Derived.Test.YtjdpagjcbhkonaaFacts
import Derived.Test.YtjdpagjcbhkonaaPks
import Derived.Deep.AppendLies
import Derived.Laws.OwnMore
namespace Go.Proofs.Ytjdpagjcbhkonaa
open Go.RowKit
set_option linter.unusedSimpArgs false
set_option linter.unusedVariables false

/-- The slice v is the call's own and holds these packets. -/
def Own (wx : World) (base : Nat) (v : Value) (ps : List Pk) : Prop := wx.ownsRow base 31 6 v ps.length (pkcs ps)
/-- The state: as 'St', and a list of the call's own, in blocks from base on. -/
structure So (w wx : World) (g N : Nat) (L : List (Nat × TypeId × Array Value)) (base : Nat) (v : Value) (ps : List Pk) : Prop where
  st : St w wx g N L
  own : Own wx base v ps
  gb : g < base
  lb : ∀ x ∈ L, x.1 < base
  wb : w.heap.size ≤ base
  bs : base ≤ wx.heap.size

section
variable {w wx w' : World} {g N M base : Nat} {L : List (Nat × TypeId × Array Value)} {v : Value} {ps : List Pk}
theorem own_kept {base : Nat} {v : Value} {ps : List Pk} {g : Nat} (h : Own wx base v ps) (hg : Goes g wx w') (hb : g < base) : Own w' base v ps := by
  refine World.ownsRow.kept h hg ?_
  cases hv : v.ownBlock with
  | none => exact .inl rfl
  | some k => right; intro e; have := (World.ownsRow.lt h k hv).1; simp at e; omega
theorem So.goes (h : So w wx g N L base v ps) (hg : Goes g wx w') (hr : Rd w' w.heap.size g M) : So w w' g M L base v ps :=
  ⟨h.st.goes hg hr, own_kept h.own hg h.gb, h.gb, h.lb, h.wb, Nat.le_trans h.bs hg.size⟩
theorem So.le (h : So w wx g N L base v ps) (hM : N ≤ M) : So w wx g M L base v ps := ⟨h.st.le hM, h.own, h.gb, h.lb, h.wb, h.bs⟩
theorem So.drew (h : So w wx g N L base v ps) : So w wx.drew g N L base v ps := ⟨h.st.drew, h.own, h.gb, h.lb, h.wb, h.bs⟩
theorem So.alloc (h : So w wx g N L base v ps) (o : Obj) : So w (wx.alloc o) g N L base v ps :=
  ⟨h.st.alloc o, World.ownsRow.alloc h.own o, h.gb, h.lb, h.wb, by have := h.bs; simp; omega⟩
/-- What an append leaves. -/
theorem So.app {w7 w8 : World} {o : Obj} {v' : Value} {p : Pk} (h : So w w7 g N L base v ps) (hgrow : (w7.alloc o).grownBy w8 v.ownBlock) (hown : w8.ownsRow base 31 6 v' (ps.length + 1) (pkcs ps ++ pkc p)) :
    So w w8 g N L base v' (ps ++ [p]) := by
  have hk : ∀ k, k < base → w8.heap[k]? = w7.heap[k]? := fun k hk => by
    have hs := h.bs
    rw [hgrow.block k (by simp; omega) (fun e => by have := (World.ownsRow.lt h.own k e.symm).1; omega)]
    exact Below.heap_alloc w7 o k (by omega)
  have hsz := hgrow.size
  simp only [World.size_alloc] at hsz
  refine ⟨⟨⟨hgrow.os.trans h.st.below.os, hgrow.tape.trans h.st.below.tape, hgrow.output.trans h.st.below.output, by have := h.st.below.size; omega, fun i hi => (hk i (by have := h.wb; omega)).trans (h.st.below.block i hi)⟩,
    h.st.rd.keep fun k hkg => hk k (by have := h.gb; omega), fun b T cs hm => ⟨(h.st.blks b T cs hm).1, (hk b (h.lb _ hm)).trans (h.st.blks b T cs hm).2⟩⟩, ?_, h.gb, h.lb, h.wb, by have := h.bs; omega⟩
  unfold Own
  rw [pkcs_append]
  simpa [pkcs] using hown
/-- The value, written out. -/
theorem So.form (h : So w wx g N L base v ps) (hn : 0 < ps.length) : ∃ b cap, v = .slice (some ⟨b, 0, none⟩) ps.length cap ∧ base ≤ b ∧ b < wx.heap.size := World.ownsRow.form h.own hn
end
/-- What pick leaves. -/
def PickedSo (w : World) (g N : Nat) (L : List (Nat × TypeId × Array Value)) (base : Nat) (v : Value) (ps : List Pk) (n : Int) (wx : World) (e : Ending) (w' : World) : Prop :=
  ∃ u, e = .returned (.int .i64 u) ∧ 0 ≤ u ∧ u + 1 ≤ n ∧ So w w' g (N + 1) L base v ps ∧ Goes g wx w'
theorem pickO {w wx : World} {g N base : Nat} {L : List (Nat × TypeId × Array Value)} {v : Value} {ps : List Pk} (h : So w wx g N L base v ps) (n : Int) (hN : N ≤ 1000000000000) (hn0 : 1 ≤ n) (hn1 : n ≤ 9223372036854775807) :
    Calls Try.prog 23 #[.pointer (some ⟨g, 0, none⟩), .int .i64 n] wx (PickedSo w g N L base v ps n wx) :=
  (pick_any w.heap.size g N n wx h.st.rd hN (by omega) hn1).mono fun _ _ ⟨u, he, hv, hr, hg, hz⟩ => ⟨u, he, hv.1, by have := hv.2; have := hv.1; omega, h.goes hg hr, hg⟩

/-- A list's cells with one packet turned. -/
theorem pkcs_set (ps : List Pk) (k : Nat) (p q : Pk) (hk : ps[k]? = some p) (f : Nat) (u : Value) (hf : f < 6) (hq : (pkc q) = (pkc p).set f u) : (pkcs ps).set (k * 6 + f) u = pkcs (ps.set k q) := by
  induction ps generalizing k with
  | nil => simp at hk
  | cons r ps ih =>
    cases k with
    | zero =>
      simp at hk
      subst hk
      show (pkc r ++ pkcs ps).set (0 * 6 + f) u = pkc q ++ pkcs ps
      rw [List.set_append_left _ _ (by simp [pkc]; omega), hq]
      simp
    | succ k =>
      show (pkc r ++ pkcs ps).set ((k + 1) * 6 + f) u = pkc r ++ pkcs (ps.set k q)
      rw [List.set_append_right _ _ (by simp [pkc]; omega)]
      have : (k + 1) * 6 + f - (pkc r).length = k * 6 + f := by simp [pkc]; omega
      rw [this, ih k (by simpa using hk)]
theorem Own.cells {wx : World} {base b cap : Nat} {ps : List Pk} (h : Own wx base (.slice (some ⟨b, 0, none⟩) ps.length cap) ps) {k : Nat} {p : Pk} (hk : ps[k]? = some p) : Six wx b (k * 6) p := by
  have hkl : k < ps.length := by
    rcases Nat.lt_or_ge k ps.length with h' | h'
    · exact h'
    · rw [List.getElem?_eq_none h'] at hk; cases hk
  have g : ∀ f, f < 6 → wx.cell? ⟨b, k * 6 + f, none⟩ = (pkc p)[f]? := fun f hf => by
    rw [World.ownsRow.cellAt h _ (by omega)]; exact pkcs_get hk hf
  exact ⟨g 0 (by omega), g 1 (by omega), g 2 (by omega), g 3 (by omega), g 4 (by omega), g 5 (by omega)⟩
theorem Own.set {wx : World} {base b cap : Nat} {ps : List Pk} (h : Own wx base (.slice (some ⟨b, 0, none⟩) ps.length cap) ps) {k : Nat} {p q : Pk} (hk : ps[k]? = some p) (f : Nat) (u : Value) (hf : f < 6) (hq : (pkc q) = (pkc p).set f u) :
    Own (wx.setCell ⟨b, k * 6 + f, none⟩ u) base (.slice (some ⟨b, 0, none⟩) (ps.set k q).length cap) (ps.set k q) := by
  have := (World.ownsRow.stored h (k * 6 + f) u).1
  rw [pkcs_set ps k p q hk f u hf hq] at this
  unfold Own
  simpa using this
/-- A list of the call's own reads as its packets. -/
theorem Own.row {wx : World} {base : Nat} {v : Value} {ps : List Pk} (h : Own wx base v ps) : ∃ A cap, v = .slice A ps.length cap ∧ ps.length ≤ cap ∧ cap ≤ maxLen ∧ PkRow wx wx.heap.size A ps := by
  rcases h.2 with ⟨hv, h0⟩ | ⟨b, cap, cur, hv, hb, hg, hn, hm, hs, ht⟩
  · have : ps = [] := List.eq_nil_of_length_eq_zero h0
    subst this
    exact ⟨none, 0, hv, Nat.le_refl _, Nat.zero_le _, PkRow.nil _ _ _⟩
  · refine ⟨some ⟨b, 0, none⟩, cap, hv, hn, hm, fun h0 => ⟨b, 0, rfl, ?_, fun j p hj => ?_⟩⟩
    · exact (Array.getElem?_eq_some_iff.1 hg).1
    · subst hv
      rw [Nat.zero_add]
      exact Own.cells (base := base) (cap := cap) h hj

/-- One field of one packet is written. -/
theorem So.set {w wx : World} {g N base b cap : Nat} {L : List (Nat × TypeId × Array Value)} {ps : List Pk} (h : So w wx g N L base (.slice (some ⟨b, 0, none⟩) ps.length cap) ps) (hb : base ≤ b) {k : Nat} {p q : Pk} (hk : ps[k]? = some p) (f : Nat) (u : Value) (hf : f < 6) (hq : (pkc q) = (pkc p).set f u) :
    So w (wx.setCell ⟨b, k * 6 + f, none⟩ u) g N L base (.slice (some ⟨b, 0, none⟩) (ps.set k q).length cap) (ps.set k q) :=
  ⟨h.st.far (p := ⟨b, k * 6 + f, none⟩) (show g ≠ b by have := h.gb; omega) (show w.heap.size ≤ b by have := h.wb; omega) (fun x hx => show x.1 ≠ b by have := h.lb x hx; omega) u, Own.set h.own hk f u hf hq, h.gb, h.lb, h.wb, by have := h.bs; simpa [World.setCell] using this⟩

end Go.Proofs.Ytjdpagjcbhkonaa
