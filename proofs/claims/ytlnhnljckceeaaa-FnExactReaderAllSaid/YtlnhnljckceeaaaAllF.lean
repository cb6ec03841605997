/-
  What ReaderAll returns; a state with a list of the call's own.
-/
import Derived.Test.YtlnhnljckceeaaaTakeLaw
import Derived.Test.YtlnhnljckceeaaaRingPut
import Derived.Test.YtlnhnljckceeaaaDrawPks
namespace Go.Proofs.Ytlnhnljckceeaaa
open Go.RowKit
set_option linter.unusedSimpArgs false
set_option linter.unusedVariables false

/-- What is read from a state on. -/
def finF (room count : Int) (ps : List Pk) (nx lost : Int) (wt : Bool) (acc : List Pk) : Int × Int × Bool × List Pk :=
  if nx < count then (if (takeF room count ps nx lost wt).code = 0 then (count, lost, false, acc ++ ps.drop (nx - (count - ps.length)).toNat)
    else (count, (takeF room count ps nx lost wt).lost, (takeF room count ps nx lost wt).wt, acc ++ ps.drop ((takeF room count ps nx lost wt).nx - (count - ps.length)).toNat)) else (nx, lost, wt, acc)
section
variable {room count : Int} {ps : List Pk} {nx lost : Int} {wt : Bool}
theorem drop_last {i : Nat} {p : Pk} (h : ps[i]? = some p) (hl : i + 1 = ps.length) : ps.drop i = [p] := by
  rw [List.drop_eq_getElem_cons (by omega), List.drop_eq_nil_of_le (by omega)]
  rw [List.getElem?_eq_getElem (by omega)] at h
  injection h with h
  rw [h]
theorem drop_next {i : Nat} {p : Pk} (h : ps[i]? = some p) : ps.drop i = p :: ps.drop (i + 1) := by
  have hi : i < ps.length := by
    rcases Nat.lt_or_ge i ps.length with h' | h'
    · exact h'
    · rw [List.getElem?_eq_none h'] at h; cases h
  rw [List.drop_eq_getElem_cons hi]
  rw [List.getElem?_eq_getElem hi] at h
  injection h with h
  rw [h]
/-- Who does not wait reads what is next. -/
theorem take_on {i : Nat} (hv : readerB room count ps nx lost = true) (h1 : nx = count - ps.length + i) (hlt : nx < count) : ∃ p, ps[i]? = some p ∧ takeF room count ps nx lost false = ⟨nx + 1, lost, false, p, 0⟩ := by
  have hi : i < ps.length := by omega
  exact ⟨ps[i], List.getElem?_eq_getElem hi, takeF_got hv h1 (by omega) (List.getElem?_eq_getElem hi) (.inl rfl)⟩
theorem fin_on {i : Nat} {acc : List Pk} (hv : readerB room count ps nx lost = true) (h1 : nx = count - ps.length + i) (hi : i ≤ ps.length) : finF room count ps nx lost false acc = (count, lost, false, acc ++ ps.drop i) := by
  unfold finF
  by_cases hlt : nx < count
  · obtain ⟨p, _, hT⟩ := take_on hv h1 hlt
    rw [if_pos hlt, hT, if_pos rfl, show (nx - (count - ps.length)).toNat = i by omega]
  · rw [if_neg hlt, show i = ps.length by omega, List.drop_length, List.append_nil, show nx = count by omega]
/-- One step; the reader behind it is valid. -/
theorem fin_step0 {acc : List Pk} {a b : Int} {c : Bool} {p : Pk} (h : takeF room count ps nx lost wt = ⟨a, b, c, p, 0⟩) : readerB room count ps a b = true ∧ nx < a ∧ finF room count ps a b c (acc ++ [p]) = finF room count ps nx lost wt acc := by
  obtain ⟨hv, rfl, rfl, rfl, hk, i, hi, hnx, hlt⟩ := take0 h
  obtain ⟨hr, hn, hl⟩ := readerB_iff.1 hv
  have hv' : readerB room count ps (nx + 1) b = true := readerB_iff.2 ⟨hr, by omega, hl⟩
  refine ⟨hv', by omega, ?_⟩
  have hil : i < ps.length := by omega
  rw [fin_on hv' (i := i + 1) (by omega) (by omega)]
  unfold finF
  rw [if_pos hlt, h, if_pos rfl, show (nx - (count - ps.length)).toNat = i by omega, drop_next hi]
  simp
theorem fin_step2 {acc : List Pk} {a b : Int} {c : Bool} {p : Pk} (hlt0 : nx < count) (h : takeF room count ps nx lost wt = ⟨a, b, c, p, 2⟩) : readerB room count ps a b = true ∧ nx < a ∧ finF room count ps a b c acc = finF room count ps nx lost wt acc := by
  obtain ⟨hv, hlt, hv', -, hk⟩ := take2 h
  refine ⟨hv', hlt, ?_⟩
  rw [show finF room count ps nx lost wt acc = (count, b, c, acc ++ ps.drop (a - (count - ps.length)).toNat) by unfold finF; rw [if_pos hlt0, h, if_neg (by show ¬ (2 : Int) = 0; omega)]]
  rcases hk with ⟨rfl, rfl⟩ | ⟨rfl, i, q, hq, hqk, ha⟩
  · unfold finF
    rw [if_neg (by omega), show (a - (a - (ps.length : Int))).toNat = ps.length by omega, List.drop_length, List.append_nil]
  · have hil : i < ps.length := by
      rcases Nat.lt_or_ge i ps.length with h' | h'
      · exact h'
      · rw [List.getElem?_eq_none h'] at hq; cases hq
    rw [fin_on hv' ha (by omega), show (a - (count - ps.length)).toNat = i by omega]
theorem take_codes (hv : readerB room count ps nx lost = true) (hlt : nx < count) : (takeF room count ps nx lost wt).code = 0 ∨ (takeF room count ps nx lost wt).code = 2 := by
  rcases take1 (a := (takeF room count ps nx lost wt).nx) (b := (takeF room count ps nx lost wt).lost) (c := (takeF room count ps nx lost wt).wt) (p := (takeF room count ps nx lost wt).p) (n := (takeF room count ps nx lost wt).code) rfl with ⟨h, _⟩ | ⟨_, h, _⟩ | ⟨_, _, h⟩
  · rw [h] at hv; cases hv
  · omega
  · exact h
theorem fin_end {acc : List Pk} (h : ¬ nx < count) : finF room count ps nx lost wt acc = (nx, lost, wt, acc) := by unfold finF; rw [if_neg h]
end

/-- A state with known blocks, the ring's packets, and a list of the call's own. -/
structure Sa (w wx : World) (L : List (Nat × TypeId × Array Value)) (base : Nat) (A : Option Addr) (ps : List Pk) (v : Value) (acc : List Pk) : Prop where
  below : Below w.heap.size w wx
  blks : ∀ b T cs, (b, T, cs) ∈ L → Blk wx b T cs
  row : PkRow wx base A ps
  own : Own wx base v acc
  lb : ∀ x ∈ L, x.1 < base
  wb : w.heap.size ≤ base
  bs : base ≤ wx.heap.size
section
variable {w wx w' : World} {L : List (Nat × TypeId × Array Value)} {base b T : Nat} {A : Option Addr} {ps : List Pk} {v : Value} {acc : List Pk}
theorem Sa.mem (h : Sa w wx L base A ps v acc) (hb : Below wx.heap.size wx w') : Sa w w' L base A ps v acc :=
  ⟨Fr.step h.below hb, fun b T cs hm => (h.blks b T cs hm).below hb (h.blks b T cs hm).lt, h.row.below (hb.mono h.bs), h.own.below hb, h.lb, h.wb, Nat.le_trans h.bs hb.size⟩
theorem Sa.rowx (h : Sa w wx L base A ps v acc) : PkRow wx wx.heap.size A ps := h.row.more h.bs
theorem Sa.alloc (h : Sa w wx L base A ps v acc) (o : Obj) : Sa w (wx.alloc o) L base A ps v acc := h.mem (Fr.alloc (Below.refl _ _) _)
theorem Sa.app {w7 w8 : World} {o : Obj} {v' : Value} {p : Pk} (h : Sa w w7 L base A ps v acc) (hgrow : (w7.alloc o).grownBy w8 v.ownBlock) (hown : w8.ownsRow base 31 6 v' (acc.length + 1) (pkcs acc ++ pkc p)) :
    Sa w w8 L base A ps v' (acc ++ [p]) := by
  have hk : ∀ k, k < base → w8.heap[k]? = w7.heap[k]? := fun k hk => by
    have hs := h.bs
    rw [hgrow.block k (by simp; omega) (fun e => by have := (World.ownsRow.lt h.own k e.symm).1; omega)]
    exact Below.heap_alloc w7 o k (by omega)
  have hsz := hgrow.size
  simp only [World.size_alloc] at hsz
  refine ⟨⟨hgrow.os.trans h.below.os, hgrow.tape.trans h.below.tape, hgrow.output.trans h.below.output, by have := h.below.size; omega, fun i hi => (hk i (by have := h.wb; omega)).trans (h.below.block i hi)⟩,
    fun b T cs hm => (hk b (h.lb _ hm)).trans (h.blks b T cs hm), h.row.keep fun b o hb => World.cell?_of_block (a := ⟨b, o, none⟩) (hk b hb), ?_, h.lb, h.wb, by have := h.bs; omega⟩
  unfold Own
  rw [pkcs_append]
  simpa [pkcs] using hown
theorem Sa.head3 {d0 d1 d2 : Value} (h : Sa w wx ((b, T, #[d0, d1, d2]) :: L) base A ps v acc) (hp : w.heap.size ≤ b) (hL : ∀ x ∈ L, x.1 ≠ b) (c0 c1 c2 : Value) : Sa w (wset3 wx b c0 c1 c2) ((b, T, #[c0, c1, c2]) :: L) base A ps v acc := by
  have hB := h.blks b T _ (.head _)
  have hbb : b < base := h.lb _ (.head _)
  have g1 := Goes.setCell (p := ⟨b, 0, none⟩) (Goes.refl b wx) (.inl rfl) c0
  have g2 := Goes.setCell (p := ⟨b, 1, none⟩) (Goes.refl b (wx.setCell ⟨b, 0, none⟩ c0)) (.inl rfl) c1
  have g3 := Goes.setCell (p := ⟨b, 2, none⟩) (Goes.refl b ((wx.setCell ⟨b, 0, none⟩ c0).setCell ⟨b, 1, none⟩ c1)) (.inl rfl) c2
  refine ⟨((h.below.setCell (p := ⟨b, 0, none⟩) hp c0).setCell (p := ⟨b, 1, none⟩) hp c1).setCell (p := ⟨b, 2, none⟩) hp c2, fun b' T' cs' hm => ?_, h.row.set3 hB c0 c1 c2,
    own_kept (own_kept (own_kept h.own g1 hbb) g2 hbb) g3 hbb, fun x hx => ?_, h.wb, by have := h.bs; simpa using this⟩
  · rcases List.mem_cons.1 hm with e | hm
    · cases e; exact hB.set3 c0 c1 c2
    · exact (h.blks b' T' cs' (.tail _ hm)).far3 (hL _ hm) c0 c1 c2
  · rcases List.mem_cons.1 hx with e | hx
    · subst e; exact hbb
    · exact h.lb x (.tail _ hx)
theorem Sa.b0 {cs : Array Value} (h : Sa w wx ((b, T, cs) :: L) base A ps v acc) : Blk wx b T cs := h.blks b T cs (.head _)
theorem Sa.b1 {cs : Array Value} {x1} (h : Sa w wx (x1 :: (b, T, cs) :: L) base A ps v acc) : Blk wx b T cs := h.blks b T cs (.tail _ (.head _))
theorem Sa.b2 {cs : Array Value} {x1 x2} (h : Sa w wx (x1 :: x2 :: (b, T, cs) :: L) base A ps v acc) : Blk wx b T cs := h.blks b T cs (.tail _ (.tail _ (.head _)))
end

/-- What ReaderAll leaves. -/
def AllPost (room count : Int) (ps : List Pk) (nx lost : Int) (wt : Bool) (w : World) (e : Ending) (w' : World) : Prop :=
  ∃ A' cap' a b c, ∃ l : List Pk, e = .returned (.tuple #[.agg #[.int .i64 a, .int .i64 b, .bool c], .slice A' l.length cap', .bool (readerB room count ps nx lost)]) ∧
    (if readerB room count ps nx lost = true then (a, b, c, l) = finF room count ps nx lost wt [] else (a, b, c, l) = (0, 0, false, [])) ∧ PkRow w' w'.heap.size A' l ∧ l.length ≤ cap' ∧ cap' ≤ 9223372036854775807 ∧ Below w.heap.size w w' ∧ Own w' w.heap.size (.slice A' l.length cap') l
theorem Own.set3_ {w : World} {base b : Nat} {v : Value} {l : List Pk} (h : Own w base v l) (hb : b < base) (c0 c1 c2 : Value) : Own (wset3 w b c0 c1 c2) base v l :=
  own_kept (own_kept (own_kept h (Goes.setCell (p := ⟨b, 0, none⟩) (Goes.refl b w) (.inl rfl) c0) hb) (Goes.setCell (p := ⟨b, 1, none⟩) (Goes.refl b _) (.inl rfl) c1) hb) (Goes.setCell (p := ⟨b, 2, none⟩) (Goes.refl b _) (.inl rfl) c2) hb
theorem Own.mono_ {w : World} {base B : Nat} {v : Value} {l : List Pk} (h : Own w base v l) (hB : B ≤ base) : Own w B v l :=
  ⟨h.1, h.2.imp id fun ⟨g, cap, cur, a, b, c⟩ => ⟨g, cap, cur, a, Nat.le_trans hB b, c⟩⟩
theorem Own.empty {w : World} {base b : Nat} (h : Blk w b 31 #[]) (hb : base ≤ b) : Own w base (.slice (some ⟨b, 0, none⟩) 0 0) [] :=
  ⟨rfl, .inr ⟨b, 0, #[], rfl, hb, h, Nat.le_refl _, Nat.zero_le _, rfl, rfl⟩⟩
/-- What holds between two rounds. -/
def AllRel (room count : Int) (ps : List Pk) (A : Option Addr) (cap : Nat) (nx lost : Int) (wt : Bool) (w : World) (base : Nat) (c7 : Value) (wr : World) : Prop :=
  ∃ a b c, ∃ acc : List Pk, Sa w wr [(w.heap.size + 1, 27, #[.int .i64 a, .int .i64 b, .bool c]), (w.heap.size + 1 + 1, 27, #[.int .i64 0, .int .i64 0, .bool false]), (w.heap.size, 25, #[.int .i64 room, .int .i64 count, .slice A ps.length cap])] base A ps c7 acc ∧
    readerB room count ps a b = true ∧ finF room count ps a b c acc = finF room count ps nx lost wt [] ∧ (acc.length : Int) ≤ a

end Go.Proofs.Ytlnhnljckceeaaa
