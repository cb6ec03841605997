/-
  The drawing of a slot.
-/
import Derived.Test.YtlcjepgmmbdkmaaInts
import Derived.Test.YtlcjepgmmbdkmaaSt
import Derived.Test.YtlcjepgmmbdkmaaFacts3
import Derived.Maps.AppendAt
import Derived.Laws.OwnMore
import Derived.Deep.AppendLies
namespace Go.Proofs.Ytlcjepgmmbdkmaa
open Go.RowKit
set_option linter.unusedSimpArgs false
set_option linter.unusedVariables false

theorem intInfo_ : (Try.prog.info? 3).map (fun i => (i.zero, i.size, i.bytes)) = some (some (.int .i64 0), 1, 8) := by kernel_rfl
theorem ints_parts_ {i : Option TypeInfo} {z : Option Value} {s b : Nat} (h : i.map (fun i => (i.zero, i.size, i.bytes)) = some (z, s, b)) : ∃ j, i = some j ∧ j.zero = z ∧ j.size = s ∧ j.bytes = b := by
  cases i with
  | none => cases h
  | some j => simp at h; exact ⟨j, rfl, h.1, h.2.1, h.2.2⟩
/-- The slice v is the call's own and holds these numbers. -/
def OwnI (wx : World) (base : Nat) (v : Value) (xs : List Int) : Prop := wx.ownsRow base 3 1 v xs.length (xs.map iv)
theorem OwnI.row {wx : World} {base : Nat} {v : Value} {xs : List Int} (h : OwnI wx base v xs) : ∃ A cap, v = .slice A xs.length cap ∧ xs.length ≤ cap ∧ cap ≤ maxLen ∧ IntRow wx wx.heap.size A xs := by
  rcases h.2 with ⟨hv, h0⟩ | ⟨b, cap, cur, hv, hb, hg, hn, hm, hs, ht⟩
  · have : xs = [] := List.eq_nil_of_length_eq_zero h0
    subst this
    exact ⟨none, 0, hv, Nat.le_refl _, Nat.zero_le _, IntRow.nil _ _ _⟩
  · refine ⟨some ⟨b, 0, none⟩, cap, hv, hn, hm, fun h0 => ⟨b, 0, rfl, (Array.getElem?_eq_some_iff.1 hg).1, fun j x hj => ?_⟩⟩
    have hjl : j < xs.length := by
      rcases Nat.lt_or_ge j xs.length with h' | h'
      · exact h'
      · rw [List.getElem?_eq_none h'] at hj; cases hj
    subst hv
    rw [Nat.zero_add, World.ownsRow.cellAt h _ (by omega)]
    simp [hj, iv]
theorem OwnI.kept {wx w' : World} {base g : Nat} {v : Value} {xs : List Int} (h : OwnI wx base v xs) (hg : Goes g wx w') (hb : g < base) : OwnI w' base v xs := by
  refine World.ownsRow.kept h hg ?_
  cases hv : v.ownBlock with
  | none => exact .inl rfl
  | some k => right; intro e; have := (World.ownsRow.lt h k hv).1; simp at e; omega

/-- append onto a row of the call's own, as one operation. -/
theorem wp_append_own {w : World} {o : Oper} {a : Act} {K : Act → World → Prop} {Q : Exit → Act → World → Prop} (s x : Operand) (ho : o.op = .call { callee := .builtin .append, args := #[s, x], argTypes := #[22, 22] })
    (base : Nat) (i : TypeInfo) (hi : Try.prog.info? 3 = some i) (hz : i.zero = some (.int .i64 0)) (hsize : i.size = 1) (hby : i.bytes = 8) (v : Value) (xs : List Int) (hs : a.eval s = v) (hown : OwnI w base v xs) (b : Nat) (u : Int)
    (hx : a.eval x = .slice (some ⟨b, 0, none⟩) 1 1) (hB : Blk w b 3 #[.int .i64 u]) (hlen : xs.length ≤ 1000) (hbase : base ≤ w.heap.size)
    (h : ∀ v' w', OwnI w' base v' (xs ++ [u]) → w.grownBy w' v.ownBlock → (v'.ownBlock = v.ownBlock ∨ v'.ownBlock = some w.heap.size) → K (a.put o.dst v') w') : Oper.wp Try.prog o a w K Q := by
  obtain ⟨v', w', hr, h2, h3, h4, h5⟩ := run_append_own_at (P := Try.prog) w base 22 o.type 3 i (.int .i64 0) 1 8 Try.underlying22 hi hz hsize hby rfl (by omega) v xs.length (xs.map iv) hown ⟨b, 0, none⟩ 1 1 [iv u] rfl
    (fun j y hy => by
      match j, hy with
      | 0, hy => simp at hy; subst hy; have := hB.cells 0; simpa [Addr.add, iv] using this) (by intro y hy; simp at hy; subst hy; rfl) (by unfold maxLen; omega) (by omega) hbase
  unfold Oper.wp execOp
  simp only [ho, resolve, invoke, builtin, Sem.run_bind, Sem.run_pure, Result.andThen_ok, List.map_toArray, List.map_cons, List.map_nil, hs, hx, hr]
  refine h v' w' ?_ h3 h5
  unfold OwnI
  simpa using h2

/-- No known block is the list's own. -/
def Off (v : Value) (g D2 D3 : Nat) (L : List (Nat × TypeId × Array Value)) : Prop := ∀ k, v.ownBlock = some k → k ≠ g ∧ k ≠ D3 ∧ k ≠ D2 ∧ ∀ x ∈ L, x.1 ≠ k
theorem OwnI.goes {wx w' : World} {base g : Nat} {v : Value} {xs : List Int} (h : OwnI wx base v xs) (hg : Goes g wx w') (hn : v.ownBlock ≠ some g) : OwnI w' base v xs := by
  refine World.ownsRow.kept h hg ?_
  cases hv : v.ownBlock with
  | none => exact .inl rfl
  | some k => right; intro e; rw [hv] at hn; exact hn (by simpa using e)
theorem Off.g {v : Value} {g D2 D3 : Nat} {L : List (Nat × TypeId × Array Value)} (h : Off v g D2 D3 L) : v.ownBlock ≠ some g := fun e => (h _ e).1 rfl
/-- The state of the drawing of a slot: the slot's box is D3, the result's D2; the list is the call's own. -/
structure Sl (w wx : World) (g N base D2 D3 : Nat) (L : List (Nat × TypeId × Array Value)) (ver : Int) (v : Value) (xs : List Int) : Prop where
  st : St w wx g N ((D3, 26, #[.int .i64 ver, v]) :: (D2, 26, #[.int .i64 0, .slice none 0 0]) :: L)
  own : OwnI wx base v xs
  off : Off v g D2 D3 L
  wb : w.heap.size ≤ base
  bs : base ≤ wx.heap.size
section
variable {w wx w' : World} {g N M base D2 D3 : Nat} {L : List (Nat × TypeId × Array Value)} {ver : Int} {v : Value} {xs : List Int}
theorem Sl.goes (h : Sl w wx g N base D2 D3 L ver v xs) (hg : Goes g wx w') (hr : Rd w' w.heap.size g M) : Sl w w' g M base D2 D3 L ver v xs :=
  ⟨h.st.goes hg hr, h.own.goes hg h.off.g, h.off, h.wb, Nat.le_trans h.bs hg.size⟩
theorem Sl.le (h : Sl w wx g N base D2 D3 L ver v xs) (hM : N ≤ M) : Sl w wx g M base D2 D3 L ver v xs := ⟨h.st.le hM, h.own, h.off, h.wb, h.bs⟩
theorem Sl.alloc (h : Sl w wx g N base D2 D3 L ver v xs) (o : Obj) : Sl w (wx.alloc o) g N base D2 D3 L ver v xs :=
  ⟨h.st.alloc o, World.ownsRow.alloc h.own o, h.off, h.wb, by have := h.bs; simp; omega⟩
theorem pickL (h : Sl w wx g N base D2 D3 L ver v xs) (n : Int) (hN : N ≤ 1000000000000) (hn0 : 1 ≤ n) (hn1 : n ≤ 9223372036854775807) :
    Calls Try.prog 47 #[.pointer (some ⟨g, 0, none⟩), .int .i64 n] wx fun e w' => ∃ u, e = .returned (.int .i64 u) ∧ 0 ≤ u ∧ u + 1 ≤ n ∧ Sl w w' g (N + 1) base D2 D3 L ver v xs ∧ Goes g wx w' :=
  (pick_any w.heap.size g N n wx h.st.rd hN (by omega) hn1).mono fun _ _ ⟨u, he, hv, hr, hg, hz⟩ => ⟨u, he, hv.1, by have := hv.2; have := hv.1; omega, h.goes hg hr, hg⟩
/-- A step in the list's own block leaves all that is known. -/
theorem st_grow (h : St w wx g N ((D3, 26, #[.int .i64 ver, v]) :: (D2, 26, #[.int .i64 0, .slice none 0 0]) :: L)) (hown : OwnI wx base v xs) (hoff : Off v g D2 D3 L) (hwb : w.heap.size ≤ base) (hg : wx.grownBy w' v.ownBlock) : St w w' g N ((D3, 26, #[.int .i64 ver, v]) :: (D2, 26, #[.int .i64 0, .slice none 0 0]) :: L) := by
  have hk : ∀ k, k < wx.heap.size → v.ownBlock ≠ some k → w'.heap[k]? = wx.heap[k]? := fun k hk hne => hg.block k hk (fun e => hne e.symm)
  have hlow : ∀ k, k < base → v.ownBlock ≠ some k := fun k hk e => by have := (World.ownsRow.lt hown k e).1; omega
  refine ⟨⟨hg.os.trans h.below.os, hg.tape.trans h.below.tape, hg.output.trans h.below.output, Nat.le_trans h.below.size hg.size, fun i hi => (hk i (Nat.lt_of_lt_of_le hi h.below.size) (hlow i (by omega))).trans (h.below.block i hi)⟩, ?_, fun b T cs hm => ⟨(h.blks b T cs hm).1, (hk b (h.blks b T cs hm).2.lt (fun e => ?_)).trans (h.blks b T cs hm).2⟩⟩
  · obtain ⟨hB', A, len, cap, q, hh, hl, hp, hc⟩ := h.rd
    exact ⟨hB', A, len, cap, q, (hk g h.rd.lt hoff.g).trans hh, hl, hp, hc.keep fun b o hb => World.cell?_of_block (a := ⟨b, o, none⟩) (hk b (Nat.lt_of_lt_of_le hb h.below.size) (hlow b (by omega)))⟩
  · obtain ⟨_, h3, h2, hL⟩ := hoff b e
    simp only [List.mem_cons] at hm
    rcases hm with e | e | hm
    · cases e; exact h3 rfl
    · cases e; exact h2 rfl
    · exact hL _ hm rfl
end

end Go.Proofs.Ytlcjepgmmbdkmaa
