/-
  The state of a drawing: the reader of the code, blocks that are known whole, and all that was there as it was.
-/
import Derived.Test.YtlcjepgmmbdkmaaIn
import Derived.Deep.RegionHeld3
namespace Go.Proofs.Ytlcjepgmmbdkmaa
open Go.RowKit

/-- Since the world w all that was there is as it was; block g is the reader; the blocks of the list are known. -/
structure St (w wx : World) (g N : Nat) (L : List (Nat × TypeId × Array Value)) : Prop where
  below : Below w.heap.size w wx
  rd : Rd wx w.heap.size g N
  blks : ∀ b T cs, (b, T, cs) ∈ L → b ≠ g ∧ Blk wx b T cs

section
variable {w wx w' : World} {g N M : Nat} {L : List (Nat × TypeId × Array Value)} {b T : Nat} {cs : Array Value}
theorem St.goes (h : St w wx g N L) (hg : Goes g wx w') (hr : Rd w' w.heap.size g M) : St w w' g M L :=
  ⟨h.below.trans (hg.toBelow h.below.size h.rd.1), hr, fun b T cs hm => ⟨(h.blks b T cs hm).1, (h.blks b T cs hm).2.goes hg (h.blks b T cs hm).1⟩⟩
theorem St.alloc (h : St w wx g N L) (o : Obj) : St w (wx.alloc o) g N L := ⟨Fr.alloc h.below o, h.rd.alloc o, fun b T cs hm => ⟨(h.blks b T cs hm).1, (h.blks b T cs hm).2.alloc o⟩⟩
theorem St.push (h : St w wx g N L) (T : TypeId) (cs : Array Value) (hb : b = wx.heap.size) : St w (wx.alloc (.cells cs T)) g N ((b, T, cs) :: L) :=
  ⟨Fr.alloc h.below _, h.rd.alloc _, fun b' T' cs' hm => by
    rcases List.mem_cons.1 hm with e | hm
    · cases e; exact ⟨by have := h.rd.lt; omega, Blk.new _ _ _ hb⟩
    · exact ⟨(h.blks b' T' cs' hm).1, (h.blks b' T' cs' hm).2.alloc _⟩⟩
theorem St.mem (h : St w wx g N L) (hb : Below wx.heap.size wx w') : St w w' g N L :=
  ⟨Fr.step h.below hb, h.rd.below hb h.rd.lt, fun b T cs hm => ⟨(h.blks b T cs hm).1, (h.blks b T cs hm).2.below hb (h.blks b T cs hm).2.lt⟩⟩
theorem St.drew (h : St w wx g N L) : St w wx.drew g N L := ⟨h.below.drew, h.rd.drew, h.blks⟩
theorem St.le (h : St w wx g N L) (hM : N ≤ M) : St w wx g M L := ⟨h.below, h.rd.le hM, h.blks⟩
theorem St.pop (h : St w wx g N ((b, T, cs) :: L)) : St w wx g N L := ⟨h.below, h.rd, fun b T cs hm => h.blks b T cs (.tail _ hm)⟩
theorem St.b0 (h : St w wx g N ((b, T, cs) :: L)) : Blk wx b T cs := (h.blks b T cs (.head _)).2
theorem St.n0 (h : St w wx g N ((b, T, cs) :: L)) : b ≠ g := (h.blks b T cs (.head _)).1
theorem St.b1 {x1} (h : St w wx g N (x1 :: (b, T, cs) :: L)) : Blk wx b T cs := (h.blks b T cs (.tail _ (.head _))).2
theorem St.b2 {x1 x2} (h : St w wx g N (x1 :: x2 :: (b, T, cs) :: L)) : Blk wx b T cs := (h.blks b T cs (.tail _ (.tail _ (.head _)))).2
theorem St.b3 {x1 x2 x3} (h : St w wx g N (x1 :: x2 :: x3 :: (b, T, cs) :: L)) : Blk wx b T cs := (h.blks b T cs (.tail _ (.tail _ (.tail _ (.head _))))).2
theorem St.b4 {x1 x2 x3 x4} (h : St w wx g N (x1 :: x2 :: x3 :: x4 :: (b, T, cs) :: L)) : Blk wx b T cs := (h.blks b T cs (.tail _ (.tail _ (.tail _ (.tail _ (.head _)))))).2
end

theorem St.noR {w wx : World} {g N : Nat} {x1 x2 x3 x4 : Nat × TypeId × Array Value} (h : St w wx g N [x1, x2, x3, x4]) : St w wx g N [x1, x2, x4] :=
  ⟨h.below, h.rd, fun b T cs hm => h.blks b T cs (by simp only [List.mem_cons, List.not_mem_nil, or_false] at hm ⊢; rcases hm with h | h | h <;> simp [h])⟩

theorem Rd.far {w : World} {B g N : Nat} (h : Rd w B g N) {p : Addr} (hg : g ≠ p.block) (hB : B ≤ p.block) (u : Value) : Rd (w.setCell p u) B g N := by
  obtain ⟨hB', A, len, cap, q, hh, hl, hp, hc⟩ := h
  exact ⟨hB', A, len, cap, q, (Below.heap_setCell w p u g hg).trans hh, hl, hp, hc.keep fun b o hb => World.cell?_of_block (a := ⟨b, o, none⟩) (Below.heap_setCell w p u b (by omega))⟩
theorem St.far {w wx : World} {g N : Nat} {L : List (Nat × TypeId × Array Value)} (h : St w wx g N L) {p : Addr} (hg : g ≠ p.block) (hp : w.heap.size ≤ p.block) (hL : ∀ x ∈ L, x.1 ≠ p.block) (u : Value) : St w (wx.setCell p u) g N L :=
  ⟨h.below.setCell hp u, h.rd.far hg hp u, fun b T cs hm => ⟨(h.blks b T cs hm).1, (h.blks b T cs hm).2.far (hL _ hm) u⟩⟩
/-- The world in which the six cells of a block were written. -/
def wset6 (W : World) (b : Nat) (c0 c1 c2 c3 c4 c5 : Value) : World :=
  (((((W.setCell ⟨b, 0, none⟩ c0).setCell ⟨b, 1, none⟩ c1).setCell ⟨b, 2, none⟩ c2).setCell ⟨b, 3, none⟩ c3).setCell ⟨b, 4, none⟩ c4).setCell ⟨b, 5, none⟩ c5
theorem Blk.set6 {W : World} {b T : Nat} {d0 d1 d2 d3 d4 d5 : Value} (h : Blk W b T #[d0, d1, d2, d3, d4, d5]) (c0 c1 c2 c3 c4 c5 : Value) : Blk (wset6 W b c0 c1 c2 c3 c4 c5) b T #[c0, c1, c2, c3, c4, c5] := by
  unfold wset6
  simpa using (((((h.set_ 0 c0).set_ 1 c1).set_ 2 c2).set_ 3 c3).set_ 4 c4).set_ 5 c5
theorem Blk.far6 {W : World} {b b' T : Nat} {cs : Array Value} (h : Blk W b' T cs) (hn : b' ≠ b) (c0 c1 c2 c3 c4 c5 : Value) : Blk (wset6 W b c0 c1 c2 c3 c4 c5) b' T cs :=
  (((((h.far (p := ⟨b, 0, none⟩) hn c0).far (p := ⟨b, 1, none⟩) hn c1).far (p := ⟨b, 2, none⟩) hn c2).far (p := ⟨b, 3, none⟩) hn c3).far (p := ⟨b, 4, none⟩) hn c4).far (p := ⟨b, 5, none⟩) hn c5
theorem St.set6 {w wx : World} {g N b : Nat} {L : List (Nat × TypeId × Array Value)} (h : St w wx g N L) (hg : g ≠ b) (hp : w.heap.size ≤ b) (hL : ∀ x ∈ L, x.1 ≠ b) (c0 c1 c2 c3 c4 c5 : Value) : St w (wset6 wx b c0 c1 c2 c3 c4 c5) g N L :=
  (((((h.far (p := ⟨b, 0, none⟩) hg hp hL c0).far (p := ⟨b, 1, none⟩) hg hp hL c1).far (p := ⟨b, 2, none⟩) hg hp hL c2).far (p := ⟨b, 3, none⟩) hg hp hL c3).far (p := ⟨b, 4, none⟩) hg hp hL c4).far (p := ⟨b, 5, none⟩) hg hp hL c5

/-- What pick leaves of a state. -/
def PickedSt (w : World) (g N : Nat) (L : List (Nat × TypeId × Array Value)) (n : Int) (wx : World) (e : Ending) (w' : World) : Prop :=
  ∃ v, e = .returned (.int .i64 v) ∧ (0 ≤ v ∧ (v < n ∨ v = 0)) ∧ St w w' g (N + 1) L ∧ wx.heap.size ≤ w'.heap.size ∧ w'.heap.size ≤ wx.heap.size
theorem pick_st {w wx : World} {g N : Nat} {L : List (Nat × TypeId × Array Value)} (h : St w wx g N L) (n : Int) (hN : N ≤ 1000000000000) (hn0 : -9223372036854775808 ≤ n) (hn1 : n ≤ 9223372036854775807) :
    Calls Try.prog 47 #[.pointer (some ⟨g, 0, none⟩), .int .i64 n] wx (PickedSt w g N L n wx) :=
  (pick_any w.heap.size g N n wx h.rd hN hn0 hn1).mono fun _ _ ⟨v, he, hv, hr, hg, hz⟩ => ⟨v, he, hv, h.goes hg hr, Nat.le_of_eq hz.symm, Nat.le_of_eq hz⟩
/-- .. for a number of at least one. -/
def PickedSt1 (w : World) (g N : Nat) (L : List (Nat × TypeId × Array Value)) (n : Int) (wx : World) (e : Ending) (w' : World) : Prop :=
  ∃ v, e = .returned (.int .i64 v) ∧ 0 ≤ v ∧ v + 1 ≤ n ∧ St w w' g (N + 1) L ∧ wx.heap.size ≤ w'.heap.size ∧ w'.heap.size ≤ wx.heap.size ∧ Goes g wx w'
theorem pick1 {w wx : World} {g N : Nat} {L : List (Nat × TypeId × Array Value)} (h : St w wx g N L) (n : Int) (hN : N ≤ 1000000000000) (hn0 : 1 ≤ n) (hn1 : n ≤ 9223372036854775807) :
    Calls Try.prog 47 #[.pointer (some ⟨g, 0, none⟩), .int .i64 n] wx (PickedSt1 w g N L n wx) :=
  (pick_any w.heap.size g N n wx h.rd hN (by omega) hn1).mono fun _ _ ⟨v, he, hv, hr, hg, hz⟩ => ⟨v, he, hv.1, by have := hv.2; have := hv.1; omega, h.goes hg hr, Nat.le_of_eq hz.symm, Nat.le_of_eq hz, hg⟩

/-- Blocks that are known whole. -/
def Bl (wx : World) (L : List (Nat × TypeId × Array Value)) : Prop := ∀ b T cs, (b, T, cs) ∈ L → Blk wx b T cs
theorem Bl.nil (wx : World) : Bl wx [] := fun _ _ _ h => by cases h
theorem Bl.cons {wx : World} {L : List (Nat × TypeId × Array Value)} {b T : Nat} {cs : Array Value} (h : Blk wx b T cs) (k : Bl wx L) : Bl wx ((b, T, cs) :: L) := fun b' T' cs' hm => by
  rcases List.mem_cons.1 hm with e | hm
  · cases e; exact h
  · exact k _ _ _ hm
/-- What l6Open leaves. -/
def OpenedSt (w : World) (L : List (Nat × TypeId × Array Value)) (wx : World) (e : Ending) (w' : World) : Prop :=
  ∃ g, e = .returned (.pointer (some ⟨g, 0, none⟩)) ∧ wx.heap.size ≤ g ∧ w.heap.size ≤ g ∧ St w w' g 0 L
theorem open_st {w wx : World} {L : List (Nat × TypeId × Array Value)} {A : Option Addr} {len cap : Nat} (hb : Below w.heap.size w wx) (hL : Bl wx L) (hl : len ≤ cap) (hm : cap ≤ maxLen) (hc : Code w w.heap.size A len) :
    Calls Try.prog 45 #[.slice A len cap] wx (OpenedSt w L wx) :=
  (open_any w.heap.size A len cap wx hb.size hl hm (hc.keep fun b o h => hb.cell (p := ⟨b, o, none⟩) h)).mono fun _ _ ⟨he, hr, hb', hz⟩ =>
    ⟨_, he, Nat.le_refl _, hb.size, Fr.step hb hb', hr, fun b T cs hm => by
      have := (hL b T cs hm).lt
      exact ⟨by omega, (hL b T cs hm).below hb' this⟩⟩

end Go.Proofs.Ytlcjepgmmbdkmaa
