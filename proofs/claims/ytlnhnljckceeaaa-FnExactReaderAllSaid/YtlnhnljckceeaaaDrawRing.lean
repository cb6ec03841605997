/-
  The drawing of a ring.
-/
import Derived.Test.YtlnhnljckceeaaaRingPut
import Derived.Test.YtlnhnljckceeaaaDrawPks
namespace Go.Proofs.Ytlnhnljckceeaaa
open Go.RowKit
set_option linter.unusedSimpArgs false
set_option linter.unusedVariables false

/-- A block of few cells holds no packet. -/
theorem PkRow.ne {w : World} {B b T : Nat} {A : Option Addr} {ps : List Pk} {cs : Array Value} (h : PkRow w B A ps) (hb : Blk w b T cs) (hs : cs.size ≤ 5) (h0 : 0 < ps.length) : ∃ b' off, A = some ⟨b', off, none⟩ ∧ b' < B ∧ b' ≠ b ∧ ∀ j p, ps[j]? = some p → Six w b' (off + j * 6) p := by
  obtain ⟨b', off, e, hlt, hc⟩ := h h0
  refine ⟨b', off, e, hlt, fun e2 => ?_, hc⟩
  subst e2
  have := (hc 0 ps[0] (List.getElem?_eq_getElem h0)).2.2.2.2.2
  rw [hb.cells, Array.getElem?_eq_none (by omega)] at this
  cases this
theorem PkRow.setBlk {w : World} {B b T : Nat} {A : Option Addr} {ps : List Pk} {cs : Array Value} (h : PkRow w B A ps) (hb : Blk w b T cs) (hs : cs.size ≤ 5) (i : Nat) (u : Value) : PkRow (w.setCell ⟨b, i, none⟩ u) B A ps := fun h0 => by
  obtain ⟨b', off, e, hlt, hne, hc⟩ := h.ne hb hs h0
  exact ⟨b', off, e, hlt, fun j p hj => (hc j p hj).keep fun k => World.cell?_of_block (a := ⟨b', k, none⟩) (Below.heap_setCell w ⟨b, i, none⟩ u b' hne)⟩
theorem PkRow.goes {w w' : World} {B B' g N : Nat} {A : Option Addr} {ps : List Pk} (h : PkRow w B A ps) (hr : Rd w B' g N) (hg : Goes g w w') (hB : B ≤ w.heap.size) : PkRow w' B A ps := fun h0 => by
  obtain ⟨_, A', len, cap, q, hh, _⟩ := hr
  obtain ⟨b', off, e, hlt, hne, hc⟩ := h.ne (b := g) hh (by simp) h0
  exact ⟨b', off, e, hlt, fun j p hj => (hc j p hj).keep fun k => World.cell?_of_block (a := ⟨b', k, none⟩) (hg.block b' (by omega) (fun e => hne (by injection e)))⟩
/-- The world in which the three cells of a block were written. -/
def wset3 (W : World) (b : Nat) (c0 c1 c2 : Value) : World := ((W.setCell ⟨b, 0, none⟩ c0).setCell ⟨b, 1, none⟩ c1).setCell ⟨b, 2, none⟩ c2
theorem Blk.set3 {W : World} {b T : Nat} {d0 d1 d2 : Value} (h : Blk W b T #[d0, d1, d2]) (c0 c1 c2 : Value) : Blk (wset3 W b c0 c1 c2) b T #[c0, c1, c2] := by
  unfold wset3
  simpa using ((h.set_ 0 c0).set_ 1 c1).set_ 2 c2
theorem Blk.far3 {W : World} {b b' T : Nat} {cs : Array Value} (h : Blk W b' T cs) (hn : b' ≠ b) (c0 c1 c2 : Value) : Blk (wset3 W b c0 c1 c2) b' T cs :=
  ((h.far (p := ⟨b, 0, none⟩) hn c0).far (p := ⟨b, 1, none⟩) hn c1).far (p := ⟨b, 2, none⟩) hn c2
theorem PkRow.set3 {w : World} {B b T : Nat} {A : Option Addr} {ps : List Pk} {d0 d1 d2 : Value} (h : PkRow w B A ps) (hb : Blk w b T #[d0, d1, d2]) (c0 c1 c2 : Value) : PkRow (wset3 w b c0 c1 c2) B A ps :=
  ((h.setBlk hb (by simp) 0 c0).setBlk (hb.set_ 0 c0) (by simp) 1 c1).setBlk ((hb.set_ 0 c0).set_ 1 c1) (by simp) 2 c2
@[simp] theorem wset3_size (W : World) (b : Nat) (c0 c1 c2 : Value) : (wset3 W b c0 c1 c2).heap.size = W.heap.size := by simp [wset3]
theorem St.set3 {w wx : World} {g N b : Nat} {L : List (Nat × TypeId × Array Value)} (h : St w wx g N L) (hg : g ≠ b) (hp : w.heap.size ≤ b) (hL : ∀ x ∈ L, x.1 ≠ b) (c0 c1 c2 : Value) : St w (wset3 wx b c0 c1 c2) g N L :=
  ((h.far (p := ⟨b, 0, none⟩) hg hp hL c0).far (p := ⟨b, 1, none⟩) hg hp hL c1).far (p := ⟨b, 2, none⟩) hg hp hL c2
theorem St.head3 {w wx : World} {g N b T : Nat} {L : List (Nat × TypeId × Array Value)} {d0 d1 d2 : Value} (h : St w wx g N ((b, T, #[d0, d1, d2]) :: L)) (hp : w.heap.size ≤ b) (hL : ∀ x ∈ L, x.1 ≠ b) (c0 c1 c2 : Value) : St w (wset3 wx b c0 c1 c2) g N ((b, T, #[c0, c1, c2]) :: L) := by
  have k := h.pop.set3 (Ne.symm h.n0) hp hL c0 c1 c2
  refine ⟨k.below, k.rd, fun b' T' cs' hm => ?_⟩
  rcases List.mem_cons.1 hm with e | hm
  · cases e; exact ⟨h.n0, h.b0.set3 c0 c1 c2⟩
  · exact k.blks b' T' cs' hm
theorem St.head1 {w wx : World} {g N b T : Nat} {L : List (Nat × TypeId × Array Value)} {cs : Array Value} (h : St w wx g N ((b, T, cs) :: L)) (hp : w.heap.size ≤ b) (hL : ∀ x ∈ L, x.1 ≠ b) (i : Nat) (u : Value) : St w (wx.setCell ⟨b, i, none⟩ u) g N ((b, T, cs.setIfInBounds i u) :: L) := by
  have k := h.pop.far (p := ⟨b, i, none⟩) (Ne.symm h.n0) hp hL u
  refine ⟨k.below, k.rd, fun b' T' cs' hm => ?_⟩
  rcases List.mem_cons.1 hm with e | hm
  · cases e; exact ⟨h.n0, h.b0.set_ i u⟩
  · exact k.blks b' T' cs' hm

theorem RingOk.mem {w w' : World} {room count : Int} {A : Option Addr} {ps : List Pk} {cap : Nat} (h : RingOk w room count A ps cap) (hb : Below w.heap.size w w') : RingOk w' room count A ps cap := ⟨h.row.mem hb, h.len, h.hcap, h.hroom, h.hcount, h.some⟩
theorem RingOk.set3 {w : World} {b T : Nat} {room count : Int} {A : Option Addr} {ps : List Pk} {cap : Nat} {d0 d1 d2 : Value} (h : RingOk w room count A ps cap) (hb : Blk w b T #[d0, d1, d2]) (c0 c1 c2 : Value) : RingOk (wset3 w b c0 c1 c2) room count A ps cap :=
  ⟨by simpa using h.row.set3 hb c0 c1 c2, h.len, h.hcap, h.hroom, h.hcount, h.some⟩

/-- A state with a ring's packets. -/
structure Sg (w wx : World) (g N : Nat) (L : List (Nat × TypeId × Array Value)) (A : Option Addr) (ps : List Pk) : Prop where
  st : St w wx g N L
  row : PkRow wx wx.heap.size A ps
section
variable {w wx w' : World} {g N M b T : Nat} {L : List (Nat × TypeId × Array Value)} {A : Option Addr} {ps : List Pk}
theorem Sg.goes (h : Sg w wx g N L A ps) (hg : Goes g wx w') (hr : Rd w' w.heap.size g M) : Sg w w' g M L A ps := ⟨h.st.goes hg hr, (h.row.goes h.st.rd hg (Nat.le_refl _)).more hg.size⟩
theorem Sg.le (h : Sg w wx g N L A ps) (hM : N ≤ M) : Sg w wx g M L A ps := ⟨h.st.le hM, h.row⟩
theorem Sg.drew (h : Sg w wx g N L A ps) : Sg w wx.drew g N L A ps := ⟨h.st.drew, h.row⟩
theorem Sg.alloc (h : Sg w wx g N L A ps) (o : Obj) : Sg w (wx.alloc o) g N L A ps := ⟨h.st.alloc o, h.row.alloc o⟩
theorem Sg.push (h : Sg w wx g N L A ps) (T : TypeId) (cs : Array Value) (hb : b = wx.heap.size) : Sg w (wx.alloc (.cells cs T)) g N ((b, T, cs) :: L) A ps := ⟨h.st.push T cs hb, h.row.alloc _⟩
theorem Sg.mem (h : Sg w wx g N L A ps) (hb : Below wx.heap.size wx w') : Sg w w' g N L A ps := ⟨h.st.mem hb, h.row.mem hb⟩
theorem Sg.head3 {d0 d1 d2 : Value} (h : Sg w wx g N ((b, T, #[d0, d1, d2]) :: L) A ps) (hp : w.heap.size ≤ b) (hL : ∀ x ∈ L, x.1 ≠ b) (c0 c1 c2 : Value) : Sg w (wset3 wx b c0 c1 c2) g N ((b, T, #[c0, c1, c2]) :: L) A ps :=
  ⟨h.st.head3 hp hL c0 c1 c2, by simpa using h.row.set3 h.st.b0 c0 c1 c2⟩
theorem Sg.head1 {cs : Array Value} (h : Sg w wx g N ((b, T, cs) :: L) A ps) (hs : cs.size ≤ 5) (hp : w.heap.size ≤ b) (hL : ∀ x ∈ L, x.1 ≠ b) (i : Nat) (u : Value) : Sg w (wx.setCell ⟨b, i, none⟩ u) g N ((b, T, cs.setIfInBounds i u) :: L) A ps :=
  ⟨h.st.head1 hp hL i u, by simpa using h.row.setBlk h.st.b0 hs i u⟩
theorem St.swap {x y : Nat × TypeId × Array Value} (h : St w wx g N (x :: y :: L)) : St w wx g N (y :: x :: L) := ⟨h.below, h.rd, fun b T cs hm => h.blks b T cs (by
  simp only [List.mem_cons] at hm ⊢
  rcases hm with e | e | e
  · exact .inr (.inl e)
  · exact .inl e
  · exact .inr (.inr e))⟩
theorem Sg.swap {x y : Nat × TypeId × Array Value} (h : Sg w wx g N (x :: y :: L) A ps) : Sg w wx g N (y :: x :: L) A ps := ⟨h.st.swap, h.row⟩
theorem Sg.pop {x : Nat × TypeId × Array Value} (h : Sg w wx g N (x :: L) A ps) : Sg w wx g N L A ps := ⟨h.st.pop, h.row⟩
end
/-- What pick leaves of it. -/
def PickedSg (w : World) (g N : Nat) (L : List (Nat × TypeId × Array Value)) (A : Option Addr) (ps : List Pk) (n : Int) (wx : World) (e : Ending) (w' : World) : Prop :=
  ∃ u, e = .returned (.int .i64 u) ∧ 0 ≤ u ∧ u + 1 ≤ n ∧ Sg w w' g (N + 1) L A ps ∧ Goes g wx w'
theorem pickG {w wx : World} {g N : Nat} {L : List (Nat × TypeId × Array Value)} {A : Option Addr} {ps : List Pk} (h : Sg w wx g N L A ps) (n : Int) (hN : N ≤ 1000000000000) (hn0 : 1 ≤ n) (hn1 : n ≤ 9223372036854775807) :
    Calls Try.prog 43 #[.pointer (some ⟨g, 0, none⟩), .int .i64 n] wx (PickedSg w g N L A ps n wx) :=
  (pick_any w.heap.size g N n wx h.st.rd hN (by omega) hn1).mono fun _ _ ⟨u, he, hv, hr, hg, hz⟩ => ⟨u, he, hv.1, by have := hv.2; have := hv.1; omega, h.goes hg hr, hg⟩

/-- What holds between two rounds. -/
def RingRel (w : World) (g N : Nat) (L : List (Nat × TypeId × Array Value)) (D2 D3 : Nat) (A4 : Option Addr) (qs : List Pk) (c5 : Value) (wr : World) : Prop :=
  ∃ (k : Nat) (room count : Int) (A : Option Addr) (ps : List Pk) (cap : Nat), k ≤ qs.length ∧ c5 = .int .i64 k ∧ St w wr g N ((D3, 25, #[.int .i64 room, .int .i64 count, .slice A ps.length cap]) :: (D2, 25, #[.int .i64 0, .int .i64 0, .slice none 0 0]) :: L) ∧ RingOk wr room count A ps cap ∧ PkRow wr wr.heap.size A4 qs
/-- What the operations of the round's region leave. -/
def VRound (B : Nat) (room count : Int) (A : Option Addr) (ps : List Pk) (cap : Nat) (b4 o4 n4 c4 k : Nat) (p : Pk) (i : Nat) (v : Value) (w : World) : Prop := match i with
  | 0 => v = .agg #[.int .i64 room, .int .i64 count, .slice A ps.length cap]
  | 1 => v = .slice (some ⟨b4, o4, none⟩) n4 c4
  | 2 => v = .int .i64 (k : Int)
  | 3 => v = .pointer (some ⟨b4, o4 + k * 6, none⟩)
  | 4 => v = .agg #[.int .i64 p.wd, .int .i64 p.tm, .int .i64 p.ly, .int .i64 p.sz, .bool p.k, .bool p.l]
  | 5 => ∃ room' count' A' cap' ok, ∃ ps' : List Pk, v = .tuple #[.agg #[.int .i64 room', .int .i64 count', .slice A' ps'.length cap'], .bool ok] ∧ RingOk w room' count' A' ps' cap'
  | 6 => ∃ room' count' A' cap' ok, ∃ ps' : List Pk, v = .tuple #[.agg #[.int .i64 room', .int .i64 count', .slice A' ps'.length cap'], .bool ok] ∧ RingOk w room' count' A' ps' cap'
  | 7 => ∃ room' count' A' cap', ∃ ps' : List Pk, v = .agg #[.int .i64 room', .int .i64 count', .slice A' ps'.length cap'] ∧ RingOk w room' count' A' ps' cap'
  | 8 => ∃ ok, v = .bool ok
  | 9 => ∃ b room' count' A' cap', ∃ ps' : List Pk, v = .pointer (some ⟨b, 0, none⟩) ∧ B ≤ b ∧ Blk w b 25 #[.int .i64 room', .int .i64 count', .slice A' ps'.length cap'] ∧ RingOk w room' count' A' ps' cap'
  | _ => True
/-- What one operation of the region does to the memory: it makes more, or it writes a ring into a block of its own. -/
def RRound (B : Nat) (w w' : World) : Prop := Below w.heap.size w w' ∨ ∃ b room' count' A' cap' d0 d1 d2, ∃ ps' : List Pk, B ≤ b ∧ Blk w b 25 #[d0, d1, d2] ∧ w' = wset3 w b (.int .i64 room') (.int .i64 count') (.slice A' ps'.length cap') ∧ RingOk w room' count' A' ps' cap'
theorem RingOk.round {B : Nat} {w w' : World} {room count : Int} {A : Option Addr} {ps : List Pk} {cap : Nat} (h : RingOk w room count A ps cap) (hr : RRound B w w') : RingOk w' room count A ps cap := by
  rcases hr with hb | ⟨b, r, c, A', cp, d0, d1, d2, qs, _, hB, rfl, _⟩
  · exact h.mem hb
  · exact h.set3 hB _ _ _
theorem VRound_keep {B : Nat} {room count : Int} {A : Option Addr} {ps : List Pk} {cap b4 o4 n4 c4 k : Nat} {p : Pk} : ∀ (i : Nat) (v : Value) (w w' : World), RRound B w w' → VRound B room count A ps cap b4 o4 n4 c4 k p i v w → VRound B room count A ps cap b4 o4 n4 c4 k p i v w'
  | 0, _, _, _, _, h => h | 1, _, _, _, _, h => h | 2, _, _, _, _, h => h | 3, _, _, _, _, h => h | 4, _, _, _, _, h => h
  | 5, _, _, _, hb, ⟨r, c, A, cp, ok, ps, e, h⟩ => ⟨r, c, A, cp, ok, ps, e, h.round hb⟩
  | 6, _, _, _, hb, ⟨r, c, A, cp, ok, ps, e, h⟩ => ⟨r, c, A, cp, ok, ps, e, h.round hb⟩
  | 7, _, _, _, hb, ⟨r, c, A, cp, ps, e, h⟩ => ⟨r, c, A, cp, ps, e, h.round hb⟩
  | 8, _, _, _, _, h => h
  | 9, _, w, _, hb, ⟨b, r, c, A, cp, ps, e, hbb, hB, hok⟩ => by
    rcases hb with hb | ⟨b', r', c', A', cp', d0, d1, d2, qs, hbb', hB', rfl, hok'⟩
    · exact ⟨b, r, c, A, cp, ps, e, hbb, hB.below hb hB.lt, hok.mem hb⟩
    · by_cases he : b = b'
      · subst he
        exact ⟨b, r', c', A', cp', qs, e, hbb, hB.set3 _ _ _, hok'.set3 hB' _ _ _⟩
      · exact ⟨b, r, c, A, cp, ps, e, hbb, hB.far3 he _ _ _, hok.set3 hB' _ _ _⟩
  | _ + 10, _, _, _, _, h => h
/-- What the operations of the region leave that turns the count. -/
def VCount (g D3 : Nat) (count : Int) (i : Nat) (v : Value) (w : World) : Prop := match i with
  | 0 => v = .pointer (some ⟨D3, 1, none⟩)
  | 1 => v = .int .i64 count
  | 2 => v = .int .i64 (count + 1)
  | 3 => ∃ b' T, v = .slice (some ⟨b', 0, none⟩) 3 3 ∧ b' ≠ g ∧ Blk w b' T #[.int .i64 (-1), .int .i64 (count + 1), .int .i64 999999]
  | 4 => v = .pointer (some ⟨g, 0, none⟩)
  | 5 => ∃ u, v = .int .i64 u ∧ 0 ≤ u ∧ u + 1 ≤ 3
  | 6 => ∃ b' T j, v = .pointer (some ⟨b', j, none⟩) ∧ j < 3 ∧ b' ≠ g ∧ Blk w b' T #[.int .i64 (-1), .int .i64 (count + 1), .int .i64 999999]
  | 7 => ∃ u, v = .int .i64 u ∧ -1 ≤ u ∧ u ≤ 1000000
  | 8 => v = .pointer (some ⟨D3, 1, none⟩)
  | _ => True
theorem VCount_keep {g D3 : Nat} {count : Int} : ∀ (i : Nat) (v : Value) (w w' : World), Goes g w w' → VCount g D3 count i v w → VCount g D3 count i v w'
  | 0, _, _, _, _, h => h | 1, _, _, _, _, h => h | 2, _, _, _, _, h => h
  | 3, _, _, _, hg, ⟨b, T, e, hb, hB⟩ => ⟨b, T, e, hb, hB.goes hg hb⟩
  | 4, _, _, _, _, h => h | 5, _, _, _, _, h => h
  | 6, _, _, _, hg, ⟨b, T, j, e, hj, hb, hB⟩ => ⟨b, T, j, e, hj, hb, hB.goes hg hb⟩
  | 7, _, _, _, _, h => h | 8, _, _, _, _, h => h
  | _ + 9, _, _, _, _, h => h

/-- What the drawing of a ring leaves. -/
def DrawnRing (w : World) (g N : Nat) (L : List (Nat × TypeId × Array Value)) (e : Ending) (w' : World) : Prop :=
  ∃ room count A cap, ∃ ps : List Pk, e = .returned (.agg #[.int .i64 room, .int .i64 count, .slice A ps.length cap]) ∧ Sg w w' g (N + 400) L A ps ∧ ps.length ≤ cap ∧ cap ≤ maxLen ∧ (-1 ≤ room ∧ room ≤ 9) ∧ (-1 ≤ count ∧ count ≤ 1000000)

set_option maxRecDepth 100000 in
set_option maxHeartbeats 4000000 in
theorem l91Ring_any (w wx : World) (g N : Nat) (L : List (Nat × TypeId × Array Value)) (h : St w wx g N L) (hN : N ≤ 800000000000) :
    Calls Try.prog 42 #[.pointer (some ⟨g, 0, none⟩)] wx (DrawnRing w g N L) := by
  have hLl : ∀ x ∈ L, x.1 < wx.heap.size := fun x hx => (h.blks x.1 x.2.1 x.2.2 hx).2.lt
  have S0 := h.push 25 #[.int .i64 0, .int .i64 0, .slice none 0 0] rfl
  have hwx := h.below.size
  have HW := Lib.hid (And.intro hwx hLl)
  clear h hLl hwx
  generalize hD2 : wx.heap.size = D2 at *
  generalize hW0 : wx.alloc (.cells #[.int .i64 0, .int .i64 0, .slice none 0 0] 25) = wa at *
  have hwa : wa.heap.size = D2 + 1 := by rw [← hW0, ← hD2]; simp
  go_enter Try.func42, Try.ntmps42
  go_wp2_with fail
  clear hW0 hD2
  refine (pick1 S0 6 (by omega) (by omega) (by omega)).mono ?_
  rintro e w1 ⟨v1, rfl, p1, q1, S1, s1, s2, -⟩
  clear S0
  have u1 : v1 ≤ 5 := by omega
  have hw1 : D2 < w1.heap.size := by omega
  clear q1 s1 s2 hwa
  go_wp2_with fail
  have S2 := (S1.alloc (.cells #[] 31)).push 25 #[.int .i64 (1 + v1), .int .i64 0, .slice (some ⟨w1.heap.size, 0, none⟩) 0 0] rfl
  refine (l91Packets_any w _ g (N + 1) _ 12 S2 (by omega) (by omega) (by omega)).mono ?_
  rintro e w2 ⟨v, qs, rfl, hS, hll, -⟩
  obtain ⟨A4, c4, rfl, h41, h42, P4⟩ := Own.row hS.own
  unfold maxLen at h42
  have S3 := hS.st
  clear hS S2 S1
  have e1 : (w1.alloc (.cells #[] 31)).heap.size = w1.heap.size + 1 := World.size_alloc _ _
  rw [e1] at S3
  clear e1
  obtain ⟨ad, had⟩ : ∃ ad : Addr, ad = ⟨w1.heap.size, 0, none⟩ := ⟨_, rfl⟩
  rw [← had] at S3
  clear had
  obtain ⟨D3, hD3⟩ : ∃ D3, D3 = w1.heap.size + 1 := ⟨_, rfl⟩
  go_wp2_with fail
  rw [← hD3] at S3 ⊢
  have HD : Hid (D2 ≠ D3 ∧ (∀ x ∈ L, x.1 ≠ D3) ∧ (∀ x ∈ L, x.1 ≠ D2) ∧ w.heap.size ≤ D3 ∧ w.heap.size ≤ D2) := ⟨by omega, fun x hx => by have := HW.out.2 x hx; omega, fun x hx => by have := HW.out.2 x hx; omega, by have := HW.out.1; omega, HW.out.1⟩
  have HDR : ∀ T cs, ∀ y ∈ ((D2, T, cs) :: L : List (Nat × TypeId × Array Value)), y.1 ≠ D3 := fun T cs y hy => by
    rcases List.mem_cons.1 hy with e | hy
    · cases e; exact HD.out.1
    · exact HD.out.2.1 y hy
  have HDL : ∀ T cs, ∀ y ∈ ((D3, T, cs) :: L : List (Nat × TypeId × Array Value)), y.1 ≠ D2 := fun T cs y hy => by
    rcases List.mem_cons.1 hy with e | hy
    · cases e; exact Ne.symm HD.out.1
    · exact HD.out.2.2.1 y hy
  clear hD3 hw1 HW
  go_loopw [5] (fun c5 wr => RingRel w g (N + 1 + 300) L D2 D3 A4 qs c5 wr) (fun c _ => ((qs.length : Int) - intOf c).toNat)
  case atStart => exact ⟨0, 1 + v1, 0, some ad, [], 0, Nat.zero_le _, rfl, S3, ⟨PkRow.nil _ _ _, Nat.le_refl _, Nat.zero_le _, by omega, by omega, fun _ => ⟨_, rfl⟩⟩, P4⟩
  case round =>
    clear S3 P4
    obtain ⟨k, room, count, A, ps, cap, hk, rfl, S4, RO, P5⟩ := hrel
    by_cases hlt : k < qs.length
    · have hlt' : (k : Int) < (qs.length : Int) := by omega
      have hk0 : (0 : Int) ≤ (k : Int) := by omega
      obtain ⟨b4, o4, rfl, hb4, hr4⟩ := P5 (by omega)
      obtain ⟨p, hp⟩ : ∃ p, qs[k]? = some p := ⟨qs[k], List.getElem?_eq_getElem hlt⟩
      have H6 := Lib.hid (hr4 k p hp)
      have HP5 := Lib.hid P5
      have HLT := Lib.hid hlt
      have hcap := RO.hcap
      unfold maxLen at hcap
      clear hp hr4 P5 hlt
      go_upto_region 6 with fail
      refine wp_region_facts 11 [22, 23, 24, 25, 26, 27, 21, 28, 29, 6] (VRound wr.heap.size room count A ps cap b4 o4 qs.length c4 k p) (fun _ W => Below wr.heap.size wr W) (RRound wr.heap.size) (by kernel_rfl) (by kernel_rfl) (by rfl) ?hI VRound_keep ?hob ?hend
      case hI => exact (Below.refl _ _).drew
      case hob =>
        simp only [List.take_succ_cons, List.take_zero, Obs, and_true]
        refine ⟨?_, ?_, ?_, ?_, ?_, ?_, ?_, ?_, ?_, ?_, ?_⟩
        · intro k' x W hkn hI hd K hK0
          have hK := hK0.out
          simp only [setAll, Act.put, List.foldl_cons, List.foldl_nil, List.setIfInBounds_toArray, List.set_cons_succ, List.set_cons_zero] at hK ⊢
          have HK := Lib.hid hK
          clear hK hK0
          rw [if_pos (by rfl)]
          clear hd
          have cx := (S4.b0.below hI S4.b0.lt).cells
          go_simp
          exact HK.out _ _ hI (.inl (Below.refl _ _)) ⟨rfl, fun h => by cases h⟩
        · intro k' x W hkn hI hd K hK0
          have hK := hK0.out
          simp only [setAll, Act.put, List.foldl_cons, List.foldl_nil, List.setIfInBounds_toArray, List.set_cons_succ, List.set_cons_zero] at hK ⊢
          have HK := Lib.hid hK
          clear hK hK0
          rw [if_pos (by rfl)]
          clear hd
          go_simp
          exact HK.out _ _ hI (.inl (Below.refl _ _)) ⟨rfl, fun h => by cases h⟩
        · intro k' x W hkn hI hd K hK0
          have hK := hK0.out
          simp only [setAll, Act.put, List.foldl_cons, List.foldl_nil, List.setIfInBounds_toArray, List.set_cons_succ, List.set_cons_zero] at hK ⊢
          have HK := Lib.hid hK
          clear hK hK0
          rw [if_pos (by rfl)]
          clear hd
          go_simp
          exact HK.out _ _ hI (.inl (Below.refl _ _)) ⟨rfl, fun h => by cases h⟩
        · intro k' x W hkn hI hd K hK0
          have hK := hK0.out
          simp only [setAll, Act.put, List.foldl_cons, List.foldl_nil, List.setIfInBounds_toArray, List.set_cons_succ, List.set_cons_zero] at hK ⊢
          have HK := Lib.hid hK
          clear hK hK0
          rw [if_pos (by rfl)]
          obtain e23 : x 23 = .slice (some ⟨b4, o4, none⟩) qs.length c4 := hd 1 _ rfl (by kernel_rfl)
          obtain e24 : x 24 = .int .i64 (k : Int) := hd 2 _ rfl (by kernel_rfl)
          rw [e23, e24] at HK ⊢
          clear e23 e24
          clear hd
          go_simp
          exact HK.out _ _ hI (.inl (Below.refl _ _)) ⟨rfl, fun h => by cases h⟩
        · intro k' x W hkn hI hd K hK0
          have hK := hK0.out
          simp only [setAll, Act.put, List.foldl_cons, List.foldl_nil, List.setIfInBounds_toArray, List.set_cons_succ, List.set_cons_zero] at hK ⊢
          have HK := Lib.hid hK
          clear hK hK0
          rw [if_pos (by rfl)]
          obtain e25 : x 25 = .pointer (some ⟨b4, o4 + k * 6, none⟩) := hd 3 _ rfl (by kernel_rfl)
          rw [e25] at HK ⊢
          clear e25
          clear hd
          have cx := H6.out.keep (w' := W) fun i => hI.cell (p := ⟨b4, i, none⟩) hb4
          obtain ⟨x0, x1, x2, x3, x4, x5⟩ := cx
          go_simp
          exact HK.out _ _ hI (.inl (Below.refl _ _)) ⟨rfl, fun h => by cases h⟩
        · intro k' x W hkn hI hd K hK0
          have hK := hK0.out
          simp only [setAll, Act.put, List.foldl_cons, List.foldl_nil, List.setIfInBounds_toArray, List.set_cons_succ, List.set_cons_zero] at hK ⊢
          have HK := Lib.hid hK
          clear hK hK0
          rw [if_pos (by rfl)]
          obtain e22 : x 22 = .agg #[.int .i64 room, .int .i64 count, .slice A ps.length cap] := hd 0 _ rfl (by kernel_rfl)
          obtain e26 : x 26 = .agg #[.int .i64 p.wd, .int .i64 p.tm, .int .i64 p.ly, .int .i64 p.sz, .bool p.k, .bool p.l] := hd 4 _ rfl (by kernel_rfl)
          rw [e22, e26] at HK ⊢
          clear e22 e26
          clear hd
          go_simp
          refine (put_any room count A ps cap p W RO.some (RO.row.mem hI) RO.len hcap).mono ?_
          rintro e w9 ⟨r', c', A', cap', ps', ok, rfl, hb9, hok⟩
          exact HK.out _ _ (Fr.step hI hb9) (.inl hb9) ⟨⟨r', c', A', cap', ok, ps', rfl, hok⟩, fun h => by cases h⟩
        · intro k' x W hkn hI hd K hK0
          have hK := hK0.out
          simp only [setAll, Act.put, List.foldl_cons, List.foldl_nil, List.setIfInBounds_toArray, List.set_cons_succ, List.set_cons_zero] at hK ⊢
          have HK := Lib.hid hK
          clear hK hK0
          rw [if_pos (by rfl)]
          obtain ⟨r', c', A', cap', ok, ps', e27, hok⟩ : ∃ r' c' A' cap' ok, ∃ ps' : List Pk, x 27 = .tuple #[.agg #[.int .i64 r', .int .i64 c', .slice A' ps'.length cap'], .bool ok] ∧ RingOk W r' c' A' ps' cap' := hd 5 _ rfl (by kernel_rfl)
          rw [e27] at HK ⊢
          clear e27
          clear hd
          go_simp
          exact HK.out _ _ hI (.inl (Below.refl _ _)) ⟨⟨r', c', A', cap', ok, ps', rfl, hok⟩, fun h => by cases h⟩
        · intro k' x W hkn hI hd K hK0
          have hK := hK0.out
          simp only [setAll, Act.put, List.foldl_cons, List.foldl_nil, List.setIfInBounds_toArray, List.set_cons_succ, List.set_cons_zero] at hK ⊢
          have HK := Lib.hid hK
          clear hK hK0
          rw [if_pos (by rfl)]
          obtain ⟨r', c', A', cap', ok, ps', e21, hok⟩ : ∃ r' c' A' cap' ok, ∃ ps' : List Pk, x 21 = .tuple #[.agg #[.int .i64 r', .int .i64 c', .slice A' ps'.length cap'], .bool ok] ∧ RingOk W r' c' A' ps' cap' := hd 6 _ rfl (by kernel_rfl)
          rw [e21] at HK ⊢
          clear e21
          clear hd
          go_simp
          exact HK.out _ _ hI (.inl (Below.refl _ _)) ⟨⟨r', c', A', cap', ps', rfl, hok⟩, fun h => by cases h⟩
        · intro k' x W hkn hI hd K hK0
          have hK := hK0.out
          simp only [setAll, Act.put, List.foldl_cons, List.foldl_nil, List.setIfInBounds_toArray, List.set_cons_succ, List.set_cons_zero] at hK ⊢
          have HK := Lib.hid hK
          clear hK hK0
          rw [if_pos (by rfl)]
          obtain ⟨r', c', A', cap', ok, ps', e21, hok⟩ : ∃ r' c' A' cap' ok, ∃ ps' : List Pk, x 21 = .tuple #[.agg #[.int .i64 r', .int .i64 c', .slice A' ps'.length cap'], .bool ok] ∧ RingOk W r' c' A' ps' cap' := hd 6 _ rfl (by kernel_rfl)
          rw [e21] at HK ⊢
          clear e21
          clear hd
          go_simp
          exact HK.out _ _ hI (.inl (Below.refl _ _)) ⟨⟨ok, rfl⟩, fun h => by cases h⟩
        · intro k' x W hkn hI hd K hK0
          have hK := hK0.out
          simp only [setAll, Act.put, List.foldl_cons, List.foldl_nil, List.setIfInBounds_toArray, List.set_cons_succ, List.set_cons_zero] at hK ⊢
          have HK := Lib.hid hK
          clear hK hK0
          rw [if_pos (by rfl)]
          clear hd
          go_simp
          exact HK.out _ _ (Fr.alloc hI _) (.inl (Fr.alloc (Below.refl _ _) _)) ⟨⟨_, 0, 0, none, 0, [], rfl, hI.size, Blk.new _ _ _ rfl, RingOk.zero _⟩, fun h => by cases h⟩
        · intro k' x W hkn hI hd K hK0
          have hK := hK0.out
          simp only [setAll, Act.put, List.foldl_cons, List.foldl_nil, List.setIfInBounds_toArray, List.set_cons_succ, List.set_cons_zero] at hK ⊢
          have HK := Lib.hid hK
          clear hK hK0
          rw [if_pos (by rfl)]
          obtain ⟨b6, _, _, _, _, _, e6, hb6, hB6, _⟩ : ∃ b r' c' A' cap', ∃ ps' : List Pk, x 6 = .pointer (some ⟨b, 0, none⟩) ∧ wr.heap.size ≤ b ∧ Blk W b 25 #[.int .i64 r', .int .i64 c', .slice A' ps'.length cap'] ∧ RingOk W r' c' A' ps' cap' := hd 9 _ rfl (by kernel_rfl)
          obtain ⟨r', c', A', cap', ps', e28, hok⟩ : ∃ r' c' A' cap', ∃ ps' : List Pk, x 28 = .agg #[.int .i64 r', .int .i64 c', .slice A' ps'.length cap'] ∧ RingOk W r' c' A' ps' cap' := hd 7 _ rfl (by kernel_rfl)
          rw [e6, e28] at HK ⊢
          clear e6 e28
          clear hd
          have f6 := hB6.free
          have c6 := hB6.cells
          go_simp
          refine HK.out undef _ ?_ (.inr ⟨b6, r', c', A', cap', _, _, _, ps', hb6, hB6, rfl, hok⟩) ⟨trivial, fun _ => trivial⟩
          exact ((hI.setCell hb6 _).setCell hb6 _).setCell hb6 _
      case hend =>
        intro x W hI hV
        obtain ⟨ok, e29⟩ : ∃ ok, x 29 = .bool ok := hV 8 _ (by omega) rfl
        obtain ⟨b6, r', c', A', cap', ps', e6, hb6, hB6, hok⟩ : ∃ b r' c' A' cap', ∃ ps' : List Pk, x 6 = .pointer (some ⟨b, 0, none⟩) ∧ wr.heap.size ≤ b ∧ Blk W b 25 #[.int .i64 r', .int .i64 c', .slice A' ps'.length cap'] ∧ RingOk W r' c' A' ps' cap' := hV 9 _ (by omega) rfl
        clear hV
        simp only [setAll, Act.put, List.foldl_cons, List.foldl_nil, List.setIfInBounds_toArray, List.set_cons_succ, List.set_cons_zero, List.drop_succ_cons, List.drop_zero]
        rw [e29, e6]
        clear e29 e6
        have S5 := S4.mem hI
        have P6 := HP5.out.mem hI
        have RP := RO.mem hI
        have c6 := hB6.cells; have f6 := hB6.free; have l6 := hB6.lt
        have f3 := S5.b0.free; have l3 := S5.b0.lt; have c3 := S5.b0.cells
        have hk1 : IntKind.i64.wrap ((k : Int) + 1) = ((k + 1 : Nat) : Int) := by rw [IntWalk.i64_in _ (by have := HLT.out; omega)]; omega
        cases ok
        · clear S4 RO hok hB6 hI
          have HF := Lib.hid (And.intro S5 (And.intro RP P6))
          clear S5 RP P6
          go_wp2_with fail
          go_roundw
          case rel => first | exact ⟨k + 1, room, count, A, ps, cap, HLT.out, by go_num, HF.out.1, HF.out.2.1, HF.out.2.2⟩ | ((repeat apply Exists.intro); exact ⟨⟨k + 1, room, count, A, ps, cap, HLT.out, by go_num, HF.out.1, HF.out.2.1, HF.out.2.2⟩, rfl⟩)
          case measure => simp [intOf]; omega
        · have S7 := S5.head3 HD.out.2.2.2.1 (HDR _ _) (.int .i64 r') (.int .i64 c') (.slice A' ps'.length cap')
          have RO7 := hok.set3 S5.b0 (.int .i64 r') (.int .i64 c') (.slice A' ps'.length cap')
          have P8 : PkRow (wset3 W D3 (.int .i64 r') (.int .i64 c') (.slice A' ps'.length cap')) (wset3 W D3 (.int .i64 r') (.int .i64 c') (.slice A' ps'.length cap')).heap.size (some ⟨b4, o4, none⟩) qs := by simpa using P6.set3 S5.b0 (.int .i64 r') (.int .i64 c') (.slice A' ps'.length cap')
          have HF := Lib.hid (And.intro S7 (And.intro RO7 P8))
          clear S4 RO hok hB6 hI S5 RP P6 S7 RO7 P8
          go_wp2_with fail
          go_roundw
          case rel => first | exact ⟨k + 1, r', c', A', ps', cap', HLT.out, by go_num, HF.out.1, HF.out.2.1, HF.out.2.2⟩ | ((repeat apply Exists.intro); exact ⟨⟨k + 1, r', c', A', ps', cap', HLT.out, by go_num, HF.out.1, HF.out.2.1, HF.out.2.2⟩, rfl⟩)
          case measure => simp [intOf]; omega
    · have SG : Sg w wr g (N + 1 + 300) ((D3, 25, #[.int .i64 room, .int .i64 count, .slice A ps.length cap]) :: (D2, 25, #[.int .i64 0, .int .i64 0, .slice none 0 0]) :: L) A ps := ⟨S4, RO.row⟩
      have hroom := RO.hroom
      have hcount := RO.hcount
      have hlen := RO.len
      have hcap := RO.hcap
      clear S4 RO P5
      go_wp2_with fail
      refine (pickG SG 40 (by omega) (by omega) (by omega)).mono ?_
      rintro e w4 ⟨v4, rfl, p4, q4, SG4, -⟩
      clear SG
      by_cases hv0 : v4 = 0
      · subst hv0
        go_wp2_with fail
        have SG5 := SG4.push 3 #[.int .i64 0, .int .i64 9] rfl
        refine (pickG SG5 2 (by omega) (by omega) (by omega)).mono ?_
        rintro e w5 ⟨v5, rfl, p5, q5, SG6, -⟩
        clear SG5
        have cl := SG6.st.b0.cells
        have SG7 := SG6.pop
        clear SG6 SG4
        have c3 := SG7.st.b0.cells; have f3 := SG7.st.b0.free; have l3 := SG7.st.b0.lt
        have r0 := SG7.st.b1.cells 0; have r1 := SG7.st.b1.cells 1; have r2 := SG7.st.b1.cells 2; have rf := SG7.st.b1.free; have rl := SG7.st.b1.lt
        simp at r0 r1 r2
        have hne := HD.out.1
        have hv5 : v5 = 0 ∨ v5 = 1 := by omega
        rcases hv5 with rfl | rfl
        · go_wp2_with fail
          have SG8 := SG7.head1 (by simp) HD.out.2.2.2.1 (HDR _ _) 0 (.int .i64 0)
          refine bodyPost_ret (by simp [results, Try.results42, go_sem, r0, r1, r2, rl]; try rfl) rfl ?_
          exact ⟨0, count, A, cap, ps, rfl, ((SG8.swap.head3 HD.out.2.2.2.2 (HDL _ _) _ _ _).pop.pop).le (by omega), hlen, hcap, by omega, by omega⟩
        · go_wp2_with fail
          have SG8 := SG7.head1 (by simp) HD.out.2.2.2.1 (HDR _ _) 0 (.int .i64 9)
          refine bodyPost_ret (by simp [results, Try.results42, go_sem, r0, r1, r2, rl]; try rfl) rfl ?_
          exact ⟨9, count, A, cap, ps, rfl, ((SG8.swap.head3 HD.out.2.2.2.2 (HDL _ _) _ _ _).pop.pop).le (by omega), hlen, hcap, by omega, by omega⟩
      by_cases hv1 : v4 = 1
      · subst hv1
        have hcw : IntKind.i64.wrap (count + 1) = count + 1 := IntWalk.i64_in _ (by omega)
        go_wp2_with fail
        refine wp_region_facts 9 [44, 45, 46, 47, 48, 49, 50, 51, 52] (VCount g D3 count) (fun j W => Sg w W g (N + 302 + j) ((D3, 25, #[.int .i64 room, .int .i64 count, .slice A ps.length cap]) :: (D2, 25, #[.int .i64 0, .int .i64 0, .slice none 0 0]) :: L) A ps) (Goes g) (by kernel_rfl) (by kernel_rfl) (by rfl) ?hI2 VCount_keep ?hob2 ?hend2
        case hI2 => exact (SG4.le (by omega)).drew
        case hob2 =>
          simp only [List.take_succ_cons, List.take_zero, Obs, and_true]
          refine ⟨?_, ?_, ?_, ?_, ?_, ?_, ?_, ?_, ?_⟩
          · intro k' x W hkn hI hd K hK0
            have hK := hK0.out
            simp only [setAll, Act.put, List.foldl_cons, List.foldl_nil, List.setIfInBounds_toArray, List.set_cons_succ, List.set_cons_zero] at hK ⊢
            have HK := Lib.hid hK
            clear hK hK0
            rw [if_pos (by rfl)]
            clear hd
            go_simp
            exact HK.out _ _ (hI.le (by omega)) (Goes.refl _ _) ⟨rfl, fun h => by cases h⟩
          · intro k' x W hkn hI hd K hK0
            have hK := hK0.out
            simp only [setAll, Act.put, List.foldl_cons, List.foldl_nil, List.setIfInBounds_toArray, List.set_cons_succ, List.set_cons_zero] at hK ⊢
            have HK := Lib.hid hK
            clear hK hK0
            rw [if_pos (by rfl)]
            obtain e44 : x 44 = .pointer (some ⟨D3, 1, none⟩) := hd 0 _ rfl (by kernel_rfl)
            rw [e44] at HK ⊢
            clear e44
            clear hd
            have cx := hI.st.b0.cells
            go_simp
            exact HK.out _ _ (hI.le (by omega)) (Goes.refl _ _) ⟨rfl, fun h => by cases h⟩
          · intro k' x W hkn hI hd K hK0
            have hK := hK0.out
            simp only [setAll, Act.put, List.foldl_cons, List.foldl_nil, List.setIfInBounds_toArray, List.set_cons_succ, List.set_cons_zero] at hK ⊢
            have HK := Lib.hid hK
            clear hK hK0
            rw [if_pos (by rfl)]
            obtain e45 : x 45 = .int .i64 count := hd 1 _ rfl (by kernel_rfl)
            rw [e45] at HK ⊢
            clear e45
            clear hd
            go_simp
            exact HK.out _ _ (hI.le (by omega)) (Goes.refl _ _) ⟨rfl, fun h => by cases h⟩
          · intro k' x W hkn hI hd K hK0
            have hK := hK0.out
            simp only [setAll, Act.put, List.foldl_cons, List.foldl_nil, List.setIfInBounds_toArray, List.set_cons_succ, List.set_cons_zero] at hK ⊢
            have HK := Lib.hid hK
            clear hK hK0
            rw [if_pos (by rfl)]
            obtain e46 : x 46 = .int .i64 (count + 1) := hd 2 _ rfl (by kernel_rfl)
            rw [e46] at HK ⊢
            clear e46
            clear hd
            go_simp
            refine HK.out _ _ ((hI.alloc _).le (by omega)) ((Goes.refl g W).alloc _) ⟨⟨_, _, rfl, by have := hI.st.rd.lt; omega, Blk.new _ _ _ rfl⟩, fun h => by cases h⟩
          · intro k' x W hkn hI hd K hK0
            have hK := hK0.out
            simp only [setAll, Act.put, List.foldl_cons, List.foldl_nil, List.setIfInBounds_toArray, List.set_cons_succ, List.set_cons_zero] at hK ⊢
            have HK := Lib.hid hK
            clear hK hK0
            rw [if_pos (by rfl)]
            clear hd
            go_simp
            exact HK.out _ _ (hI.le (by omega)) (Goes.refl _ _) ⟨rfl, fun h => by cases h⟩
          · intro k' x W hkn hI hd K hK0
            have hK := hK0.out
            simp only [setAll, Act.put, List.foldl_cons, List.foldl_nil, List.setIfInBounds_toArray, List.set_cons_succ, List.set_cons_zero] at hK ⊢
            have HK := Lib.hid hK
            clear hK hK0
            rw [if_pos (by rfl)]
            obtain e48 : x 48 = .pointer (some ⟨g, 0, none⟩) := hd 4 _ rfl (by kernel_rfl)
            rw [e48] at HK ⊢
            clear e48
            clear hd
            go_simp
            refine (pickG hI 3 (by omega) (by omega) (by omega)).mono ?_
            rintro e W1 ⟨u, rfl, u0, u1, SW, GW⟩
            exact HK.out _ _ (SW.le (by omega)) GW ⟨⟨u, rfl, u0, u1⟩, fun h => by cases h⟩
          · intro k' x W hkn hI hd K hK0
            have hK := hK0.out
            simp only [setAll, Act.put, List.foldl_cons, List.foldl_nil, List.setIfInBounds_toArray, List.set_cons_succ, List.set_cons_zero] at hK ⊢
            have HK := Lib.hid hK
            clear hK hK0
            rw [if_pos (by rfl)]
            obtain ⟨b', T, e47, hbg, hB⟩ : ∃ b' T, x 47 = .slice (some ⟨b', 0, none⟩) 3 3 ∧ b' ≠ g ∧ Blk W b' T #[.int .i64 (-1), .int .i64 (count + 1), .int .i64 999999] := hd 3 _ rfl (by kernel_rfl)
            obtain ⟨u, e49, u0, u1⟩ : ∃ u, x 49 = .int .i64 u ∧ 0 ≤ u ∧ u + 1 ≤ 3 := hd 5 _ rfl (by kernel_rfl)
            rw [e47, e49] at HK ⊢
            clear e47 e49
            clear hd
            have u2 : u < 3 := by omega
            go_simp
            exact HK.out _ _ (hI.le (by omega)) (Goes.refl _ _) ⟨⟨b', T, _, rfl, by omega, hbg, hB⟩, fun h => by cases h⟩
          · intro k' x W hkn hI hd K hK0
            have hK := hK0.out
            simp only [setAll, Act.put, List.foldl_cons, List.foldl_nil, List.setIfInBounds_toArray, List.set_cons_succ, List.set_cons_zero] at hK ⊢
            have HK := Lib.hid hK
            clear hK hK0
            rw [if_pos (by rfl)]
            obtain ⟨b', T, j, e50, hj, hbg, hB⟩ : ∃ b' T j, x 50 = .pointer (some ⟨b', j, none⟩) ∧ j < 3 ∧ b' ≠ g ∧ Blk W b' T #[.int .i64 (-1), .int .i64 (count + 1), .int .i64 999999] := hd 6 _ rfl (by kernel_rfl)
            rw [e50] at HK ⊢
            clear e50
            clear hd
            have cB := hB.cells
            obtain rfl | rfl | rfl : j = 0 ∨ j = 1 ∨ j = 2 := by omega
            · go_simp
              exact HK.out _ _ (hI.le (by omega)) (Goes.refl _ _) ⟨⟨_, rfl, by omega, by omega⟩, fun h => by cases h⟩
            · go_simp
              exact HK.out _ _ (hI.le (by omega)) (Goes.refl _ _) ⟨⟨_, rfl, by omega, by omega⟩, fun h => by cases h⟩
            · go_simp
              exact HK.out _ _ (hI.le (by omega)) (Goes.refl _ _) ⟨⟨_, rfl, by omega, by omega⟩, fun h => by cases h⟩
          · intro k' x W hkn hI hd K hK0
            have hK := hK0.out
            simp only [setAll, Act.put, List.foldl_cons, List.foldl_nil, List.setIfInBounds_toArray, List.set_cons_succ, List.set_cons_zero] at hK ⊢
            have HK := Lib.hid hK
            clear hK hK0
            rw [if_pos (by rfl)]
            clear hd
            go_simp
            exact HK.out _ _ (hI.le (by omega)) (Goes.refl _ _) ⟨rfl, fun h => by cases h⟩
        case hend2 =>
          intro x W hI hV
          obtain ⟨u, e51, u0, u1⟩ : ∃ u, x 51 = .int .i64 u ∧ -1 ≤ u ∧ u ≤ 1000000 := hV 7 _ (by omega) rfl
          obtain e52 : x 52 = .pointer (some ⟨D3, 1, none⟩) := hV 8 _ (by omega) rfl
          clear hV
          simp only [setAll, Act.put, List.foldl_cons, List.foldl_nil, List.setIfInBounds_toArray, List.set_cons_succ, List.set_cons_zero, List.drop_succ_cons, List.drop_zero]
          rw [e51, e52]
          clear e51 e52
          have c3 := hI.st.b0.cells; have f3 := hI.st.b0.free; have l3 := hI.st.b0.lt
          have r0 := hI.st.b1.cells 0; have r1 := hI.st.b1.cells 1; have r2 := hI.st.b1.cells 2; have rf := hI.st.b1.free; have rl := hI.st.b1.lt
          simp at r0 r1 r2
          have hne := HD.out.1
          have SG8 := hI.head1 (by simp) HD.out.2.2.2.1 (HDR _ _) 1 (.int .i64 u)
          clear hI SG4
          go_wp2_with fail
          refine bodyPost_ret (by simp [results, Try.results42, go_sem, r0, r1, r2, rl]; try rfl) rfl ?_
          exact ⟨room, u, A, cap, ps, rfl, ((SG8.swap.head3 HD.out.2.2.2.2 (HDL _ _) _ _ _).pop.pop).le (by omega), hlen, hcap, by omega, by omega⟩
      have c3 := SG4.st.b0.cells; have f3 := SG4.st.b0.free; have l3 := SG4.st.b0.lt
      have r0 := SG4.st.b1.cells 0; have r1 := SG4.st.b1.cells 1; have r2 := SG4.st.b1.cells 2; have rf := SG4.st.b1.free; have rl := SG4.st.b1.lt
      simp at r0 r1 r2
      have hne := HD.out.1
      go_wp2_with fail
      refine bodyPost_ret (by simp [results, Try.results42, go_sem, r0, r1, r2, rl]; try rfl) rfl ?_
      exact ⟨room, count, A, cap, ps, rfl, ((SG4.swap.head3 HD.out.2.2.2.2 (HDL _ _) _ _ _).pop.pop).le (by omega), hlen, hcap, by omega, by omega⟩

end Go.Proofs.Ytlnhnljckceeaaa
