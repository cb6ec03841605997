/-
  Copies of rings and readers, their comparison, the count of what is left; the oldest number and the reader's test.
-/
import Derived.Test.YtlnhnljckceeaaaRing
import Derived.Test.YtlnhnljckceeaaaToPks
namespace Go.Proofs.Ytlnhnljckceeaaa
open Go.RowKit
set_option linter.unusedSimpArgs false
set_option linter.unusedVariables false

theorem szRing_any (room count : Int) (A : Option Addr) (ps : List Pk) (cap : Nat) (w : World) (hl : ps.length ≤ cap) (hm : cap ≤ 9223372036854775807) :
    Calls Try.prog 17 #[.agg #[.int .i64 room, .int .i64 count, .slice A ps.length cap], .int .i64 1048576] w fun e w' => e = .returned (.int .i64 (if 1048576 < (ps.length : Int) then -1 else 1048576 - ps.length)) ∧ Below w.heap.size w w' := by
  by_cases h : 1048576 < (ps.length : Int)
  · rw [if_pos h]
    go_enter Try.func17, Try.ntmps17
    go_wp2_with (go_at_call 39; refine (szPks_any _ _ _ _ hl hm).mono ?_; rintro e w' ⟨rfl, rfl⟩; rw [if_pos h])
    go_ret
    exact ⟨rfl, Fr.alloc (Below.refl _ _) _⟩
  · rw [if_neg h]
    have h' : ¬ 1048576 - (ps.length : Int) < 0 := by omega
    go_enter Try.func17, Try.ntmps17
    go_wp2_with (go_at_call 39; refine (szPks_any _ _ _ _ hl hm).mono ?_; rintro e w' ⟨rfl, rfl⟩; rw [if_neg h])
    go_ret
    exact ⟨rfl, Fr.alloc (Below.refl _ _) _⟩

/-- What the copy of a ring leaves: a ring with packets of its own. -/
def CopiedR (room count : Int) (ps : List Pk) (w : World) (e : Ending) (w' : World) : Prop :=
  ∃ g, e = .returned (.agg #[.int .i64 room, .int .i64 count, .slice (some ⟨g, 0, none⟩) ps.length ps.length]) ∧ w.heap.size ≤ g ∧ Blk w' g 31 (pkcs ps).toArray ∧ Below w.heap.size w w'

set_option maxHeartbeats 1000000 in
theorem toRing_any (room count : Int) (A : Option Addr) (ps : List Pk) (cap : Nat) (w : World) (hp : PkRow w w.heap.size A ps) (hl : ps.length ≤ cap) (hm : cap ≤ 9223372036854775807) (hn : ps.length ≤ 1048576) :
    Calls Try.prog 18 #[.agg #[.int .i64 room, .int .i64 count, .slice A ps.length cap]] w (CopiedR room count ps w) := by
  have HN := Lib.hid hn
  clear hn
  go_enter Try.func18, Try.ntmps18
  go_wp2_with fail
  refine (toPks_any A ps cap _ (hp.mem ?_) hl hm HN.out).mono ?_
  · repeat' (first | (with_reducible exact Below.refl _ _) | (with_reducible refine Fr.alloc ?_ _) | (with_reducible refine Below.setCell ?_ ?_ _) | (simp; done))
  rintro e w1 ⟨g, rfl, hg, hB, hb⟩
  have B2 : Blk w1 (w.heap.size + 1) 25 #[.int .i64 0, .int .i64 0, .slice none 0 0] :=
    ((Blk.new _ _ _ (by simp)).alloc _).below hb (by simp [go_sem])
  have B3 : Blk w1 (w.heap.size + 1 + 1) 25 #[.int .i64 room, .int .i64 count, .slice none 0 0] :=
    (Blk.new _ _ _ (by simp)).below hb (by simp [go_sem])
  have hbel : Below w.heap.size w w1 := Fr.step (by repeat' (first | (with_reducible exact Below.refl _ _) | (with_reducible refine Fr.alloc ?_ _))) hb
  have hg1 : w.heap.size ≤ g ∧ w.heap.size + 1 ≠ g ∧ w.heap.size + 1 + 1 ≠ g := by simp [go_sem] at hg; omega
  have l3 := B3.lt
  clear hb hg
  have a0 := B2.cells 0; have a1 := B2.cells 1; have a2 := B2.cells 2; have f2 := B2.free
  have d0 := B3.cells 0; have d1 := B3.cells 1; have d2 := B3.cells 2; have f3 := B3.free
  simp at a0 a1 a2 d0 d1 d2
  go_wp2_with fail
  refine bodyPost_ret (by simp [results, Try.results18, go_sem, a0, a1, a2]; try rfl) rfl ?_
  refine ⟨g, rfl, hg1.1, ?_, ?_⟩
  · refine Blk.far (Blk.far (Blk.far (Blk.far hB ?_ _) ?_ _) ?_ _) ?_ _
    · exact fun e => hg1.2.2 e.symm
    · exact fun e => hg1.2.1 e.symm
    · exact fun e => hg1.2.1 e.symm
    · exact fun e => hg1.2.1 e.symm
  · repeat' (first | (with_reducible exact hbel) | (with_reducible refine Below.setCell ?_ ?_ _) | (simp; omega) | (simp; done))

set_option maxHeartbeats 1000000 in
theorem eqRing_same (room count : Int) (A A' : Option Addr) (ps : List Pk) (cap cap' : Nat) (w : World) (hp : PkRow w w.heap.size A ps) (hp' : PkRow w w.heap.size A' ps) (hl : ps.length ≤ cap) (hm : cap ≤ 9223372036854775807) :
    Calls Try.prog 22 #[.agg #[.int .i64 room, .int .i64 count, .slice A ps.length cap], .agg #[.int .i64 room, .int .i64 count, .slice A' ps.length cap']] w fun e w' => e = .returned (.bool true) ∧ Below w.heap.size w w' := by
  go_enter Try.func22, Try.ntmps22
  go_wp2_with fail
  have L : Below w.heap.size w ((w.alloc (.cells #[.int .i64 room, .int .i64 count, .slice A ps.length cap] 25)).alloc (.cells #[.int .i64 room, .int .i64 count, .slice A' ps.length cap'] 25)) := Fr.alloc2 (Below.refl _ _) _ _
  have P1 := hp.mem L
  have P2 := hp'.mem L
  refine (eqPks_same A A' ps cap cap' _ P1 P2 hl hm).mono ?_
  rintro e w1 ⟨rfl, hb⟩
  have L1 := Fr.step L hb
  clear P1 P2 hb L
  go_wp2_with fail
  go_ret
  exact ⟨rfl, L1⟩

theorem toReader_mem (nx lost : Int) (wt : Bool) (w : World) :
    Calls Try.prog 19 #[.agg #[.int .i64 nx, .int .i64 lost, .bool wt]] w fun e w' => e = .returned (.agg #[.int .i64 nx, .int .i64 lost, .bool wt]) ∧ Below w.heap.size w w' := by
  go_enter Try.func19, Try.ntmps19
  go_wp2
  refine bodyPost_ret (by simp [results, Try.results19, go_sem]; try rfl) rfl ?_
  refine ⟨rfl, ?_⟩
  repeat' (first | (with_reducible exact Below.refl _ _) | (with_reducible refine Fr.alloc ?_ _) | (with_reducible refine Below.setCell ?_ ?_ _) | (simp; done))

theorem eqReader_same (nx lost : Int) (wt : Bool) (w : World) :
    Calls Try.prog 20 #[.agg #[.int .i64 nx, .int .i64 lost, .bool wt], .agg #[.int .i64 nx, .int .i64 lost, .bool wt]] w fun e w' => e = .returned (.bool true) ∧ Below w.heap.size w w' := by
  go_enter Try.func20, Try.ntmps20
  go_wp2
  go_ret
  refine ⟨rfl, ?_⟩
  repeat' (first | (with_reducible exact Below.refl _ _) | (with_reducible refine Fr.alloc ?_ _))

/-- The reader's test. -/
def readerB (room count : Int) (ps : List Pk) (nx lost : Int) : Bool := ringB room count ps && inB nx 0 count && inB lost 0 999999
theorem readerB_iff {room count : Int} {ps : List Pk} {nx lost : Int} : readerB room count ps nx lost = true ↔ ringB room count ps = true ∧ (0 ≤ nx ∧ nx ≤ count) ∧ (0 ≤ lost ∧ lost ≤ 999999) := by
  simp [readerB, inB_iff, and_assoc]

set_option maxHeartbeats 1000000 in
theorem rdImpl (room count : Int) (A : Option Addr) (ps : List Pk) (cap : Nat) (nx lost : Int) (wt : Bool) (w : World) (hp : PkRow w w.heap.size A ps) (hl : ps.length ≤ cap) (hm : cap ≤ 9223372036854775807) :
    Calls Try.prog 16 #[.agg #[.int .i64 room, .int .i64 count, .slice A ps.length cap], .agg #[.int .i64 nx, .int .i64 lost, .bool wt]] w fun e w' => e = .returned (.bool (readerB room count ps nx lost)) ∧ Below w.heap.size w w' := by
  have P1 := (hp.alloc (.cells #[.int .i64 room, .int .i64 count, .slice A ps.length cap] 25)).alloc (.cells #[.int .i64 nx, .int .i64 lost, .bool wt] 27)
  have hX := (Blk.new w 25 #[.int .i64 room, .int .i64 count, .slice A ps.length cap] rfl).alloc (.cells #[.int .i64 nx, .int .i64 lost, .bool wt] 27)
  have hY := Blk.new (w.alloc (.cells #[.int .i64 room, .int .i64 count, .slice A ps.length cap] 25)) 27 #[.int .i64 nx, .int .i64 lost, .bool wt] rfl
  cases h1 : ringB room count ps
  · have H := Lib.hid (show readerB room count ps nx lost = false by unfold readerB; rw [h1]; rfl)
    have H1 := Lib.hid h1
    clear h1
    go_enter Try.func16, Try.ntmps16
    go_wp2_with (go_at_call 37; refine (ringImpl _ _ _ _ _ _ P1 hl hm).mono ?_; rintro e w' ⟨rfl, hb⟩; rw [H1.out])
    go_ret
    rw [H.out]; exact ⟨rfl, Fr.step (Fr.alloc2 (Below.refl _ _) _ _) hb⟩
  have H1 := Lib.hid h1
  by_cases h2 : 0 ≤ nx
  · by_cases h3 : nx ≤ count
    · have H := Lib.hid (show readerB room count ps nx lost = inB lost 0 999999 by unfold readerB; rw [h1, inB_iff.2 ⟨h2, h3⟩]; rfl)
      clear h1
      go_enter Try.func16, Try.ntmps16
      go_wp2_with (first | (go_at_call 37; refine (ringImpl _ _ _ _ _ _ P1 hl hm).mono ?_; rintro e w' ⟨rfl, hb⟩; rw [H1.out]; have cx := (hX.below hb hX.lt).cells; have cy := (hY.below hb hY.lt).cells; simp only [World.size_alloc] at cy) | (go_at_call 38; refine (wideValid_any _ _).mono ?_; rintro e w' ⟨rfl, rfl⟩))
      go_ret
      rw [H.out]; exact ⟨rfl, Fr.step (Fr.alloc2 (Below.refl _ _) _ _) hb⟩
    · have H := Lib.hid (show readerB room count ps nx lost = false by cases h : readerB room count ps nx lost; rfl; exact absurd (readerB_iff.1 h).2.1.2 h3)
      clear h1
      go_enter Try.func16, Try.ntmps16
      go_wp2_with (go_at_call 37; refine (ringImpl _ _ _ _ _ _ P1 hl hm).mono ?_; rintro e w' ⟨rfl, hb⟩; rw [H1.out]; have cx := (hX.below hb hX.lt).cells; have cy := (hY.below hb hY.lt).cells; simp only [World.size_alloc] at cy)
      go_ret
      rw [H.out]; exact ⟨rfl, Fr.step (Fr.alloc2 (Below.refl _ _) _ _) hb⟩
  · have H := Lib.hid (show readerB room count ps nx lost = false by cases h : readerB room count ps nx lost; rfl; exact absurd (readerB_iff.1 h).2.1.1 h2)
    clear h1
    go_enter Try.func16, Try.ntmps16
    go_wp2_with (go_at_call 37; refine (ringImpl _ _ _ _ _ _ P1 hl hm).mono ?_; rintro e w' ⟨rfl, hb⟩; rw [H1.out]; have cx := (hX.below hb hX.lt).cells; have cy := (hY.below hb hY.lt).cells; simp only [World.size_alloc] at cy)
    go_ret
    rw [H.out]; exact ⟨rfl, Fr.step (Fr.alloc2 (Below.refl _ _) _ _) hb⟩

set_option maxHeartbeats 1000000 in
theorem rdSpec (room count : Int) (A : Option Addr) (ps : List Pk) (cap : Nat) (nx lost : Int) (wt : Bool) (w : World) (hp : PkRow w w.heap.size A ps) (hl : ps.length ≤ cap) (hm : cap ≤ 9223372036854775807) :
    Calls Try.prog 35 #[.agg #[.int .i64 room, .int .i64 count, .slice A ps.length cap], .agg #[.int .i64 nx, .int .i64 lost, .bool wt]] w fun e w' => e = .returned (.bool (readerB room count ps nx lost)) ∧ Below w.heap.size w w' := by
  have P1 := (hp.alloc (.cells #[.int .i64 room, .int .i64 count, .slice A ps.length cap] 25)).alloc (.cells #[.int .i64 nx, .int .i64 lost, .bool wt] 27)
  have hX := (Blk.new w 25 #[.int .i64 room, .int .i64 count, .slice A ps.length cap] rfl).alloc (.cells #[.int .i64 nx, .int .i64 lost, .bool wt] 27)
  have hY := Blk.new (w.alloc (.cells #[.int .i64 room, .int .i64 count, .slice A ps.length cap] 25)) 27 #[.int .i64 nx, .int .i64 lost, .bool wt] rfl
  cases h1 : ringB room count ps
  · have H := Lib.hid (show readerB room count ps nx lost = false by unfold readerB; rw [h1]; rfl)
    have H1 := Lib.hid h1
    clear h1
    go_enter Try.func35, Try.ntmps35
    go_wp2_with (go_at_call 45; refine (ringSpec _ _ _ _ _ _ P1 hl hm).mono ?_; rintro e w' ⟨rfl, hb⟩; rw [H1.out])
    go_ret
    rw [H.out]; exact ⟨rfl, Fr.step (Fr.alloc2 (Below.refl _ _) _ _) hb⟩
  have H1 := Lib.hid h1
  cases h2 : inB nx 0 count
  · have H := Lib.hid (show readerB room count ps nx lost = false by unfold readerB; rw [h1, h2]; rfl)
    have H2 := Lib.hid h2
    clear h1 h2
    go_enter Try.func35, Try.ntmps35
    go_wp2_with (first | (go_at_call 45; refine (ringSpec _ _ _ _ _ _ P1 hl hm).mono ?_; rintro e w' ⟨rfl, hb⟩; rw [H1.out]; have cx := (hX.below hb hX.lt).cells; have cy := (hY.below hb hY.lt).cells; simp only [World.size_alloc] at cy) | (go_at_call 46; refine (l6In_any _ _ _ _).mono ?_; rintro e w' ⟨rfl, rfl⟩; rw [H2.out]))
    go_ret
    rw [H.out]; exact ⟨rfl, Fr.step (Fr.alloc2 (Below.refl _ _) _ _) hb⟩
  · have H := Lib.hid (show readerB room count ps nx lost = inB lost 0 999999 by unfold readerB; rw [h1, h2]; rfl)
    have H2 := Lib.hid h2
    clear h1 h2
    go_enter Try.func35, Try.ntmps35
    go_wp2_with (first | (go_at_call 45; refine (ringSpec _ _ _ _ _ _ P1 hl hm).mono ?_; rintro e w' ⟨rfl, hb⟩; rw [H1.out]; have cx := (hX.below hb hX.lt).cells; have cy := (hY.below hb hY.lt).cells; simp only [World.size_alloc] at cy) | (go_at_call 46; refine (l6In_any _ _ _ _).mono ?_; rintro e w' ⟨rfl, rfl⟩; try rw [H2.out]))
    go_ret
    rw [H.out]; exact ⟨rfl, Fr.step (Fr.alloc2 (Below.refl _ _) _ _) hb⟩

end Go.Proofs.Ytlnhnljckceeaaa
