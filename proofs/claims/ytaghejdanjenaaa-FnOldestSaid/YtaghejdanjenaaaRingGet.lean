/-
  The packet of a number in a ring, in the program and in the reference: both return one plain function.
-/
import Derived.Test.YtaghejdanjenaaaBuf
namespace Go.Proofs.Ytaghejdanjenaaa
open Go.RowKit
set_option linter.unusedSimpArgs false
set_option linter.unusedVariables false

/-- The packet of a number. -/
def getF (room count : Int) (ps : List Pk) (n : Int) : Option Pk :=
  if ringB room count ps = true ∧ count - ps.length ≤ n ∧ n < count then ps[(n - (count - ps.length)).toNat]? else none
def optV : Option Pk → Value
  | some p => .tuple #[.agg #[.int .i64 p.wd, .int .i64 p.tm, .int .i64 p.ly, .int .i64 p.sz, .bool p.k, .bool p.l], .bool true]
  | none => .tuple #[.agg #[.int .i64 0, .int .i64 0, .int .i64 0, .int .i64 0, .bool false, .bool false], .bool false]
theorem getF_no {room count n : Int} {ps : List Pk} (h : ¬ (ringB room count ps = true ∧ count - ps.length ≤ n ∧ n < count)) : optV (getF room count ps n) = .tuple #[.agg #[.int .i64 0, .int .i64 0, .int .i64 0, .int .i64 0, .bool false, .bool false], .bool false] := by
  unfold getF; rw [if_neg h]; rfl
theorem getF_yes {room count n : Int} {ps : List Pk} {i : Nat} {p : Pk} (h : ringB room count ps = true) (h1 : n = count - ps.length + i) (hp : ps[i]? = some p) :
    optV (getF room count ps n) = .tuple #[.agg #[.int .i64 p.wd, .int .i64 p.tm, .int .i64 p.ly, .int .i64 p.sz, .bool p.k, .bool p.l], .bool true] := by
  have hi : i < ps.length := by
    rcases Nat.lt_or_ge i ps.length with h' | h'
    · exact h'
    · rw [List.getElem?_eq_none h'] at hp; cases hp
  unfold getF
  rw [if_pos ⟨h, by omega, by omega⟩, show (n - (count - (ps.length : Int))).toNat = i by omega, hp]
  rfl

set_option maxHeartbeats 2000000 in
theorem getSpec (room count n : Int) (A : Option Addr) (ps : List Pk) (cap : Nat) (w : World) (hp : PkRow w w.heap.size A ps) (hl : ps.length ≤ cap) (hm : cap ≤ 9223372036854775807) :
    Calls Try.prog 28 #[.agg #[.int .i64 room, .int .i64 count, .slice A ps.length cap], .int .i64 n] w fun e w' => e = .returned (optV (getF room count ps n)) ∧ Below w.heap.size w w' := by
  have P1 := (hp.alloc (.cells #[.int .i64 room, .int .i64 count, .slice A ps.length cap] 25)).alloc (.cells #[.int .i64 0, .int .i64 0, .int .i64 0, .int .i64 0, .bool false, .bool false] 48)
  have X1 := (Blk.new w 25 #[.int .i64 room, .int .i64 count, .slice A ps.length cap] rfl).alloc (.cells #[.int .i64 0, .int .i64 0, .int .i64 0, .int .i64 0, .bool false, .bool false] 48)
  have R1 := Blk.new (w.alloc (.cells #[.int .i64 room, .int .i64 count, .slice A ps.length cap] 25)) 48 #[.int .i64 0, .int .i64 0, .int .i64 0, .int .i64 0, .bool false, .bool false] rfl
  have L1 : Below w.heap.size w ((w.alloc (.cells #[.int .i64 room, .int .i64 count, .slice A ps.length cap] 25)).alloc (.cells #[.int .i64 0, .int .i64 0, .int .i64 0, .int .i64 0, .bool false, .bool false] 48)) := Fr.alloc2 (Below.refl _ _) _ _
  cases h1 : ringB room count ps
  · have H := Lib.hid (getF_no (n := n) (room := room) (count := count) (ps := ps) (by rw [h1]; simp))
    have H1 := Lib.hid h1
    clear h1
    go_enter Try.func28, Try.ntmps28
    go_wp2_with fail
    refine (ringSpec _ _ _ _ _ _ P1 hl hm).mono ?_
    rintro e w1 ⟨rfl, hb⟩
    rw [H1.out]
    have R9 := R1.below hb R1.lt
    simp only [World.size_alloc] at R9
    have hb9 := Fr.step L1 hb
    have r0 := R9.cells 0; have r1 := R9.cells 1; have r2 := R9.cells 2; have r3 := R9.cells 3; have r4 := R9.cells 4; have r5 := R9.cells 5; have rf := R9.free; have rl := R9.lt
    simp at r0 r1 r2 r3 r4 r5
    clear hb X1 P1 R1 L1
    go_wp2_with fail
    refine bodyPost_ret (by simp [results, Try.results28, go_sem, r0, r1, r2, r3, r4, r5, rl]; try rfl) rfl ?_
    rw [H.out]; refine ⟨rfl, ?_⟩
    repeat' (first | (with_reducible exact hb9) | (with_reducible refine Fr.alloc ?_ _) | (with_reducible refine Below.setCell ?_ ?_ _) | (simp; omega) | (simp; done))
  · obtain ⟨_, ⟨c0, c1⟩, c2, _⟩ := ringB_iff.1 h1
    have c3 : (ps.length : Int) ≤ count := by have := minI_le room count; omega
    obtain ⟨O, hO⟩ : ∃ O, O = count - (ps.length : Int) := ⟨_, rfl⟩
    have hw1 : IntKind.i64.wrap (count - (ps.length : Int)) = O := by rw [hO]; exact IntWalk.i64_in _ (by omega)
    have HO := Lib.hid hO
    have HC := Lib.hid (And.intro c0 (And.intro c1 c3))
    have H1 := Lib.hid h1
    clear h1 c0 c1 c2 c3 hO
    go_enter Try.func28, Try.ntmps28
    go_wp2_with fail
    refine (ringSpec _ _ _ _ _ _ P1 hl hm).mono ?_
    rintro e w1 ⟨rfl, hb⟩
    rw [H1.out]
    have R9 := R1.below hb R1.lt
    simp only [World.size_alloc] at R9
    have hb9 := Fr.step L1 hb
    have X2 := X1.below hb X1.lt
    have P2 := hp.below hb9
    have cx := X2.cells
    have r0 := R9.cells 0; have r1 := R9.cells 1; have r2 := R9.cells 2; have r3 := R9.cells 3; have r4 := R9.cells 4; have r5 := R9.cells 5; have rf := R9.free; have rl := R9.lt
    simp at r0 r1 r2 r3 r4 r5
    clear hb X1 P1 R1 L1
    by_cases hn0 : n < O
    · have H := Lib.hid (getF_no (n := n) (room := room) (count := count) (ps := ps) (by have := HO.out; omega))
      go_wp2_with fail
      refine bodyPost_ret (by simp [results, Try.results28, go_sem, r0, r1, r2, r3, r4, r5, rl]; try rfl) rfl ?_
      rw [H.out]; refine ⟨rfl, ?_⟩
      repeat' (first | (with_reducible exact hb9) | (with_reducible refine Fr.alloc ?_ _) | (with_reducible refine Below.setCell ?_ ?_ _) | (simp; omega) | (simp; done))
    · by_cases hn1 : n < count
      · have hO := HO.out
        obtain ⟨c0, c1, c3⟩ := HC.out
        obtain ⟨i, hi⟩ : ∃ i : Nat, n = O + i := ⟨(n - O).toNat, by omega⟩
        have hilt : i < ps.length := by omega
        obtain ⟨b, off, rfl, hbB, hrow⟩ := P2 (by omega)
        obtain ⟨p, hpk⟩ : ∃ p, ps[i]? = some p := ⟨ps[i], List.getElem?_eq_getElem hilt⟩
        have H := Lib.hid (getF_yes (n := n) H1.out (by omega) hpk)
        obtain ⟨q0, q1, q2, q3, q4, q5⟩ := hrow i p hpk
        have hw2 : IntKind.i64.wrap (n - O) = (i : Int) := by rw [show n - O = (i : Int) by omega]; exact IntWalk.i64_in _ (by omega)
        have i0 : (0 : Int) ≤ (i : Int) := by omega
        have i1 : (i : Int) < (ps.length : Int) := by omega
        clear hpk hi hilt hO c0 c1 c3 hbB hrow
        go_wp2_with fail
        refine bodyPost_ret (by simp [results, Try.results28, go_sem, r0, r1, r2, r3, r4, r5, rl]; try rfl) rfl ?_
        rw [H.out]; refine ⟨rfl, ?_⟩
        repeat' (first | (with_reducible exact hb9) | (with_reducible refine Fr.alloc ?_ _) | (with_reducible refine Below.setCell ?_ ?_ _) | (simp; omega) | (simp; done))
      · have H := Lib.hid (getF_no (n := n) (room := room) (count := count) (ps := ps) (by have := HO.out; omega))
        go_wp2_with fail
        refine bodyPost_ret (by simp [results, Try.results28, go_sem, r0, r1, r2, r3, r4, r5, rl]; try rfl) rfl ?_
        rw [H.out]; refine ⟨rfl, ?_⟩
        repeat' (first | (with_reducible exact hb9) | (with_reducible refine Fr.alloc ?_ _) | (with_reducible refine Below.setCell ?_ ?_ _) | (simp; omega) | (simp; done))

end Go.Proofs.Ytaghejdanjenaaa
