/-
  The packet of a number in a ring, in the program.
-/
import Derived.Test.YtlnhnljckceeaaaGetF
namespace Go.Proofs.Ytlnhnljckceeaaa
open Go.RowKit
set_option linter.unusedSimpArgs false
set_option linter.unusedVariables false

set_option maxHeartbeats 2000000 in
theorem getImpl (room count n : Int) (A : Option Addr) (ps : List Pk) (cap : Nat) (w : World) (hp : PkRow w w.heap.size A ps) (hl : ps.length ≤ cap) (hm : cap ≤ 9223372036854775807) :
    Calls Try.prog 23 #[.agg #[.int .i64 room, .int .i64 count, .slice A ps.length cap], .int .i64 n] w fun e w' => e = .returned (optV (getF room count ps n)) ∧ Below w.heap.size w w' := by
  have P1 := (hp.alloc (.cells #[.int .i64 room, .int .i64 count, .slice A ps.length cap] 25)).alloc (.cells #[.int .i64 0, .int .i64 0, .int .i64 0, .int .i64 0, .bool false, .bool false] 31)
  have X1 := (Blk.new w 25 #[.int .i64 room, .int .i64 count, .slice A ps.length cap] rfl).alloc (.cells #[.int .i64 0, .int .i64 0, .int .i64 0, .int .i64 0, .bool false, .bool false] 31)
  have R1 := Blk.new (w.alloc (.cells #[.int .i64 room, .int .i64 count, .slice A ps.length cap] 25)) 31 #[.int .i64 0, .int .i64 0, .int .i64 0, .int .i64 0, .bool false, .bool false] rfl
  have L1 : Below w.heap.size w ((w.alloc (.cells #[.int .i64 room, .int .i64 count, .slice A ps.length cap] 25)).alloc (.cells #[.int .i64 0, .int .i64 0, .int .i64 0, .int .i64 0, .bool false, .bool false] 31)) := Fr.alloc2 (Below.refl _ _) _ _
  cases h1 : ringB room count ps
  · have H := Lib.hid (getF_no (n := n) (room := room) (count := count) (ps := ps) (by rw [h1]; simp))
    have H1 := Lib.hid h1
    clear h1
    go_enter Try.func23, Try.ntmps23
    go_wp2_with fail
    refine (ringImpl _ _ _ _ _ _ P1 hl hm).mono ?_
    rintro e w1 ⟨rfl, hb⟩
    rw [H1.out]
    have R9 := R1.below hb R1.lt
    simp only [World.size_alloc] at R9
    have hb9 := Fr.step L1 hb
    have r0 := R9.cells 0; have r1 := R9.cells 1; have r2 := R9.cells 2; have r3 := R9.cells 3; have r4 := R9.cells 4; have r5 := R9.cells 5; have rf := R9.free; have rl := R9.lt
    simp at r0 r1 r2 r3 r4 r5
    clear hb X1 P1 R1 L1
    go_wp2_with fail
    refine bodyPost_ret (by simp [results, Try.results23, go_sem, r0, r1, r2, r3, r4, r5, rl]; try rfl) rfl ?_
    rw [H.out]; refine ⟨rfl, ?_⟩
    repeat' (first | (with_reducible exact hb9) | (with_reducible refine Fr.alloc ?_ _) | (with_reducible refine Below.setCell ?_ ?_ _) | (simp; omega) | (simp; done))
  · obtain ⟨h2, ⟨c0, c1⟩, c2, _⟩ := ringB_iff.1 h1
    have c3 : (ps.length : Int) ≤ count := by have := minI_le room count; omega
    have c4 : (ps.length : Int) ≤ room := by have := minI_le room count; omega
    obtain ⟨O, hO⟩ : ∃ O, O = count - (ps.length : Int) := ⟨_, rfl⟩
    have HO := Lib.hid hO
    have HC := Lib.hid (And.intro c0 (And.intro c1 (And.intro c3 (And.intro c4 h2))))
    have H1 := Lib.hid h1
    clear h1 c0 c1 c2 c3 c4 h2 hO
    go_enter Try.func23, Try.ntmps23
    go_wp2_with fail
    refine (ringImpl _ _ _ _ _ _ P1 hl hm).mono ?_
    rintro e w1 ⟨rfl, hb⟩
    rw [H1.out]
    have R2 := R1.below hb R1.lt
    simp only [World.size_alloc] at R2
    have L2 := Fr.step L1 hb
    have X2 := X1.below hb X1.lt
    have P2 := P1.mem hb
    have cx := X2.cells
    clear hb X1 P1 R1 L1
    go_wp2_with fail
    refine (buf_any _ _ _ _ _ _ P2 hl hm HC.out.2.1 HC.out.2.2.1 HC.out.2.2.2.2 HC.out.2.2.2.1).mono ?_
    rintro e w2 ⟨⟨cs, rfl, hbuf⟩, hb⟩
    rw [← HO.out] at hbuf
    have R3 := (R2.below hb R2.lt).alloc (.cells bufZ 72)
    have L3 := Fr.alloc (Fr.step L2 hb) (.cells bufZ 72)
    have B3 : Blk (w2.alloc (.cells bufZ 72)) w2.heap.size 72 bufZ := Blk.new _ _ _ rfl
    have hi : (Try.prog.info? 72).map (·.size) = some cs.size := by rw [hbuf.size]; exact bufInfo
    have hgt : w.heap.size + 1 < w2.heap.size := (R2.below hb R2.lt).lt
    clear R2 L2 X2 P2 cx hb
    simp only []
    iterate 4 go_step
    change wpList _ _ _ _ _ (w2.alloc (.cells bufZ 72))
    refine wpList_store_row ?s1 72 (.tmp 6) (.tmp 12) ?s2 w2.heap.size cs ?s3 ?s4 72 _ B3 hi ?s5 hbuf.one ?s6
    case s1 => rfl
    case s2 => rfl
    case s3 => rfl
    case s4 => rfl
    case s5 => rw [hbuf.size]; rfl
    have R9 := R3.setRow_far (g := w2.heap.size) (by omega) cs
    have B9 := B3.setRow cs
    have hb9 := Fr.setRow (g := w2.heap.size) L3 (by omega) cs
    have hsz : w2.heap.size + 1 = ((w2.alloc (.cells bufZ 72)).setRow w2.heap.size cs).heap.size := by simp
    generalize (w2.alloc (.cells bufZ 72)).setRow w2.heap.size cs = w9 at R9 B9 hb9 hsz ⊢
    have b0 : w9.cell? ⟨w2.heap.size, 48, none⟩ = some (.int .i64 room) := (B9.cells 48).trans hbuf.room_
    have b1 : w9.cell? ⟨w2.heap.size, 49, none⟩ = some (.int .i64 O) := (B9.cells 49).trans hbuf.old
    have b2 : w9.cell? ⟨w2.heap.size, 50, none⟩ = some (.int .i64 count) := (B9.cells 50).trans hbuf.cnt
    have r0 := R9.cells 0; have r1 := R9.cells 1; have r2 := R9.cells 2; have r3 := R9.cells 3; have r4 := R9.cells 4; have r5 := R9.cells 5; have rf := R9.free; have rl := R9.lt
    simp at r0 r1 r2 r3 r4 r5
    clear hi hsz R3 L3 B3
    have HBF := Lib.hid hbuf
    clear hbuf
    by_cases hn0 : n < O
    · have H := Lib.hid (getF_no (n := n) (room := room) (count := count) (ps := ps) (by have := HO.out; omega))
      go_wp2_with fail
      refine bodyPost_ret (by simp [results, Try.results23, go_sem, r0, r1, r2, r3, r4, r5, rl]; try rfl) rfl ?_
      rw [H.out]; refine ⟨rfl, ?_⟩
      repeat' (first | (with_reducible exact hb9) | (with_reducible refine Fr.alloc ?_ _) | (with_reducible refine Below.setCell ?_ ?_ _) | (simp; omega) | (simp; done))
    · by_cases hn1 : n < count
      · have hO := HO.out
        obtain ⟨c0, c1, c3, c4, c5⟩ := HC.out
        obtain ⟨i, hi⟩ : ∃ i : Nat, n = O + i := ⟨(n - O).toNat, by omega⟩
        have hilt : i < ps.length := by omega
        obtain ⟨p, hpk⟩ : ∃ p, ps[i]? = some p := ⟨ps[i], List.getElem?_eq_getElem hilt⟩
        have H := Lib.hid (getF_yes (n := n) H1.out (by omega) hpk)
        obtain ⟨q, hq⟩ : ∃ q, q = plc n room := ⟨_, rfl⟩
        have hpl := plc_lt (n := n) (room := room) (by omega) c5.1
        rw [← hq] at hpl
        have hcell : ∀ f, f < 6 → w9.cell? ⟨w2.heap.size, q * 6 + f, none⟩ = (pkc p)[f]? := fun f hf => by
          rw [B9.cells, hq, hi]; exact HBF.out.pk i p hilt hpk f hf
        have q0 := hcell 0 (by omega); have q1 := hcell 1 (by omega); have q2 := hcell 2 (by omega); have q3 := hcell 3 (by omega); have q4 := hcell 4 (by omega); have q5 := hcell 5 (by omega)
        simp only [pkc, Nat.add_zero, List.getElem?_cons_zero, List.getElem?_cons_succ] at q0 q1 q2 q3 q4 q5
        have hq6 : (q : Int) < 8 := by omega
        have hrem : n.tmod room = (q : Int) := hpl.2.symm
        have hwq : IntKind.i64.wrap (q : Int) = (q : Int) := IntWalk.i64_in _ (by omega)
        have hr0 : (room = 0) = False := by simp; omega
        have hqn : (0 : Int) ≤ (q : Int) := by omega
        clear hpk hilt hO c0 c1 c3 c4 c5 hcell hpl hq hi
        go_wp2_with fail
        refine bodyPost_ret (by simp [results, Try.results23, go_sem, r0, r1, r2, r3, r4, r5, rl]; try rfl) rfl ?_
        rw [H.out]; refine ⟨rfl, ?_⟩
        repeat' (first | (with_reducible exact hb9) | (with_reducible refine Fr.alloc ?_ _) | (with_reducible refine Below.setCell ?_ ?_ _) | (simp; omega) | (simp; done))
      · have H := Lib.hid (getF_no (n := n) (room := room) (count := count) (ps := ps) (by have := HO.out; omega))
        go_wp2_with fail
        refine bodyPost_ret (by simp [results, Try.results23, go_sem, r0, r1, r2, r3, r4, r5, rl]; try rfl) rfl ?_
        rw [H.out]; refine ⟨rfl, ?_⟩
        repeat' (first | (with_reducible exact hb9) | (with_reducible refine Fr.alloc ?_ _) | (with_reducible refine Below.setCell ?_ ?_ _) | (simp; omega) | (simp; done))

end Go.Proofs.Ytlnhnljckceeaaa
