/-
  The law on ReaderTake: without a packet nothing changes.
-/
import Derived.Test.YtlnhnljckceeaaaTakeLaw
import Derived.Test.YtlnhnljckceeaaaTakeSpec
import Derived.Test.YtlnhnljckceeaaaTakeImpl
import Derived.Test.YtlnhnljckceeaaaDrawRdT
namespace Go.Proofs.Ytlnhnljckceeaaa
open Go.RowKit
set_option linter.unusedSimpArgs false
set_option linter.unusedVariables false

set_option maxHeartbeats 4000000 in
theorem lawTakeNone (A : Option Addr) (len cap : Nat) (w : World) (hl : len ≤ cap) (hm : cap ≤ maxLen) (hc : Code w w.heap.size A len) :
    Calls Try.prog 4 #[.slice A len cap] w fun e w' => e = .returned (.bool true) ∧ Below w.heap.size w w' := by
  have HC := Lib.hid hc
  clear hc
  have hm' : cap ≤ 9223372036854775807 := by unfold maxLen at hm; omega
  by_cases hbig : (1048576 : Int) < (len : Int)
  · go_enter Try.func4, Try.ntmps4
    go_wp2_with fail
    go_ret
    exact ⟨rfl, Below.refl _ _⟩
  go_enter Try.func4, Try.ntmps4
  go_wp2_with fail
  refine (drawReaderTake_any A len cap w hl hm HC.out).mono ?_
  rintro e w1 ⟨room, count, A', cap', nx, lost, wt, ps, rfl, hp, h1, h2, h3, h4, h5, h6, B1⟩
  clear HC hl hm hm' hbig
  have K1 := ((Sk.nil hp B1).push 25 #[.int .i64 room, .int .i64 count, .slice A' ps.length cap'] rfl).push (b := w1.heap.size + 1) 27 #[.int .i64 nx, .int .i64 lost, .bool wt] (by simp)
  clear hp B1
  obtain ⟨a, b, c, p, n, hT⟩ : ∃ a b c p n, takeF room count ps nx lost wt = ⟨a, b, c, p, n⟩ := ⟨_, _, _, _, _, rfl⟩
  rcases take1 hT with ⟨hv, hn⟩ | ⟨hv, hn, hn1, ha, hb1, hc1⟩ | ⟨hv, hn, hn1⟩
  · subst hn
    have HR := Lib.hid hv
    have HT := Lib.hid (show tkV (takeF room count ps nx lost wt) = .tuple #[.agg #[.int .i64 a, .int .i64 b, .bool c], .agg #[.int .i64 p.wd, .int .i64 p.tm, .int .i64 p.ly, .int .i64 p.sz, .bool p.k, .bool p.l], .int .i64 3] by rw [hT]; rfl)
    clear hT hv
    go_wp2_with fail
    refine (takeImpl _ _ _ _ _ _ _ _ _ K1.row h1 h2).mono ?_
    rintro e w2 ⟨rfl, hb⟩
    rw [HT.out]
    have K1b := K1.mem hb
    have c0 := K1b.b0.cells; have f0 := K1b.b0.free; have l0 := K1b.b0.lt
    have c1 := K1b.b1.cells; have f1 := K1b.b1.free; have l1 := K1b.b1.lt
    have K2 := (K1b.push 27 #[.int .i64 a, .int .i64 b, .bool c] rfl).push (b := w2.heap.size + 1) 31 #[.int .i64 p.wd, .int .i64 p.tm, .int .i64 p.ly, .int .i64 p.sz, .bool p.k, .bool p.l] (by simp)
    clear K1 K1b hb
    go_wp2_with fail
    clear c0 f0 l0 c1 f1 l1
    refine (takeSpec _ _ _ _ _ _ _ _ _ K2.row h1 h2).mono ?_
    rintro e w3 ⟨rfl, hb⟩
    rw [HT.out]
    have K2b := K2.mem hb
    have c0 := K2b.b0.cells; have f0 := K2b.b0.free; have l0 := K2b.b0.lt
    have c1 := K2b.b1.cells; have f1 := K2b.b1.free; have l1 := K2b.b1.lt
    have c2 := K2b.b2.cells; have f2 := K2b.b2.free; have l2 := K2b.b2.lt
    have c3 := K2b.b3.cells; have f3 := K2b.b3.free; have l3 := K2b.b3.lt
    have K3 := (K2b.push 27 #[.int .i64 a, .int .i64 b, .bool c] rfl).push (b := w3.heap.size + 1) 31 #[.int .i64 p.wd, .int .i64 p.tm, .int .i64 p.ly, .int .i64 p.sz, .bool p.k, .bool p.l] (by simp)
    clear K2 K2b hb
    go_wp2_with fail
    refine (rdImpl _ _ _ _ _ _ _ _ _ K3.row h1 h2).mono ?_
    rintro e w4 ⟨rfl, hb⟩
    rw [HR.out]
    have K4 := K3.mem hb
    clear K3 hb c0 f0 l0 c1 f1 l1 c2 f2 l2 c3 f3 l3
    have c3 := K4.b3.cells; have l3 := K4.b3.lt
    have c4 := K4.b4.cells; have l4 := K4.b4.lt
    have c5 := K4.b5.cells; have l5 := K4.b5.lt
    go_wp2_with fail
    go_ret
    exact ⟨rfl, K4.below⟩
  · have HR := Lib.hid hv
    subst hn1
    subst ha
    subst hb1
    subst hc1
    have HT := Lib.hid (show tkV (takeF room count ps a b c) = .tuple #[.agg #[.int .i64 a, .int .i64 b, .bool c], .agg #[.int .i64 p.wd, .int .i64 p.tm, .int .i64 p.ly, .int .i64 p.sz, .bool p.k, .bool p.l], .int .i64 1] by rw [hT]; rfl)
    have hq : (a == count) = true := by simp [hn]
    clear hT hv hn
    go_wp2_with fail
    refine (takeImpl _ _ _ _ _ _ _ _ _ K1.row h1 h2).mono ?_
    rintro e w2 ⟨rfl, hb⟩
    rw [HT.out]
    have K1b := K1.mem hb
    have c0 := K1b.b0.cells; have f0 := K1b.b0.free; have l0 := K1b.b0.lt
    have c1 := K1b.b1.cells; have f1 := K1b.b1.free; have l1 := K1b.b1.lt
    have K2 := (K1b.push 27 #[.int .i64 a, .int .i64 b, .bool c] rfl).push (b := w2.heap.size + 1) 31 #[.int .i64 p.wd, .int .i64 p.tm, .int .i64 p.ly, .int .i64 p.sz, .bool p.k, .bool p.l] (by simp)
    clear K1 K1b hb
    go_wp2_with fail
    clear c0 f0 l0 c1 f1 l1
    refine (takeSpec _ _ _ _ _ _ _ _ _ K2.row h1 h2).mono ?_
    rintro e w3 ⟨rfl, hb⟩
    rw [HT.out]
    have K2b := K2.mem hb
    have c0 := K2b.b0.cells; have f0 := K2b.b0.free; have l0 := K2b.b0.lt
    have c1 := K2b.b1.cells; have f1 := K2b.b1.free; have l1 := K2b.b1.lt
    have c2 := K2b.b2.cells; have f2 := K2b.b2.free; have l2 := K2b.b2.lt
    have c3 := K2b.b3.cells; have f3 := K2b.b3.free; have l3 := K2b.b3.lt
    have K3 := (K2b.push 27 #[.int .i64 a, .int .i64 b, .bool c] rfl).push (b := w3.heap.size + 1) 31 #[.int .i64 p.wd, .int .i64 p.tm, .int .i64 p.ly, .int .i64 p.sz, .bool p.k, .bool p.l] (by simp)
    clear K2 K2b hb
    go_wp2_with fail
    refine (rdImpl _ _ _ _ _ _ _ _ _ K3.row h1 h2).mono ?_
    rintro e w4 ⟨rfl, hb⟩
    rw [HR.out]
    have K4 := K3.mem hb
    clear K3 hb c0 f0 l0 c1 f1 l1 c2 f2 l2 c3 f3 l3
    have c3 := K4.b3.cells; have l3 := K4.b3.lt
    have c4 := K4.b4.cells; have l4 := K4.b4.lt
    have c5 := K4.b5.cells; have l5 := K4.b5.lt
    go_wp2_with fail
    go_ret
    exact ⟨rfl, K4.below⟩
  · have HR := Lib.hid hv
    have hq : (nx == count) = false := by simp [hn]
    rcases hn1 with rfl | rfl
    · skip
      have HT := Lib.hid (show tkV (takeF room count ps nx lost wt) = .tuple #[.agg #[.int .i64 a, .int .i64 b, .bool c], .agg #[.int .i64 p.wd, .int .i64 p.tm, .int .i64 p.ly, .int .i64 p.sz, .bool p.k, .bool p.l], .int .i64 0] by rw [hT]; rfl)
      clear hT hv hn
      go_wp2_with fail
      refine (takeImpl _ _ _ _ _ _ _ _ _ K1.row h1 h2).mono ?_
      rintro e w2 ⟨rfl, hb⟩
      rw [HT.out]
      have K1b := K1.mem hb
      have c0 := K1b.b0.cells; have f0 := K1b.b0.free; have l0 := K1b.b0.lt
      have c1 := K1b.b1.cells; have f1 := K1b.b1.free; have l1 := K1b.b1.lt
      have K2 := (K1b.push 27 #[.int .i64 a, .int .i64 b, .bool c] rfl).push (b := w2.heap.size + 1) 31 #[.int .i64 p.wd, .int .i64 p.tm, .int .i64 p.ly, .int .i64 p.sz, .bool p.k, .bool p.l] (by simp)
      clear K1 K1b hb
      go_wp2_with fail
      clear c0 f0 l0 c1 f1 l1
      refine (takeSpec _ _ _ _ _ _ _ _ _ K2.row h1 h2).mono ?_
      rintro e w3 ⟨rfl, hb⟩
      rw [HT.out]
      have K2b := K2.mem hb
      have c0 := K2b.b0.cells; have f0 := K2b.b0.free; have l0 := K2b.b0.lt
      have c1 := K2b.b1.cells; have f1 := K2b.b1.free; have l1 := K2b.b1.lt
      have c2 := K2b.b2.cells; have f2 := K2b.b2.free; have l2 := K2b.b2.lt
      have c3 := K2b.b3.cells; have f3 := K2b.b3.free; have l3 := K2b.b3.lt
      have K3 := (K2b.push 27 #[.int .i64 a, .int .i64 b, .bool c] rfl).push (b := w3.heap.size + 1) 31 #[.int .i64 p.wd, .int .i64 p.tm, .int .i64 p.ly, .int .i64 p.sz, .bool p.k, .bool p.l] (by simp)
      clear K2 K2b hb
      go_wp2_with fail
      refine (rdImpl _ _ _ _ _ _ _ _ _ K3.row h1 h2).mono ?_
      rintro e w4 ⟨rfl, hb⟩
      rw [HR.out]
      have K4 := K3.mem hb
      clear K3 hb c0 f0 l0 c1 f1 l1 c2 f2 l2 c3 f3 l3
      have c3 := K4.b3.cells; have l3 := K4.b3.lt
      have c4 := K4.b4.cells; have l4 := K4.b4.lt
      have c5 := K4.b5.cells; have l5 := K4.b5.lt
      go_wp2_with fail
      go_ret
      exact ⟨rfl, K4.below⟩
    · skip
      have HT := Lib.hid (show tkV (takeF room count ps nx lost wt) = .tuple #[.agg #[.int .i64 a, .int .i64 b, .bool c], .agg #[.int .i64 p.wd, .int .i64 p.tm, .int .i64 p.ly, .int .i64 p.sz, .bool p.k, .bool p.l], .int .i64 2] by rw [hT]; rfl)
      clear hT hv hn
      go_wp2_with fail
      refine (takeImpl _ _ _ _ _ _ _ _ _ K1.row h1 h2).mono ?_
      rintro e w2 ⟨rfl, hb⟩
      rw [HT.out]
      have K1b := K1.mem hb
      have c0 := K1b.b0.cells; have f0 := K1b.b0.free; have l0 := K1b.b0.lt
      have c1 := K1b.b1.cells; have f1 := K1b.b1.free; have l1 := K1b.b1.lt
      have K2 := (K1b.push 27 #[.int .i64 a, .int .i64 b, .bool c] rfl).push (b := w2.heap.size + 1) 31 #[.int .i64 p.wd, .int .i64 p.tm, .int .i64 p.ly, .int .i64 p.sz, .bool p.k, .bool p.l] (by simp)
      clear K1 K1b hb
      go_wp2_with fail
      clear c0 f0 l0 c1 f1 l1
      refine (takeSpec _ _ _ _ _ _ _ _ _ K2.row h1 h2).mono ?_
      rintro e w3 ⟨rfl, hb⟩
      rw [HT.out]
      have K2b := K2.mem hb
      have c0 := K2b.b0.cells; have f0 := K2b.b0.free; have l0 := K2b.b0.lt
      have c1 := K2b.b1.cells; have f1 := K2b.b1.free; have l1 := K2b.b1.lt
      have c2 := K2b.b2.cells; have f2 := K2b.b2.free; have l2 := K2b.b2.lt
      have c3 := K2b.b3.cells; have f3 := K2b.b3.free; have l3 := K2b.b3.lt
      have K3 := (K2b.push 27 #[.int .i64 a, .int .i64 b, .bool c] rfl).push (b := w3.heap.size + 1) 31 #[.int .i64 p.wd, .int .i64 p.tm, .int .i64 p.ly, .int .i64 p.sz, .bool p.k, .bool p.l] (by simp)
      clear K2 K2b hb
      go_wp2_with fail
      refine (rdImpl _ _ _ _ _ _ _ _ _ K3.row h1 h2).mono ?_
      rintro e w4 ⟨rfl, hb⟩
      rw [HR.out]
      have K4 := K3.mem hb
      clear K3 hb c0 f0 l0 c1 f1 l1 c2 f2 l2 c3 f3 l3
      have c3 := K4.b3.cells; have l3 := K4.b3.lt
      have c4 := K4.b4.cells; have l4 := K4.b4.lt
      have c5 := K4.b5.cells; have l5 := K4.b5.lt
      go_wp2_with fail
      go_ret
      exact ⟨rfl, K4.below⟩

end Go.Proofs.Ytlnhnljckceeaaa
