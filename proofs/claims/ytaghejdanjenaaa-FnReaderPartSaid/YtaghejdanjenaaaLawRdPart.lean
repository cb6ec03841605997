/-
  The law on ReaderValid: a reader is not ahead.
-/
import Derived.Test.YtaghejdanjenaaaDrawRdV
namespace Go.Proofs.Ytaghejdanjenaaa
open Go.RowKit
set_option linter.unusedSimpArgs false
set_option linter.unusedVariables false

set_option maxHeartbeats 2000000 in
theorem lawReaderPart (A : Option Addr) (len cap : Nat) (w : World) (hl : len ≤ cap) (hm : cap ≤ maxLen) (hc : Code w w.heap.size A len) :
    Calls Try.prog 5 #[.slice A len cap] w fun e w' => e = .returned (.bool true) ∧ Below w.heap.size w w' := by
  have HC := Lib.hid hc
  clear hc
  have hm' : cap ≤ 9223372036854775807 := by unfold maxLen at hm; omega
  by_cases hbig : (1048576 : Int) < (len : Int)
  · go_enter Try.func5, Try.ntmps5
    go_wp2_with fail
    go_ret
    exact ⟨rfl, Below.refl _ _⟩
  go_enter Try.func5, Try.ntmps5
  go_wp2_with fail
  refine (drawReaderValid_any A len cap w hl hm HC.out).mono ?_
  rintro e w1 ⟨room, count, A', cap', nx, lost, wt, ps, rfl, hp, h1, h2, h3, h4, h5, h6, B1⟩
  clear HC hl hm hm' hbig
  have K1 := (Sk.nil hp B1).push 25 #[.int .i64 room, .int .i64 count, .slice A' ps.length cap'] rfl |>.push 37 #[.int .i64 nx, .int .i64 lost, .bool wt] rfl
  clear hp B1
  go_wp2_with fail
  refine (rdImpl _ _ _ _ _ _ _ _ _ K1.row h1 h2).mono ?_
  rintro e w2 ⟨rfl, hb⟩
  have K2 := K1.mem hb
  clear K1 hb
  have c0 := K2.b0.cells; have f0 := K2.b0.free; have l0 := K2.b0.lt
  have c1 := K2.b1.cells; have f1 := K2.b1.free; have l1 := K2.b1.lt
  have ez : (w1.alloc (.cells #[.int .i64 room, .int .i64 count, .slice A' ps.length cap'] 25)).heap.size = w1.heap.size + 1 := World.size_alloc _ _
  rw [ez] at c0 f0 l0
  go_wp2_with fail
  clear c0 f0 l0 c1 f1 l1
  refine (rdSpec _ _ _ _ _ _ _ _ _ K2.row h1 h2).mono ?_
  rintro e w3 ⟨rfl, hb⟩
  have K3 := K2.mem hb
  clear K2 hb
  have c0 := K3.b0.cells; have f0 := K3.b0.free; have l0 := K3.b0.lt
  have c1 := K3.b1.cells; have f1 := K3.b1.free; have l1 := K3.b1.lt
  rw [ez] at c0 f0 l0
  cases hv : readerB room count ps nx lost
  · go_wp2_with fail
    go_ret
    exact ⟨rfl, K3.below⟩
  have X1 := Lib.hid (show readerB room count ps (count + 1) lost = false by cases h : readerB room count ps (count + 1) lost; rfl; have := (readerB_iff.1 h).2.1; omega)
  have X2 := Lib.hid (show readerB room count ps nx (-1) = false by cases h : readerB room count ps nx (-1); rfl; have := (readerB_iff.1 h).2.2; omega)
  have hw : IntKind.i64.wrap (count + 1) = count + 1 := IntWalk.i64_in _ (by omega)
  have hlt1 : w1.heap.size < w3.heap.size := by omega
  clear hv
  go_wp2_with fail
  have K4 := (K3.push 37 #[.int .i64 (count + 1), .int .i64 lost, .bool wt] rfl).push 37 #[.int .i64 nx, .int .i64 (-1), .bool wt] rfl
  have ey : (w3.alloc (.cells #[.int .i64 (count + 1), .int .i64 lost, .bool wt] 37)).heap.size = w3.heap.size + 1 := World.size_alloc _ _
  clear K3 c0 f0 l0 c1 f1 l1
  refine (rdImpl _ _ _ _ _ _ _ _ _ K4.row h1 h2).mono ?_
  rintro e w5 ⟨rfl, hb⟩
  rw [X1.out]
  have K5 := K4.mem hb
  clear K4 hb
  have c0 := K5.b0.cells; have l0 := K5.b0.lt; have c3 := K5.b3.cells; have l3 := K5.b3.lt
  rw [ey] at c0 l0
  go_wp2_with fail
  refine (rdImpl _ _ _ _ _ _ _ _ _ K5.row h1 h2).mono ?_
  rintro e w6 ⟨rfl, hb⟩
  rw [X2.out]
  have K6 := K5.mem hb
  clear K5 hb c0 l0 c3 l3
  go_wp2_with fail
  go_ret
  exact ⟨rfl, K6.below⟩

end Go.Proofs.Ytaghejdanjenaaa
