/-
  The law on RingOldest: nothing older is there.
-/
import Derived.Test.YtaghejdanjenaaaGetCases
import Derived.Test.YtaghejdanjenaaaDrawRings
import Derived.Test.YtaghejdanjenaaaRingGetI
namespace Go.Proofs.Ytaghejdanjenaaa
open Go.RowKit
set_option linter.unusedSimpArgs false
set_option linter.unusedVariables false

set_option maxHeartbeats 2000000 in
theorem lawOldest (A : Option Addr) (len cap : Nat) (w : World) (hl : len ≤ cap) (hm : cap ≤ maxLen) (hc : Code w w.heap.size A len) :
    Calls Try.prog 10 #[.slice A len cap] w fun e w' => e = .returned (.bool true) ∧ Below w.heap.size w w' := by
  have HC := Lib.hid hc
  clear hc
  have hm' : cap ≤ 9223372036854775807 := by unfold maxLen at hm; omega
  by_cases hbig : (1048576 : Int) < (len : Int)
  · go_enter Try.func10, Try.ntmps10
    go_wp2_with fail
    go_ret
    exact ⟨rfl, Below.refl _ _⟩
  go_enter Try.func10, Try.ntmps10
  go_wp2_with fail
  refine (drawRingOldest_any A len cap w hl hm HC.out).mono ?_
  rintro e w1 ⟨room, count, A', cap', ps, rfl, hp, h1, h2, h3, h4, B1⟩
  clear HC hl hm hm' hbig
  have K1 := (Sk.nil hp B1).push 25 #[.int .i64 room, .int .i64 count, .slice A' ps.length cap'] rfl
  clear hp B1
  cases hr : ringB room count ps
  · have HO := Lib.hid (show oldF room count ps = -1 by unfold oldF; rw [hr]; rfl)
    clear hr
    go_wp2_with fail
    refine (oldImpl _ _ _ _ _ _ K1.row h1 h2).mono ?_
    rintro e w2 ⟨rfl, hb⟩
    rw [HO.out]
    have K2 := K1.mem hb
    clear K1 hb
    have c0 := K2.b0.cells; have f0 := K2.b0.free; have l0 := K2.b0.lt
    go_wp2_with fail
    clear c0 f0 l0
    refine (oldSpec _ _ _ _ _ _ K2.row h1 h2).mono ?_
    rintro e w3 ⟨rfl, hb⟩
    rw [HO.out]
    have K3 := K2.mem hb
    clear K2 hb
    have c0 := K3.b0.cells; have f0 := K3.b0.free; have l0 := K3.b0.lt
    go_wp2_with fail
    go_ret
    exact ⟨rfl, K3.below⟩
  have hb0 := (ringB_iff.1 hr).2.1
  have hb1 := (ringB_iff.1 hr).2.2.1
  have hb2 := minI_le room count
  obtain ⟨O, hO⟩ : ∃ O : Int, O = count - (ps.length : Int) := ⟨_, rfl⟩
  have hO0 : 0 ≤ O ∧ O ≤ 999999 := by omega
  have HO := Lib.hid (show oldF room count ps = O by unfold oldF; rw [hr, hO]; rfl)
  have hw : IntKind.i64.wrap (O - 1) = O - 1 := IntWalk.i64_in _ (by omega)
  have HG1 := Lib.hid (getF_no (n := O - 1) (show ¬ (ringB room count ps = true ∧ count - ps.length ≤ O - 1 ∧ O - 1 < count) by omega))
  have HG3 := Lib.hid (getF_no (n := count) (show ¬ (ringB room count ps = true ∧ count - ps.length ≤ count ∧ count < count) by omega))
  by_cases h0 : 0 < ps.length
  · obtain ⟨p, hp⟩ : ∃ p, ps[0]? = some p := ⟨ps[0], List.getElem?_eq_getElem h0⟩
    have HG2 := Lib.hid (getF_yes (n := O) hr (show O = count - ps.length + ((0 : Nat) : Int) by omega) hp)
    have hOc : O < count := by omega
    clear hr hb0 hb1 hb2 hO h0 hp
    go_wp2_with fail
    refine (oldImpl _ _ _ _ _ _ K1.row h1 h2).mono ?_
    rintro e w2 ⟨rfl, hb⟩
    rw [HO.out]
    have K2 := K1.mem hb
    clear K1 hb
    have c0 := K2.b0.cells; have f0 := K2.b0.free; have l0 := K2.b0.lt
    go_wp2_with fail
    clear c0 f0 l0
    refine (oldSpec _ _ _ _ _ _ K2.row h1 h2).mono ?_
    rintro e w3 ⟨rfl, hb⟩
    rw [HO.out]
    have K3 := K2.mem hb
    clear K2 hb
    have c0 := K3.b0.cells; have f0 := K3.b0.free; have l0 := K3.b0.lt
    go_wp2_with fail
    clear c0 f0 l0
    refine (getImpl _ _ _ _ _ _ _ K3.row h1 h2).mono ?_
    rintro e w4 ⟨rfl, hb⟩
    rw [HG1.out]
    have K4 := (K3.mem hb).push 48 #[.int .i64 0, .int .i64 0, .int .i64 0, .int .i64 0, .bool false, .bool false] rfl
    have c0 := (K3.mem hb).b0.cells; have f0 := (K3.mem hb).b0.free; have l0 := (K3.mem hb).b0.lt
    clear K3 hb
    go_wp2_with fail
    clear c0 f0 l0
    refine (getImpl _ _ _ _ _ _ _ K4.row h1 h2).mono ?_
    rintro e w5 ⟨rfl, hb⟩
    rw [HG2.out]
    have K5 := (K4.mem hb).push 48 #[.int .i64 p.wd, .int .i64 p.tm, .int .i64 p.ly, .int .i64 p.sz, .bool p.k, .bool p.l] rfl
    have c1 := (K4.mem hb).b1.cells; have f1 := (K4.mem hb).b1.free; have l1 := (K4.mem hb).b1.lt
    clear K4 hb
    go_wp2_with fail
    clear c1 f1 l1
    refine (getImpl _ _ _ _ _ _ _ K5.row h1 h2).mono ?_
    rintro e w6 ⟨rfl, hb⟩
    rw [HG3.out]
    have K6 := K5.mem hb
    have c2 := K6.b2.cells; have f2 := K6.b2.free; have l2 := K6.b2.lt
    clear K5 hb
    go_wp2_with fail
    go_ret
    exact ⟨rfl, (K6.alloc _).below⟩
  · have HG2 := Lib.hid (getF_no (n := O) (show ¬ (ringB room count ps = true ∧ count - ps.length ≤ O ∧ O < count) by omega))
    have hOc : ¬ O < count := by omega
    have hOd := decide_eq_false hOc
    clear hr hb0 hb1 hb2 hO h0
    go_wp2_with fail
    refine (oldImpl _ _ _ _ _ _ K1.row h1 h2).mono ?_
    rintro e w2 ⟨rfl, hb⟩
    rw [HO.out]
    have K2 := K1.mem hb
    clear K1 hb
    have c0 := K2.b0.cells; have f0 := K2.b0.free; have l0 := K2.b0.lt
    go_wp2_with fail
    clear c0 f0 l0
    refine (oldSpec _ _ _ _ _ _ K2.row h1 h2).mono ?_
    rintro e w3 ⟨rfl, hb⟩
    rw [HO.out]
    have K3 := K2.mem hb
    clear K2 hb
    have c0 := K3.b0.cells; have f0 := K3.b0.free; have l0 := K3.b0.lt
    go_wp2_with fail
    clear c0 f0 l0
    refine (getImpl _ _ _ _ _ _ _ K3.row h1 h2).mono ?_
    rintro e w4 ⟨rfl, hb⟩
    rw [HG1.out]
    have K4 := (K3.mem hb).push 48 #[.int .i64 0, .int .i64 0, .int .i64 0, .int .i64 0, .bool false, .bool false] rfl
    have c0 := (K3.mem hb).b0.cells; have f0 := (K3.mem hb).b0.free; have l0 := (K3.mem hb).b0.lt
    clear K3 hb
    go_wp2_with fail
    clear c0 f0 l0
    refine (getImpl _ _ _ _ _ _ _ K4.row h1 h2).mono ?_
    rintro e w5 ⟨rfl, hb⟩
    rw [HG2.out]
    have K5 := (K4.mem hb).push 48 #[.int .i64 0, .int .i64 0, .int .i64 0, .int .i64 0, .bool false, .bool false] rfl
    have c1 := (K4.mem hb).b1.cells; have f1 := (K4.mem hb).b1.free; have l1 := (K4.mem hb).b1.lt
    clear K4 hb
    go_wp2_with fail
    clear c1 f1 l1
    refine (getImpl _ _ _ _ _ _ _ K5.row h1 h2).mono ?_
    rintro e w6 ⟨rfl, hb⟩
    rw [HG3.out]
    have K6 := K5.mem hb
    have c2 := K6.b2.cells; have f2 := K6.b2.free; have l2 := K6.b2.lt
    clear K5 hb
    go_wp2_with fail
    go_ret
    exact ⟨rfl, (K6.alloc _).below⟩

end Go.Proofs.Ytaghejdanjenaaa
