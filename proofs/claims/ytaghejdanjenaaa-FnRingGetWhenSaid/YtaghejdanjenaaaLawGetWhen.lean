/-
  The law on RingGet: numbers are those that were put.
-/
import Derived.Test.YtaghejdanjenaaaGetCases
import Derived.Test.YtaghejdanjenaaaDrawRingGet
import Derived.Test.YtaghejdanjenaaaRingGetI
namespace Go.Proofs.Ytaghejdanjenaaa
open Go.RowKit
set_option linter.unusedSimpArgs false
set_option linter.unusedVariables false

set_option maxHeartbeats 2000000 in
theorem lawRingGetWhen (A : Option Addr) (len cap : Nat) (w : World) (hl : len ≤ cap) (hm : cap ≤ maxLen) (hc : Code w w.heap.size A len) :
    Calls Try.prog 9 #[.slice A len cap] w fun e w' => e = .returned (.bool true) ∧ Below w.heap.size w w' := by
  have HC := Lib.hid hc
  clear hc
  have hm' : cap ≤ 9223372036854775807 := by unfold maxLen at hm; omega
  by_cases hbig : (1048576 : Int) < (len : Int)
  · go_enter Try.func9, Try.ntmps9
    go_wp2_with fail
    go_ret
    exact ⟨rfl, Below.refl _ _⟩
  go_enter Try.func9, Try.ntmps9
  go_wp2_with fail
  refine (drawRingGet_any A len cap w hl hm HC.out).mono ?_
  rintro e w1 ⟨room, count, A', cap', n, ps, rfl, hp, h1, h2, h3, h4, h5, B1⟩
  clear HC hl hm hm' hbig
  have K1 := (Sk.nil hp B1).push 25 #[.int .i64 room, .int .i64 count, .slice A' ps.length cap'] rfl
  clear hp B1
  have hlen := h1
  cases hr : ringB room count ps
  · have HR := Lib.hid hr
    have HV := Lib.hid (getF_no (n := n) (show ¬ (ringB room count ps = true ∧ count - ps.length ≤ n ∧ n < count) by rw [hr]; simp))
    clear hr
    go_wp2_with fail
    refine (getImpl _ _ _ _ _ _ _ K1.row h1 h2).mono ?_
    rintro e w2 ⟨rfl, hb⟩
    rw [HV.out]
    have K2 := (K1.mem hb).push 48 #[.int .i64 0, .int .i64 0, .int .i64 0, .int .i64 0, .bool false, .bool false] rfl
    have c0 := (K1.mem hb).b0.cells; have f0 := (K1.mem hb).b0.free; have l0 := (K1.mem hb).b0.lt
    clear K1 hb
    go_wp2_with fail
    clear c0 f0 l0
    refine (getSpec _ _ _ _ _ _ _ K2.row h1 h2).mono ?_
    rintro e w3 ⟨rfl, hb⟩
    rw [HV.out]
    have K3 := (K2.mem hb).push 48 #[.int .i64 0, .int .i64 0, .int .i64 0, .int .i64 0, .bool false, .bool false] rfl
    have c0 := (K2.mem hb).b0.cells; have f0 := (K2.mem hb).b0.free; have l0 := (K2.mem hb).b0.lt
    have c1 := (K2.mem hb).b1.cells; have f1 := (K2.mem hb).b1.free; have l1 := (K2.mem hb).b1.lt
    clear K2 hb
    go_wp2_with fail
    refine (ringSpec _ _ _ _ _ _ K3.row h1 h2).mono ?_
    rintro e w4 ⟨rfl, hb⟩
    rw [HR.out]
    have K4 := K3.mem hb
    clear K3 hb c0 f0 l0 c1 f1 l1
    have c0 := K4.b0.cells; have l0 := K4.b0.lt; have c1 := K4.b1.cells; have l1 := K4.b1.lt; have c2 := K4.b2.cells; have l2 := K4.b2.lt
    go_wp2_with fail
    go_ret
    exact ⟨rfl, K4.below⟩
  have HR := Lib.hid hr
  have hb0 := (ringB_iff.1 hr).2.1
  have hb1 := (ringB_iff.1 hr).2.2.1
  have hb2 := minI_le room count
  have hw : IntKind.i64.wrap (count - (ps.length : Int)) = count - (ps.length : Int) := IntWalk.i64_in _ (by omega)
  by_cases g1 : count - (ps.length : Int) ≤ n
  · by_cases g2 : n < count
    · obtain ⟨i, hi⟩ : ∃ i : Nat, n = count - ps.length + i := ⟨(n - (count - ps.length)).toNat, by omega⟩
      obtain ⟨p, hp⟩ : ∃ p, ps[i]? = some p := ⟨ps[i]'(by omega), List.getElem?_eq_getElem (by omega)⟩
      have HV := Lib.hid (getF_yes hr hi hp)
      clear hr hb1 hb2 hi hp
      go_wp2_with fail
      refine (getImpl _ _ _ _ _ _ _ K1.row h1 h2).mono ?_
      rintro e w2 ⟨rfl, hb⟩
      rw [HV.out]
      have K2 := (K1.mem hb).push 48 #[.int .i64 p.wd, .int .i64 p.tm, .int .i64 p.ly, .int .i64 p.sz, .bool p.k, .bool p.l] rfl
      have c0 := (K1.mem hb).b0.cells; have f0 := (K1.mem hb).b0.free; have l0 := (K1.mem hb).b0.lt
      clear K1 hb
      go_wp2_with fail
      clear c0 f0 l0
      refine (getSpec _ _ _ _ _ _ _ K2.row h1 h2).mono ?_
      rintro e w3 ⟨rfl, hb⟩
      rw [HV.out]
      have K3 := (K2.mem hb).push 48 #[.int .i64 p.wd, .int .i64 p.tm, .int .i64 p.ly, .int .i64 p.sz, .bool p.k, .bool p.l] rfl
      have c0 := (K2.mem hb).b0.cells; have f0 := (K2.mem hb).b0.free; have l0 := (K2.mem hb).b0.lt
      have c1 := (K2.mem hb).b1.cells; have f1 := (K2.mem hb).b1.free; have l1 := (K2.mem hb).b1.lt
      clear K2 hb
      go_wp2_with fail
      refine (ringSpec _ _ _ _ _ _ K3.row h1 h2).mono ?_
      rintro e w4 ⟨rfl, hb⟩
      rw [HR.out]
      have K4 := K3.mem hb
      clear K3 hb c0 f0 l0 c1 f1 l1
      have c0 := K4.b0.cells; have l0 := K4.b0.lt; have c1 := K4.b1.cells; have l1 := K4.b1.lt; have c2 := K4.b2.cells; have l2 := K4.b2.lt
      go_wp2_with fail
      go_ret
      exact ⟨rfl, K4.below⟩
    · have HV := Lib.hid (getF_no (n := n) (show ¬ (ringB room count ps = true ∧ count - ps.length ≤ n ∧ n < count) by omega))
      have gd := decide_eq_false g2
      clear hr hb1 hb2
      go_wp2_with fail
      refine (getImpl _ _ _ _ _ _ _ K1.row h1 h2).mono ?_
      rintro e w2 ⟨rfl, hb⟩
      rw [HV.out]
      have K2 := (K1.mem hb).push 48 #[.int .i64 0, .int .i64 0, .int .i64 0, .int .i64 0, .bool false, .bool false] rfl
      have c0 := (K1.mem hb).b0.cells; have f0 := (K1.mem hb).b0.free; have l0 := (K1.mem hb).b0.lt
      clear K1 hb
      go_wp2_with fail
      clear c0 f0 l0
      refine (getSpec _ _ _ _ _ _ _ K2.row h1 h2).mono ?_
      rintro e w3 ⟨rfl, hb⟩
      rw [HV.out]
      have K3 := (K2.mem hb).push 48 #[.int .i64 0, .int .i64 0, .int .i64 0, .int .i64 0, .bool false, .bool false] rfl
      have c0 := (K2.mem hb).b0.cells; have f0 := (K2.mem hb).b0.free; have l0 := (K2.mem hb).b0.lt
      have c1 := (K2.mem hb).b1.cells; have f1 := (K2.mem hb).b1.free; have l1 := (K2.mem hb).b1.lt
      clear K2 hb
      go_wp2_with fail
      refine (ringSpec _ _ _ _ _ _ K3.row h1 h2).mono ?_
      rintro e w4 ⟨rfl, hb⟩
      rw [HR.out]
      have K4 := K3.mem hb
      clear K3 hb c0 f0 l0 c1 f1 l1
      have c0 := K4.b0.cells; have l0 := K4.b0.lt; have c1 := K4.b1.cells; have l1 := K4.b1.lt; have c2 := K4.b2.cells; have l2 := K4.b2.lt
      go_wp2_with fail
      go_ret
      exact ⟨rfl, K4.below⟩
  · have HV := Lib.hid (getF_no (n := n) (show ¬ (ringB room count ps = true ∧ count - ps.length ≤ n ∧ n < count) by omega))
    have gd := decide_eq_false g1
    clear hr hb1 hb2
    go_wp2_with fail
    refine (getImpl _ _ _ _ _ _ _ K1.row h1 h2).mono ?_
    rintro e w2 ⟨rfl, hb⟩
    rw [HV.out]
    have K2 := (K1.mem hb).push 48 #[.int .i64 0, .int .i64 0, .int .i64 0, .int .i64 0, .bool false, .bool false] rfl
    have c0 := (K1.mem hb).b0.cells; have f0 := (K1.mem hb).b0.free; have l0 := (K1.mem hb).b0.lt
    clear K1 hb
    go_wp2_with fail
    clear c0 f0 l0
    refine (getSpec _ _ _ _ _ _ _ K2.row h1 h2).mono ?_
    rintro e w3 ⟨rfl, hb⟩
    rw [HV.out]
    have K3 := (K2.mem hb).push 48 #[.int .i64 0, .int .i64 0, .int .i64 0, .int .i64 0, .bool false, .bool false] rfl
    have c0 := (K2.mem hb).b0.cells; have f0 := (K2.mem hb).b0.free; have l0 := (K2.mem hb).b0.lt
    have c1 := (K2.mem hb).b1.cells; have f1 := (K2.mem hb).b1.free; have l1 := (K2.mem hb).b1.lt
    clear K2 hb
    go_wp2_with fail
    refine (ringSpec _ _ _ _ _ _ K3.row h1 h2).mono ?_
    rintro e w4 ⟨rfl, hb⟩
    rw [HR.out]
    have K4 := K3.mem hb
    clear K3 hb c0 f0 l0 c1 f1 l1
    have c0 := K4.b0.cells; have l0 := K4.b0.lt; have c1 := K4.b1.cells; have l1 := K4.b1.lt; have c2 := K4.b2.cells; have l2 := K4.b2.lt
    go_wp2_with fail
    go_ret
    exact ⟨rfl, K4.below⟩

end Go.Proofs.Ytaghejdanjenaaa
