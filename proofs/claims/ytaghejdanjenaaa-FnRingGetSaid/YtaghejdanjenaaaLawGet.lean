/-
  The law on RingGet: packets have the order of their numbers.
-/
import Derived.Test.YtaghejdanjenaaaGetCases
import Derived.Test.YtaghejdanjenaaaDrawRingGet
import Derived.Test.YtaghejdanjenaaaRingGetI
namespace Go.Proofs.Ytaghejdanjenaaa
open Go.RowKit
set_option linter.unusedSimpArgs false
set_option linter.unusedVariables false

set_option maxHeartbeats 2000000 in
theorem lawRingGet (A : Option Addr) (len cap : Nat) (w : World) (hl : len ≤ cap) (hm : cap ≤ maxLen) (hc : Code w w.heap.size A len) :
    Calls Try.prog 8 #[.slice A len cap] w fun e w' => e = .returned (.bool true) ∧ Below w.heap.size w w' := by
  have HC := Lib.hid hc
  clear hc
  have hm' : cap ≤ 9223372036854775807 := by unfold maxLen at hm; omega
  by_cases hbig : (1048576 : Int) < (len : Int)
  · go_enter Try.func8, Try.ntmps8
    go_wp2_with fail
    go_ret
    exact ⟨rfl, Below.refl _ _⟩
  go_enter Try.func8, Try.ntmps8
  go_wp2_with fail
  refine (drawRingGet_any A len cap w hl hm HC.out).mono ?_
  rintro e w1 ⟨room, count, A', cap', n, ps, rfl, hp, h1, h2, h3, h4, h5, B1⟩
  clear HC hl hm hm' hbig
  have K1 := (Sk.nil hp B1).push 25 #[.int .i64 room, .int .i64 count, .slice A' ps.length cap'] rfl
  clear hp B1
  rcases getF_cases (room := room) (count := count) (n := n) (ps := ps) with ⟨hg, -⟩ | ⟨p, i, hg, hv, g1, g2, gi, hpi⟩
  · have HV := Lib.hid (show optV (getF room count ps n) = .tuple #[.agg #[.int .i64 0, .int .i64 0, .int .i64 0, .int .i64 0, .bool false, .bool false], .bool false] by rw [hg]; rfl)
    clear hg
    go_wp2_with fail
    refine (getImpl _ _ _ _ _ _ _ K1.row h1 h2).mono ?_
    rintro e w2 ⟨rfl, hb⟩
    rw [HV.out]
    have K2 := (K1.mem hb).push 48 #[.int .i64 0, .int .i64 0, .int .i64 0, .int .i64 0, .bool false, .bool false] rfl
    have c0 := (K1.mem hb).b0.cells; have f0 := (K1.mem hb).b0.free; have l0 := (K1.mem hb).b0.lt
    clear K1 hb
    go_wp2_with fail
    clear c0 f0 l0
    refine (getSpec _ _ _ _ _ _ _ K2.row h1 h2).mono ?_
    rintro e w3 ⟨rfl, hb⟩
    rw [HV.out]
    have K3 := (K2.mem hb).push 48 #[.int .i64 0, .int .i64 0, .int .i64 0, .int .i64 0, .bool false, .bool false] rfl
    have c0 := (K2.mem hb).b0.cells; have f0 := (K2.mem hb).b0.free; have l0 := (K2.mem hb).b0.lt
    have c1 := (K2.mem hb).b1.cells; have f1 := (K2.mem hb).b1.free; have l1 := (K2.mem hb).b1.lt
    clear K2 hb
    go_wp2_with fail
    go_ret
    exact ⟨rfl, K3.below⟩
  · have HV := Lib.hid (show optV (getF room count ps n) = .tuple #[.agg #[.int .i64 p.wd, .int .i64 p.tm, .int .i64 p.ly, .int .i64 p.sz, .bool p.k, .bool p.l], .bool true] by rw [hg]; rfl)
    have hw : IntKind.i64.wrap (n + 1) = n + 1 := IntWalk.i64_in _ (by omega)
    rcases getF_cases (room := room) (count := count) (n := n + 1) (ps := ps) with ⟨hg2, -⟩ | ⟨q, j, hg2, -, k1, k2, kj, hqj⟩
    · have HV2 := Lib.hid (show optV (getF room count ps (n + 1)) = .tuple #[.agg #[.int .i64 0, .int .i64 0, .int .i64 0, .int .i64 0, .bool false, .bool false], .bool false] by rw [hg2]; rfl)
      clear hg hg2 hpi gi g1 g2
      go_wp2_with fail
      refine (getImpl _ _ _ _ _ _ _ K1.row h1 h2).mono ?_
      rintro e w2 ⟨rfl, hb⟩
      rw [HV.out]
      have K2 := (K1.mem hb).push 48 #[.int .i64 p.wd, .int .i64 p.tm, .int .i64 p.ly, .int .i64 p.sz, .bool p.k, .bool p.l] rfl
      have c0 := (K1.mem hb).b0.cells; have f0 := (K1.mem hb).b0.free; have l0 := (K1.mem hb).b0.lt
      clear K1 hb
      go_wp2_with fail
      clear c0 f0 l0
      refine (getSpec _ _ _ _ _ _ _ K2.row h1 h2).mono ?_
      rintro e w3 ⟨rfl, hb⟩
      rw [HV.out]
      have K3 := (K2.mem hb).push 48 #[.int .i64 p.wd, .int .i64 p.tm, .int .i64 p.ly, .int .i64 p.sz, .bool p.k, .bool p.l] rfl
      have c0 := (K2.mem hb).b0.cells; have f0 := (K2.mem hb).b0.free; have l0 := (K2.mem hb).b0.lt
      have c1 := (K2.mem hb).b1.cells; have f1 := (K2.mem hb).b1.free; have l1 := (K2.mem hb).b1.lt
      clear K2 hb
      go_wp2_with fail
      refine (getImpl _ _ _ _ _ _ _ K3.row h1 h2).mono ?_
      rintro e w4 ⟨rfl, hb⟩
      rw [HV2.out]
      have K4 := K3.mem hb
      clear K3 hb c0 f0 l0 c1 f1 l1
      go_wp2_with fail
      go_ret
      exact ⟨rfl, (K4.alloc _).below⟩
    · have HV2 := Lib.hid (show optV (getF room count ps (n + 1)) = .tuple #[.agg #[.int .i64 q.wd, .int .i64 q.tm, .int .i64 q.ly, .int .i64 q.sz, .bool q.k, .bool q.l], .bool true] by rw [hg2]; rfl)
      have hij : j = i + 1 := by omega
      subst hij
      have hlt := pvs_less (ringB_iff.1 hv).2.2.2 hpi hqj
      clear hg hg2 hpi hqj gi g1 g2 k1 k2 kj
      go_wp2_with fail
      refine (getImpl _ _ _ _ _ _ _ K1.row h1 h2).mono ?_
      rintro e w2 ⟨rfl, hb⟩
      rw [HV.out]
      have K2 := (K1.mem hb).push 48 #[.int .i64 p.wd, .int .i64 p.tm, .int .i64 p.ly, .int .i64 p.sz, .bool p.k, .bool p.l] rfl
      have c0 := (K1.mem hb).b0.cells; have f0 := (K1.mem hb).b0.free; have l0 := (K1.mem hb).b0.lt
      clear K1 hb
      go_wp2_with fail
      clear c0 f0 l0
      refine (getSpec _ _ _ _ _ _ _ K2.row h1 h2).mono ?_
      rintro e w3 ⟨rfl, hb⟩
      rw [HV.out]
      have K3 := (K2.mem hb).push 48 #[.int .i64 p.wd, .int .i64 p.tm, .int .i64 p.ly, .int .i64 p.sz, .bool p.k, .bool p.l] rfl
      have c0 := (K2.mem hb).b0.cells; have f0 := (K2.mem hb).b0.free; have l0 := (K2.mem hb).b0.lt
      have c1 := (K2.mem hb).b1.cells; have f1 := (K2.mem hb).b1.free; have l1 := (K2.mem hb).b1.lt
      clear K2 hb
      go_wp2_with fail
      refine (getImpl _ _ _ _ _ _ _ K3.row h1 h2).mono ?_
      rintro e w4 ⟨rfl, hb⟩
      rw [HV2.out]
      have K4 := K3.mem hb
      clear K3 hb c0 f0 l0 c1 f1 l1
      have c1 := K4.b1.cells; have l1 := K4.b1.lt
      go_wp2_with fail
      go_ret
      exact ⟨rfl, (K4.alloc _).below⟩

end Go.Proofs.Ytaghejdanjenaaa
