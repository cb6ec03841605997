/-
  The law on ReaderNew: a new reader begins with a whole beginning.
-/
import Derived.Test.YtaghejdanjenaaaGetCases
import Derived.Test.YtaghejdanjenaaaDrawRings
import Derived.Test.YtaghejdanjenaaaRingGetI
import Derived.Test.YtaghejdanjenaaaGoOn
namespace Go.Proofs.Ytaghejdanjenaaa
open Go.RowKit
set_option linter.unusedSimpArgs false
set_option linter.unusedVariables false

set_option maxHeartbeats 2000000 in
theorem lawReaderNew (A : Option Addr) (len cap : Nat) (w : World) (hl : len ≤ cap) (hm : cap ≤ maxLen) (hc : Code w w.heap.size A len) :
    Calls Try.prog 13 #[.slice A len cap] w fun e w' => e = .returned (.bool true) ∧ Below w.heap.size w w' := by
  have HC := Lib.hid hc
  clear hc
  have hm' : cap ≤ 9223372036854775807 := by unfold maxLen at hm; omega
  by_cases hbig : (1048576 : Int) < (len : Int)
  · go_enter Try.func13, Try.ntmps13
    go_wp2_with fail
    go_ret
    exact ⟨rfl, Below.refl _ _⟩
  go_enter Try.func13, Try.ntmps13
  go_wp2_with fail
  refine (drawReaderNew_any A len cap w hl hm HC.out).mono ?_
  rintro e w1 ⟨room, count, A', cap', ps, rfl, hp, h1, h2, h3, h4, B1⟩
  clear HC hl hm hm' hbig
  have K1 := (Sk.nil hp B1).push 25 #[.int .i64 room, .int .i64 count, .slice A' ps.length cap'] rfl
  clear hp B1
  cases hr : ringB room count ps
  · have HN := Lib.hid (newV_no hr)
    clear hr
    go_wp2_with fail
    refine (newImpl _ _ _ _ _ _ K1.row h1 h2).mono ?_
    rintro e w2 ⟨rfl, hb⟩
    rw [HN.out]
    have K2 := (K1.mem hb).push 37 #[.int .i64 0, .int .i64 0, .bool false] rfl
    have c0 := (K1.mem hb).b0.cells; have f0 := (K1.mem hb).b0.free; have l0 := (K1.mem hb).b0.lt
    clear K1 hb
    go_wp2_with fail
    clear c0 f0 l0
    refine (newSpec _ _ _ _ _ _ K2.row h1 h2).mono ?_
    rintro e w3 ⟨rfl, hb⟩
    rw [HN.out]
    have K3 := (K2.mem hb).push 37 #[.int .i64 0, .int .i64 0, .bool false] rfl
    have c0 := (K2.mem hb).b0.cells; have f0 := (K2.mem hb).b0.free; have l0 := (K2.mem hb).b0.lt
    have c1 := (K2.mem hb).b1.cells; have f1 := (K2.mem hb).b1.free; have l1 := (K2.mem hb).b1.lt
    clear K2 hb
    go_wp2_with fail
    go_ret
    exact ⟨rfl, K3.below⟩
  have hb0 := (ringB_iff.1 hr).2.1
  have hb1 := (ringB_iff.1 hr).2.2.1
  have hb2 := minI_le room count
  have hpv := (ringB_iff.1 hr).2.2.2
  have hLl := lastK_lt ps ps.length
  obtain ⟨L, hL⟩ : ∃ L, L = lastK ps ps.length := ⟨_, rfl⟩
  have HK := Lib.hid (show keyF ps = L by rw [keyF_yes hpv, hL])
  rw [← hL] at hLl
  by_cases h0 : L < 0
  · have hgo : goOnF count ps 0 = (count, true) := by unfold goOnF; rw [← hL, if_neg (by omega)]
    have HN := Lib.hid (show newV room count ps = .tuple #[.agg #[.int .i64 count, .int .i64 0, .bool true], .bool true] by rw [newV_yes hr, hgo])
    have HG := Lib.hid (getF_no (n := count) (show ¬ (ringB room count ps = true ∧ count - ps.length ≤ count ∧ count < count) by omega))
    have HR := Lib.hid (show readerB room count ps count 0 = true by rw [readerB_iff]; exact ⟨hr, by omega, by omega⟩)
    clear hr hb0 hb1 hb2 hpv hLl hL hgo
    go_wp2_with fail
    refine (newImpl _ _ _ _ _ _ K1.row h1 h2).mono ?_
    rintro e w2 ⟨rfl, hb⟩
    rw [HN.out]
    have K2 := (K1.mem hb).push 37 #[.int .i64 count, .int .i64 0, .bool true] rfl
    have c0 := (K1.mem hb).b0.cells; have f0 := (K1.mem hb).b0.free; have l0 := (K1.mem hb).b0.lt
    clear K1 hb
    go_wp2_with fail
    clear c0 f0 l0
    refine (newSpec _ _ _ _ _ _ K2.row h1 h2).mono ?_
    rintro e w3 ⟨rfl, hb⟩
    rw [HN.out]
    have K3 := (K2.mem hb).push 37 #[.int .i64 count, .int .i64 0, .bool true] rfl
    have c0 := (K2.mem hb).b0.cells; have f0 := (K2.mem hb).b0.free; have l0 := (K2.mem hb).b0.lt
    have c1 := (K2.mem hb).b1.cells; have f1 := (K2.mem hb).b1.free; have l1 := (K2.mem hb).b1.lt
    clear K2 hb
    go_wp2_with fail
    clear c0 f0 l0 c1 f1 l1
    refine (getImpl _ _ _ _ _ _ _ K3.row h1 h2).mono ?_
    rintro e w4 ⟨rfl, hb⟩
    rw [HG.out]
    have K4 := (K3.mem hb).push 48 #[.int .i64 0, .int .i64 0, .int .i64 0, .int .i64 0, .bool false, .bool false] rfl
    have c2 := (K3.mem hb).b2.cells; have f2 := (K3.mem hb).b2.free; have l2 := (K3.mem hb).b2.lt
    clear K3 hb
    go_wp2_with fail
    clear c2 f2 l2
    refine (keyImpl _ _ _ _ K4.row h1 h2).mono ?_
    rintro e w5 ⟨rfl, hb⟩
    rw [HK.out]
    have K5 := K4.mem hb
    clear K4 hb
    have c3 := K5.b3.cells; have f3 := K5.b3.free; have l3 := K5.b3.lt; have c2 := K5.b2.cells; have f2 := K5.b2.free; have l2 := K5.b2.lt
    go_wp2_with fail
    clear c3 f3 l3 c2 f2 l2
    refine (rdImpl _ _ _ _ _ _ _ _ _ K5.row h1 h2).mono ?_
    rintro e w6 ⟨rfl, hb⟩
    rw [HR.out]
    have K6 := K5.mem hb
    clear K5 hb
    have c0 := K6.b0.cells; have f0 := K6.b0.free; have l0 := K6.b0.lt
    have c3 := K6.b3.cells; have f3 := K6.b3.free; have l3 := K6.b3.lt; have c2 := K6.b2.cells; have f2 := K6.b2.free; have l2 := K6.b2.lt
    go_wp2_with fail
    go_ret
    exact ⟨rfl, K6.below⟩
  · have hkey : keyAt ps L.toNat = true := by rw [hL]; exact lastK_key (by omega)
    obtain ⟨p, hp⟩ : ∃ p, ps[L.toNat]? = some p := ⟨ps[L.toNat]'(by omega), List.getElem?_eq_getElem (by omega)⟩
    have hpk : p.k = true := by rw [keyAt_of hp] at hkey; exact hkey
    obtain ⟨M, hM⟩ : ∃ M : Int, M = count - (ps.length : Int) + L := ⟨_, rfl⟩
    have hgo : goOnF count ps 0 = (M, false) := by unfold goOnF; rw [← hL, if_pos (by omega), hM]
    have HN := Lib.hid (show newV room count ps = .tuple #[.agg #[.int .i64 M, .int .i64 0, .bool false], .bool true] by rw [newV_yes hr, hgo])
    have HG := Lib.hid (show optV (getF room count ps M) = .tuple #[.agg #[.int .i64 p.wd, .int .i64 p.tm, .int .i64 p.ly, .int .i64 p.sz, .bool true, .bool p.l], .bool true] by rw [getF_yes hr (show M = count - ps.length + (L.toNat : Nat) by omega) hp, hpk])
    have HR := Lib.hid (show readerB room count ps M 0 = true by rw [readerB_iff]; exact ⟨hr, by omega, by omega⟩)
    clear hr hb0 hb1 hb2 hpv hLl hL hgo hM hp hpk hkey
    go_wp2_with fail
    refine (newImpl _ _ _ _ _ _ K1.row h1 h2).mono ?_
    rintro e w2 ⟨rfl, hb⟩
    rw [HN.out]
    have K2 := (K1.mem hb).push 37 #[.int .i64 M, .int .i64 0, .bool false] rfl
    have c0 := (K1.mem hb).b0.cells; have f0 := (K1.mem hb).b0.free; have l0 := (K1.mem hb).b0.lt
    clear K1 hb
    go_wp2_with fail
    clear c0 f0 l0
    refine (newSpec _ _ _ _ _ _ K2.row h1 h2).mono ?_
    rintro e w3 ⟨rfl, hb⟩
    rw [HN.out]
    have K3 := (K2.mem hb).push 37 #[.int .i64 M, .int .i64 0, .bool false] rfl
    have c0 := (K2.mem hb).b0.cells; have f0 := (K2.mem hb).b0.free; have l0 := (K2.mem hb).b0.lt
    have c1 := (K2.mem hb).b1.cells; have f1 := (K2.mem hb).b1.free; have l1 := (K2.mem hb).b1.lt
    clear K2 hb
    go_wp2_with fail
    clear c0 f0 l0 c1 f1 l1
    refine (getImpl _ _ _ _ _ _ _ K3.row h1 h2).mono ?_
    rintro e w4 ⟨rfl, hb⟩
    rw [HG.out]
    have K4 := (K3.mem hb).push 48 #[.int .i64 p.wd, .int .i64 p.tm, .int .i64 p.ly, .int .i64 p.sz, .bool true, .bool p.l] rfl
    have c2 := (K3.mem hb).b2.cells; have f2 := (K3.mem hb).b2.free; have l2 := (K3.mem hb).b2.lt
    clear K3 hb
    go_wp2_with fail
    clear c2 f2 l2
    refine (keyImpl _ _ _ _ K4.row h1 h2).mono ?_
    rintro e w5 ⟨rfl, hb⟩
    rw [HK.out]
    have K5 := K4.mem hb
    clear K4 hb
    have c3 := K5.b3.cells; have f3 := K5.b3.free; have l3 := K5.b3.lt; have c2 := K5.b2.cells; have f2 := K5.b2.free; have l2 := K5.b2.lt
    go_wp2_with fail
    clear c3 f3 l3 c2 f2 l2
    refine (rdImpl _ _ _ _ _ _ _ _ _ K5.row h1 h2).mono ?_
    rintro e w6 ⟨rfl, hb⟩
    rw [HR.out]
    have K6 := K5.mem hb
    clear K5 hb
    have c0 := K6.b0.cells; have f0 := K6.b0.free; have l0 := K6.b0.lt
    have c3 := K6.b3.cells; have f3 := K6.b3.free; have l3 := K6.b3.lt; have c2 := K6.b2.cells; have f2 := K6.b2.free; have l2 := K6.b2.lt
    go_wp2_with fail
    go_ret
    exact ⟨rfl, K6.below⟩

end Go.Proofs.Ytaghejdanjenaaa
