/-
  The law on ReaderAll: packets are read in order.
-/
import Derived.Test.YtlnhnljckceeaaaAllLaw
import Derived.Test.YtlnhnljckceeaaaAllSpec
import Derived.Test.YtlnhnljckceeaaaAllImpl
import Derived.Test.YtlnhnljckceeaaaSamePks
import Derived.Test.YtlnhnljckceeaaaDrawRdA
namespace Go.Proofs.Ytlnhnljckceeaaa
open Go.RowKit
set_option linter.unusedSimpArgs false
set_option linter.unusedVariables false

set_option maxHeartbeats 4000000 in
theorem lawAllOrder (A : Option Addr) (len cap : Nat) (w : World) (hl : len ≤ cap) (hm : cap ≤ maxLen) (hc : Code w w.heap.size A len) :
    Calls Try.prog 10 #[.slice A len cap] w fun e w' => e = .returned (.bool true) ∧ Below w.heap.size w w' := by
  have HC := Lib.hid hc
  clear hc
  have hm' : cap ≤ 9223372036854775807 := by unfold maxLen at hm; omega
  by_cases hbig : (1048576 : Int) < (len : Int)
  · go_enter Try.func10, Try.ntmps10
    go_wp2_with fail
    go_ret
    exact ⟨rfl, Below.refl _ _⟩
  go_enter Try.func10, Try.ntmps10
  go_wp2_with fail
  refine (drawReaderAll_any A len cap w hl hm HC.out).mono ?_
  rintro e w1 ⟨room, count, A', cap', nx, lost, wt, ps, rfl, hp, h1, h2, h3, h4, h5, h6, B1⟩
  clear HC hl hm hm' hbig
  have K1 := ((Sk.nil hp B1).push 25 #[.int .i64 room, .int .i64 count, .slice A' ps.length cap'] rfl).push (b := w1.heap.size + 1) 27 #[.int .i64 nx, .int .i64 lost, .bool wt] (by simp)
  clear hp B1
  cases hv : readerB room count ps nx lost
  · have HV := Lib.hid hv
    clear hv
    go_wp2_with fail
    refine (allImpl _ _ _ _ _ _ _ _ _ K1.row h1 h2).mono ?_
    rintro e w2 ⟨A2, cap2, a, b, c, l, rfl, hR, q2, k21, k22, hb⟩
    rw [HV.out, if_neg (by simp)] at hR
    rw [HV.out]
    simp only [Prod.mk.injEq] at hR
    obtain ⟨rfl, rfl, rfl, rfl⟩ := hR
    have K1b := K1.mem hb
    have c0 := K1b.b0.cells; have f0 := K1b.b0.free; have l0 := K1b.b0.lt; have c1 := K1b.b1.cells; have f1 := K1b.b1.free; have l1 := K1b.b1.lt
    have K2 := K1b.push 27 #[.int .i64 0, .int .i64 0, .bool false] rfl
    have Q2 := q2.alloc (.cells #[.int .i64 0, .int .i64 0, .bool false] 27)
    clear K1 K1b q2 hb
    go_wp2_with fail
    clear c0 f0 l0 c1 f1 l1
    refine (allSpec _ _ _ _ _ _ _ _ _ K2.row h1 h2).mono ?_
    rintro e w3 ⟨A3, cap3, a', b', c', l', rfl, hR, q3, k31, k32, hb⟩
    rw [HV.out, if_neg (by simp)] at hR
    rw [HV.out]
    simp only [Prod.mk.injEq] at hR
    obtain ⟨rfl, rfl, rfl, rfl⟩ := hR
    have K2b := K2.mem hb
    have c0 := K2b.b0.cells; have f0 := K2b.b0.free; have l0 := K2b.b0.lt
    have c1 := K2b.b1.cells; have f1 := K2b.b1.free; have l1 := K2b.b1.lt
    have c2 := K2b.b2.cells; have f2 := K2b.b2.free; have l2 := K2b.b2.lt
    have K3 := K2b.push 27 #[.int .i64 0, .int .i64 0, .bool false] rfl
    have Q2' := (Q2.mem hb).alloc (.cells #[.int .i64 0, .int .i64 0, .bool false] 27)
    have Q3 := q3.alloc (.cells #[.int .i64 0, .int .i64 0, .bool false] 27)
    clear K2 K2b Q2 q3 hb
    go_wp2_with fail
    refine (samePks _ _ _ _ _ _ Q2' Q3 k21 k22).mono ?_
    rintro e w4 ⟨rfl, hb⟩
    have K4 := K3.mem hb
    have Q2a := Q2'.mem hb
    have Q3a := Q3.mem hb
    clear K3 hb Q2' Q3 c0 f0 l0 c1 f1 l1 c2 f2 l2
    have c0 := K4.b0.cells; have f0 := K4.b0.free; have l0 := K4.b0.lt
    have c1 := K4.b1.cells; have f1 := K4.b1.free; have l1 := K4.b1.lt
    have c2 := K4.b2.cells; have f2 := K4.b2.free; have l2 := K4.b2.lt
    have c3 := K4.b3.cells; have f3 := K4.b3.free; have l3 := K4.b3.lt
    go_wp2_with fail
    refine (samePks _ _ _ _ _ _ Q2a Q3a k21 k22).mono ?_
    rintro e w5 ⟨rfl, hb⟩
    have K5 := K4.mem hb
    clear K4 hb c0 f0 l0 c1 f1 l1 c2 f2 l2 c3 f3 l3
    go_wp2_with fail
    go_ret
    exact ⟨rfl, K5.below⟩
  have HV := Lib.hid hv
  go_wp2_with fail
  refine (allImpl _ _ _ _ _ _ _ _ _ K1.row h1 h2).mono ?_
  rintro e w2 ⟨A2, cap2, a, b, c, l, rfl, hR, q2, k21, k22, hb⟩
  rw [HV.out, if_pos rfl] at hR
  rw [HV.out]
  have HR := Lib.hid hR
  clear hR
  have K1b := K1.mem hb
  have c0 := K1b.b0.cells; have f0 := K1b.b0.free; have l0 := K1b.b0.lt; have c1 := K1b.b1.cells; have f1 := K1b.b1.free; have l1 := K1b.b1.lt
  have K2 := K1b.push 27 #[.int .i64 a, .int .i64 b, .bool c] rfl
  have Q2 := q2.alloc (.cells #[.int .i64 a, .int .i64 b, .bool c] 27)
  clear K1 K1b q2 hb
  go_wp2_with fail
  clear c0 f0 l0 c1 f1 l1
  refine (allSpec _ _ _ _ _ _ _ _ _ K2.row h1 h2).mono ?_
  rintro e w3 ⟨A3, cap3, a', b', c', l', rfl, hR, q3, k31, k32, hb⟩
  rw [HV.out, if_pos rfl] at hR
  rw [HV.out]
  obtain ⟨rfl, rfl, rfl, rfl⟩ : a' = a ∧ b' = b ∧ c' = c ∧ l' = l := by have := hR.trans HR.out.symm; simpa using this
  clear hR
  have K2b := K2.mem hb
  have c0 := K2b.b0.cells; have f0 := K2b.b0.free; have l0 := K2b.b0.lt
  have c1 := K2b.b1.cells; have f1 := K2b.b1.free; have l1 := K2b.b1.lt
  have c2 := K2b.b2.cells; have f2 := K2b.b2.free; have l2 := K2b.b2.lt
  have K3 := K2b.push 27 #[.int .i64 a', .int .i64 b', .bool c'] rfl
  have Q2' := (Q2.mem hb).alloc (.cells #[.int .i64 a', .int .i64 b', .bool c'] 27)
  have Q3 := q3.alloc (.cells #[.int .i64 a', .int .i64 b', .bool c'] 27)
  clear K2 K2b Q2 q3 hb
  go_wp2_with fail
  refine (samePks _ _ _ _ _ _ Q2' Q3 k21 k22).mono ?_
  rintro e w4 ⟨rfl, hb⟩
  have K4 := K3.mem hb
  have Q2a := Q2'.mem hb
  have Q3a := Q3.mem hb
  clear K3 hb Q2' Q3 c0 f0 l0 c1 f1 l1 c2 f2 l2
  have c0 := K4.b0.cells; have f0 := K4.b0.free; have l0 := K4.b0.lt
  have c1 := K4.b1.cells; have f1 := K4.b1.free; have l1 := K4.b1.lt
  have c2 := K4.b2.cells; have f2 := K4.b2.free; have l2 := K4.b2.lt
  have c3 := K4.b3.cells; have f3 := K4.b3.free; have l3 := K4.b3.lt
  obtain ⟨-, -, hle, hdr, -⟩ := all_law HV.out HR.out
  obtain ⟨k, hk⟩ : ∃ k, k = ps.length - l'.length := ⟨_, rfl⟩
  rw [← hk] at hdr
  have w1_ : IntKind.i64.wrap ((ps.length : Int) - (l'.length : Int)) = (k : Int) := by rw [IntWalk.i64_in _ (by omega)]; omega
  have k0 : (0 : Int) ≤ (k : Int) := by omega
  have kp : (k : Int) ≤ (ps.length : Int) := by omega
  have kc : (k : Int) ≤ (cap' : Int) := by omega
  have pc : (ps.length : Int) ≤ (cap' : Int) := by omega
  have hkl : ps.length - k = l'.length := by omega
  by_cases h0 : 0 < ps.length
  · obtain ⟨b0, off, rfl, hbB, hrow⟩ := K4.row h0
    obtain ⟨o2, ho2, hr2⟩ : ∃ o2, (if cap' = k then (some ⟨b0, off, none⟩ : Option Addr) else some ⟨b0, off + k * 6, none⟩) = some ⟨b0, o2, none⟩ ∧ (∀ (j : Nat) (p : Pk), (ps.drop k)[j]? = some p → Six w4 b0 (o2 + j * 6) p) := by
      by_cases hcc : cap' = k
      · exact ⟨off, if_pos hcc, fun j p hj => by rw [List.getElem?_drop, List.getElem?_eq_none (by omega)] at hj; cases hj⟩
      · refine ⟨off + k * 6, if_neg hcc, fun j p hj => ?_⟩
        rw [List.getElem?_drop] at hj
        have := hrow _ p hj
        rwa [show off + (k + j) * 6 = off + k * 6 + j * 6 by omega] at this
    have PX : PkRow w4 w4.heap.size (some ⟨b0, o2, none⟩) l' := hdr ▸ fun _ => ⟨b0, o2, rfl, hbB, hr2⟩
    have hc9 : l'.length ≤ cap' - k := by omega
    have hc8 : cap' - k ≤ 9223372036854775807 := by omega
    have HX := Lib.hid (And.intro PX (And.intro hc9 hc8))
    have HKL := Lib.hid hkl
    clear hv hle hk hrow hr2 PX hc9 hc8 hdr h0 hkl
    go_wp2_with fail
    rw [HKL.out]
    refine (samePks _ _ _ _ _ _ HX.out.1 Q2a HX.out.2.1 HX.out.2.2).mono ?_
    rintro e w5 ⟨rfl, hb⟩
    have K5 := K4.mem hb
    clear K4 hb c0 f0 l0 c1 f1 l1 c2 f2 l2 c3 f3 l3
    go_wp2_with fail
    go_ret
    exact ⟨rfl, K5.below⟩
  · have hz : ps.length = 0 := by omega
    have hz1 : l'.length = 0 := by omega
    have hz2 : l' = [] := List.eq_nil_of_length_eq_zero hz1
    have hz3 : ps = [] := List.eq_nil_of_length_eq_zero hz
    have hz4 : k = 0 := by omega
    subst hz2; subst hz3; subst hz4
    have w1_ : IntKind.i64.wrap 0 = 0 := IntWalk.i64_in _ (by omega)
    clear hv hle hk hdr h0 hkl hz hz1 k0 kp kc pc
    go_wp2_with fail
    refine (samePks A' A2 [] cap' cap2 w4 (PkRow.nil _ _ _) (PkRow.nil _ _ _) (Nat.zero_le _) h2).mono ?_
    rintro e w5 ⟨rfl, hb⟩
    have K5 := K4.mem hb
    clear K4 hb c0 f0 l0 c1 f1 l1 c2 f2 l2 c3 f3 l3
    go_wp2_with fail
    go_ret
    exact ⟨rfl, K5.below⟩

end Go.Proofs.Ytlnhnljckceeaaa
