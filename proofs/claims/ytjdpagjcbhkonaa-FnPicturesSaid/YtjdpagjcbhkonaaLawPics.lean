/-
  The law on the packets and the bytes of the pictures.
-/
import Derived.Test.YtjdpagjcbhkonaaPicFacts
import Derived.Test.YtjdpagjcbhkonaaPicImpl
import Derived.Test.YtjdpagjcbhkonaaPicSpec
import Derived.Test.YtjdpagjcbhkonaaSamePics
import Derived.Test.YtjdpagjcbhkonaaDrawPics
namespace Go.Proofs.Ytjdpagjcbhkonaa
open Go.RowKit
set_option linter.unusedSimpArgs false
set_option linter.unusedVariables false

set_option maxRecDepth 100000 in
set_option maxHeartbeats 4000000 in
theorem lawPics (A : Option Addr) (len cap : Nat) (w : World) (hl : len ≤ cap) (hm : cap ≤ maxLen) (hc : Code w w.heap.size A len) :
    Calls Try.prog 6 #[.slice A len cap] w fun e w' => e = .returned (.bool true) ∧ Below w.heap.size w w' := by
  have HC := Lib.hid hc
  clear hc
  have hm' : cap ≤ 9223372036854775807 := by unfold maxLen at hm; omega
  by_cases hbig : (1048576 : Int) < (len : Int)
  · go_enter Try.func6, Try.ntmps6
    go_wp2_with fail
    go_ret
    exact ⟨rfl, Below.refl _ _⟩
  go_enter Try.func6, Try.ntmps6
  go_wp2_with fail
  refine (drawPics_any A len cap w hl hm HC.out).mono ?_
  rintro e w1 ⟨A', ps, cap', rfl, h1, h2, h3, hp1, B1⟩
  clear HC hl hm hm' hbig
  go_wp2_with fail
  refine (picsImpl _ _ _ _ hp1 h1 h2).mono ?_
  rintro e w2 ⟨v2, rfl, ho2, hb2⟩
  have hp2 := hp1.mem hb2
  have B2 := Fr.step B1 hb2
  obtain ⟨A2, cap2, rfl, k1, k2, q2⟩ := ho2.row
  clear hp1 B1 hb2 ho2
  go_wp2_with fail
  refine (picsSpec _ _ _ _ hp2 h1 h2).mono ?_
  rintro e w3 ⟨v3, rfl, ho3, hb3⟩
  have hp3 := hp2.mem hb3
  have B3 := Fr.step B2 hb3
  have q3 := q2.mem hb3
  obtain ⟨A3, cap3, rfl, k3, k4, r3⟩ := ho3.row
  clear hp2 B2 hb3 ho3 q2
  unfold maxLen at k2 k4
  have hql := pics_len ps
  obtain ⟨qs, hqs⟩ : ∃ qs, qs = pics ps := ⟨_, rfl⟩
  rw [← hqs] at q3 r3 k1 k3 hql ⊢
  have HQ := Lib.hid hqs
  clear hqs
  have k2' : cap2 ≤ 9223372036854775807 := by omega
  cases hv : pvsB ps
  · have HV := Lib.hid hv
    clear hv
    go_wp2_with fail
    refine (samePics _ _ _ _ _ _ q3 r3 k1 k2').mono ?_
    rintro e w4 ⟨rfl, hb4⟩
    have hp4 := hp3.mem hb4
    have B4 := Fr.step B3 hb4
    have q4 := q3.mem hb4
    have r4 := r3.mem hb4
    clear hp3 B3 hb4 q3 r3
    go_wp2_with fail
    refine (pvsSpec _ _ _ _ hp4 h1 h2).mono ?_
    rintro e w5 ⟨rfl, hb5⟩
    rw [HV.out]
    have hp5 := hp4.mem hb5
    have B5 := Fr.step B4 hb5
    have q5 := q4.mem hb5
    have r5 := r4.mem hb5
    clear hp4 B4 hb5 q4 r4
    go_wp2_with fail
    refine (samePics _ _ _ _ _ _ q5 r5 k1 k2').mono ?_
    rintro e w6 ⟨rfl, hb6⟩
    have B6 := Fr.step B5 hb6
    clear hp5 B5 hb6 q5 r5
    go_wp2_with fail
    go_ret
    exact ⟨rfl, B6⟩
  have HV := Lib.hid hv
  clear hv
  go_wp2_with fail
  refine (samePics _ _ _ _ _ _ q3 r3 k1 k2').mono ?_
  rintro e w4 ⟨rfl, hb4⟩
  have hp4 := hp3.mem hb4
  have B4 := Fr.step B3 hb4
  have q4 := q3.mem hb4
  have r4 := r3.mem hb4
  clear hp3 B3 hb4 q3 r3
  go_wp2_with fail
  refine (pvsSpec _ _ _ _ hp4 h1 h2).mono ?_
  rintro e w5 ⟨rfl, hb5⟩
  rw [HV.out]
  have hp5 := hp4.mem hb5
  have B5 := Fr.step B4 hb5
  have q5 := q4.mem hb5
  have r5 := r4.mem hb5
  clear hp4 B4 hb5 q4 r4
  have H4 := Lib.hid (And.intro hp5 (And.intro q5 B5))
  clear hp5 r5 q5 B5 k3 k4
  go_wp2_with fail
  go_loopw [6, 7, 8] (fun c cs c' wr => ∃ i : Nat, i ≤ qs.length ∧ c' = .int .i64 (i : Int) ∧ c = .int .i64 (bg ps i : Int) ∧ cs = .int .i64 (szTo ps (bg ps i)) ∧ Below w5.heap.size w5 wr) (fun _ _ c' _ => qs.length - (intOf c').toNat)
  case atStart => exact ⟨0, Nat.zero_le _, rfl, by rw [bg_zero]; rfl, by rw [bg_zero]; rfl, Below.refl _ _⟩
  case round =>
    obtain ⟨i, hi, rfl, rfl, rfl, hbel⟩ := hrel
    by_cases hlt : i < qs.length
    · have hlt' := hlt
      rw [HQ.out] at hlt'
      obtain ⟨hpi, hst, htl, hno, hye⟩ := pics_at hlt'
      rw [← HQ.out] at hpi
      have HPA := Lib.hid (And.intro hpi (And.intro hno hye))
      clear hlt' hpi hno hye
      obtain ⟨s, hs⟩ : ∃ s, s = bg ps i := ⟨_, rfl⟩
      obtain ⟨t, ht⟩ : ∃ t, t = bg ps (i + 1) := ⟨_, rfl⟩
      rw [← hs] at hst ⊢
      rw [← ht] at hst htl
      have HST := Lib.hid (And.intro hs ht)
      clear hs ht
      obtain ⟨b, off, rfl, hbB, hrow⟩ := H4.out.1 (by omega)
      obtain ⟨b2, off2, rfl, hbB2, hrow2⟩ := H4.out.2.1 (by omega)
      have HR := Lib.hid (fun j p (hj : ps[j]? = some p) => (hrow j p hj).keep (w' := wr) fun k => hbel.cell (p := ⟨b, k, none⟩) hbB)
      have HR2 := Lib.hid (fun j p (hj : qs[j]? = some p) => (hrow2 j p hj).keep (w' := wr) fun k => hbel.cell (p := ⟨b2, k, none⟩) hbB2)
      clear hrow hrow2
      have hsz := hbel.size
      have hbr1 : b + 1 ≤ wr.heap.size := by omega
      have hbr2 : b2 + 1 ≤ wr.heap.size := by omega
      obtain ⟨P, hP⟩ : ∃ P, P = pk ps s := ⟨_, rfl⟩
      obtain ⟨c0, c1, c2, c3, c4, c5⟩ := HR.out s P (by rw [hP]; exact pk_at (by omega))
      obtain ⟨d0, d1, d2, d3, d4⟩ := HR2.out i _ HPA.out.1
      rw [← HST.out.1, ← HST.out.2] at d0 d1 d2 d3 d4
      simp only [pict] at d0 d1 d2 d3 d4
      rw [← hP] at d0 d3
      obtain ⟨M, hM⟩ : ∃ M : Int, M = (t : Int) - (s : Int) := ⟨_, rfl⟩
      rw [← hM] at d1
      obtain ⟨W, hW⟩ : ∃ W, W = wholeB ps s (t - 1) := ⟨_, rfl⟩
      rw [← hW] at d4
      have tw : IntKind.i64.wrap ((s : Int) + M) = (t : Int) := by rw [IntWalk.i64_in _ (by omega)]; omega
      have HPM := Lib.hid (And.intro hP (And.intro hM hW))
      have i0 : (0 : Int) ≤ (i : Int) := by omega
      have i1 : (i : Int) < (qs.length : Int) := by omega
      have s0 : (0 : Int) ≤ (s : Int) := by omega
      have s1 : (s : Int) < (ps.length : Int) := by omega
      clear hP hM hW
      have z1 := szTo_mono HV.out (f := s) (i := t) (by omega) htl
      have z2 := szTo_le HV.out (i := t) htl
      have z3 := szTo_le HV.out (i := s) (by omega)
      obtain ⟨S, hS⟩ : ∃ S : Int, S = szTo ps t - szTo ps s := ⟨_, rfl⟩
      rw [← hS] at d2
      obtain ⟨Y, hY⟩ : ∃ Y : Int, Y = szTo ps t := ⟨_, rfl⟩
      obtain ⟨X, hX⟩ : ∃ X : Int, X = szTo ps s := ⟨_, rfl⟩
      rw [← hX, ← hY] at z1 hS
      rw [← hY] at z2
      rw [← hX] at z3
      rw [← hX]
      have sw : IntKind.i64.wrap (X + S) = Y := by rw [IntWalk.i64_in _ (by omega)]; omega
      have HY := Lib.hid hY
      clear hS hX hY z1 z2 z3
      go_wp2_with fail
      go_roundw
      case rel => exact ⟨i + 1, by omega, by go_num, by rw [← HST.out.2], by rw [← HST.out.2, ← HY.out], hbel⟩
      case measure => simp [intOf]; omega
    · obtain rfl : i = qs.length := by omega
      have he := bg_end HV.out
      rw [← HQ.out] at he
      rw [he]
      clear he
      have HB := Lib.hid (Fr.step H4.out.2.2 hbel)
      have hp6 := H4.out.1.mem hbel
      clear hbel
      have HP6 := Lib.hid hp6
      clear hp6
      go_wp2_with fail
      go_loopw [7, 9] (fun c c' wx => ∃ k : Nat, k ≤ ps.length ∧ c' = .int .i64 (k : Int) ∧ c = .int .i64 (szTo ps ps.length - szTo ps k) ∧ wx = wr) (fun _ c' _ => ps.length - (intOf c').toNat)
      case atStart => exact ⟨0, Nat.zero_le _, rfl, by simp [szTo], by first | rfl | trivial⟩
      case round =>
        obtain ⟨k, hk, rfl, rfl, rfl⟩ := hrel
        by_cases hlt2 : k < ps.length
        · obtain ⟨b, off, rfl, hbB, hrow⟩ := HP6.out (by omega)
          obtain ⟨P, hP⟩ : ∃ P, P = pk ps k := ⟨_, rfl⟩
          obtain ⟨c0, c1, c2, c3, c4, c5⟩ := hrow k P (by rw [hP]; exact pk_at hlt2)
          have z2 := szTo_le HV.out (i := ps.length) (Nat.le_refl _)
          have z3 := szTo_le HV.out (i := k) (by omega)
          have z4 := pvs_sz HV.out (i := k) hlt2
          rw [← hP] at z4
          have HS := Lib.hid (show szTo ps ps.length - szTo ps (k + 1) = szTo ps ps.length - szTo ps k - P.sz by rw [hP]; simp only [szTo]; omega)
          obtain ⟨S, hS⟩ : ∃ S : Int, S = szTo ps ps.length - szTo ps k := ⟨_, rfl⟩
          rw [← hS]
          have sw : IntKind.i64.wrap (S - P.sz) = S - P.sz := IntWalk.i64_in _ (by omega)
          have HSS := Lib.hid hS
          have i0 : (0 : Int) ≤ (k : Int) := by omega
          have i1 : (k : Int) < (ps.length : Int) := by omega
          clear hrow hP hS z2 z3 z4
          go_wp2_with fail
          go_roundw
          case rel => exact ⟨k + 1, by omega, by go_num, by rw [HS.out, HSS.out], by first | rfl | trivial⟩
          case measure => simp [intOf]; omega
        · obtain rfl : k = ps.length := by omega
          rw [Int.sub_self]
          go_wp2_with fail
          go_ret
          exact ⟨rfl, HB.out⟩

end Go.Proofs.Ytjdpagjcbhkonaa
