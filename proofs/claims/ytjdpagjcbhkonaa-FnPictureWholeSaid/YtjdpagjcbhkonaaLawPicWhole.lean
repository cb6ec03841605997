/-
  The law on a whole picture.
-/
import Derived.Test.YtjdpagjcbhkonaaPicFacts
import Derived.Test.YtjdpagjcbhkonaaPicImpl
import Derived.Test.YtjdpagjcbhkonaaPicSpec
import Derived.Test.YtjdpagjcbhkonaaSamePics
import Derived.Test.YtjdpagjcbhkonaaDrawPics
namespace Go.Proofs.Ytjdpagjcbhkonaa
open Go.RowKit
set_option linter.unusedSimpArgs false
set_option linter.unusedVariables false

set_option maxRecDepth 100000 in
set_option maxHeartbeats 4000000 in
theorem lawPicWhole (A : Option Addr) (len cap : Nat) (w : World) (hl : len ≤ cap) (hm : cap ≤ maxLen) (hc : Code w w.heap.size A len) :
    Calls Try.prog 5 #[.slice A len cap] w fun e w' => e = .returned (.bool true) ∧ Below w.heap.size w w' := by
  have HC := Lib.hid hc
  clear hc
  have hm' : cap ≤ 9223372036854775807 := by unfold maxLen at hm; omega
  by_cases hbig : (1048576 : Int) < (len : Int)
  · go_enter Try.func5, Try.ntmps5
    go_wp2_with fail
    go_ret
    exact ⟨rfl, Below.refl _ _⟩
  go_enter Try.func5, Try.ntmps5
  go_wp2_with fail
  refine (drawPics_any A len cap w hl hm HC.out).mono ?_
  rintro e w1 ⟨A', ps, cap', rfl, h1, h2, h3, hp1, B1⟩
  clear HC hl hm hm' hbig
  go_wp2_with fail
  refine (picsImpl _ _ _ _ hp1 h1 h2).mono ?_
  rintro e w2 ⟨v2, rfl, ho2, hb2⟩
  have hp2 := hp1.mem hb2
  have B2 := Fr.step B1 hb2
  obtain ⟨A2, cap2, rfl, k1, k2, q2⟩ := ho2.row
  clear hp1 B1 hb2 ho2
  go_wp2_with fail
  refine (picsSpec _ _ _ _ hp2 h1 h2).mono ?_
  rintro e w3 ⟨v3, rfl, ho3, hb3⟩
  have hp3 := hp2.mem hb3
  have B3 := Fr.step B2 hb3
  have q3 := q2.mem hb3
  obtain ⟨A3, cap3, rfl, k3, k4, r3⟩ := ho3.row
  clear hp2 B2 hb3 ho3 q2
  unfold maxLen at k2 k4
  have hql := pics_len ps
  obtain ⟨qs, hqs⟩ : ∃ qs, qs = pics ps := ⟨_, rfl⟩
  rw [← hqs] at q3 r3 k1 k3 hql ⊢
  have HQ := Lib.hid hqs
  clear hqs
  have k2' : cap2 ≤ 9223372036854775807 := by omega
  by_cases h0 : qs.length = 0
  · have hz : ((qs.length : Int) == 0) = true := by simp [h0]
    clear h0
    go_wp2_with fail
    refine (samePics _ _ _ _ _ _ q3 r3 k1 k2').mono ?_
    rintro e w4 ⟨rfl, hb4⟩
    have hp4 := hp3.mem hb4
    have B4 := Fr.step B3 hb4
    have q4 := q3.mem hb4
    have r4 := r3.mem hb4
    clear hp3 B3 hb4 q3 r3
    go_wp2_with fail
    refine (samePics _ _ _ _ _ _ q4 r4 k1 k2').mono ?_
    rintro e w5 ⟨rfl, hb5⟩
    have B5 := Fr.step B4 hb5
    clear hp4 B4 hb5 q4 r4
    go_wp2_with fail
    go_ret
    exact ⟨rfl, B5⟩
  have hz : ((qs.length : Int) == 0) = false := by simp; intro e; exact h0 (by rw [e]; rfl)
  have HV := Lib.hid (pics_valid (ps := ps) (by rw [← HQ.out]; omega))
  go_wp2_with fail
  refine (samePics _ _ _ _ _ _ q3 r3 k1 k2').mono ?_
  rintro e w4 ⟨rfl, hb4⟩
  have hp4 := hp3.mem hb4
  have B4 := Fr.step B3 hb4
  have q4 := q3.mem hb4
  have r4 := r3.mem hb4
  clear hp3 B3 hb4 q3 r3
  have H4 := Lib.hid (And.intro hp4 (And.intro q4 B4))
  clear hp4 r4 q4 B4 k3 k4
  go_wp2_with fail
  go_loopw [6, 7] (fun c c' wr => ∃ i : Nat, i ≤ qs.length ∧ c' = .int .i64 (i : Int) ∧ c = .int .i64 (bg ps i : Int) ∧ Below w4.heap.size w4 wr) (fun _ c' _ => qs.length - (intOf c').toNat)
  case atStart => exact ⟨0, Nat.zero_le _, rfl, by rw [bg_zero]; rfl, Below.refl _ _⟩
  case round =>
    obtain ⟨i, hi, rfl, rfl, hbel⟩ := hrel
    by_cases hlt : i < qs.length
    · have hlt' := hlt
      rw [HQ.out] at hlt'
      obtain ⟨hpi, hst, htl, hno, hye⟩ := pics_at hlt'
      rw [← HQ.out] at hpi
      have HPA := Lib.hid (And.intro hpi (And.intro hno hye))
      clear hlt' hpi hno hye
      obtain ⟨s, hs⟩ : ∃ s, s = bg ps i := ⟨_, rfl⟩
      obtain ⟨t, ht⟩ : ∃ t, t = bg ps (i + 1) := ⟨_, rfl⟩
      rw [← hs] at hst ⊢
      rw [← ht] at hst htl
      have HST := Lib.hid (And.intro hs ht)
      clear hs ht
      obtain ⟨b, off, rfl, hbB, hrow⟩ := H4.out.1 (by omega)
      obtain ⟨b2, off2, rfl, hbB2, hrow2⟩ := H4.out.2.1 (by omega)
      have HR := Lib.hid (fun j p (hj : ps[j]? = some p) => (hrow j p hj).keep (w' := wr) fun k => hbel.cell (p := ⟨b, k, none⟩) hbB)
      have HR2 := Lib.hid (fun j p (hj : qs[j]? = some p) => (hrow2 j p hj).keep (w' := wr) fun k => hbel.cell (p := ⟨b2, k, none⟩) hbB2)
      clear hrow hrow2
      have hsz := hbel.size
      have hbr1 : b + 1 ≤ wr.heap.size := by omega
      have hbr2 : b2 + 1 ≤ wr.heap.size := by omega
      obtain ⟨P, hP⟩ : ∃ P, P = pk ps s := ⟨_, rfl⟩
      obtain ⟨c0, c1, c2, c3, c4, c5⟩ := HR.out s P (by rw [hP]; exact pk_at (by omega))
      obtain ⟨d0, d1, d2, d3, d4⟩ := HR2.out i _ HPA.out.1
      rw [← HST.out.1, ← HST.out.2] at d0 d1 d2 d3 d4
      simp only [pict] at d0 d1 d2 d3 d4
      rw [← hP] at d0 d3
      obtain ⟨M, hM⟩ : ∃ M : Int, M = (t : Int) - (s : Int) := ⟨_, rfl⟩
      rw [← hM] at d1
      obtain ⟨W, hW⟩ : ∃ W, W = wholeB ps s (t - 1) := ⟨_, rfl⟩
      rw [← hW] at d4
      have tw : IntKind.i64.wrap ((s : Int) + M) = (t : Int) := by rw [IntWalk.i64_in _ (by omega)]; omega
      have HPM := Lib.hid (And.intro hP (And.intro hM hW))
      have i0 : (0 : Int) ≤ (i : Int) := by omega
      have i1 : (i : Int) < (qs.length : Int) := by omega
      have s0 : (0 : Int) ≤ (s : Int) := by omega
      have s1 : (s : Int) < (ps.length : Int) := by omega
      clear hP hM hW
      have hwf := HPM.out.2.2
      cases W
      · clear hwf
        go_wp2_with fail
        refine wp_region_in (Mem wr) (by kernel_rfl) (by kernel_rfl) (Mem.drew wr) ?_
        intro hne
        repeat (go_big_quiet_step ((fail)))
        refine wpQuiet_nil ?_
        rintro ⟨w6, ok6⟩
        have B6 := Fr.step hbel ok6
        clear hne
        go_wp2_with fail
        go_roundw
        case rel => exact ⟨i + 1, by omega, by go_num, by rw [← HST.out.2], B6⟩
        case measure => simp [intOf]; omega
      · obtain ⟨g, hg⟩ : ∃ g, t = g + 1 := ⟨t - 1, by omega⟩
        obtain ⟨Q, hQ⟩ : ∃ Q, Q = pk ps g := ⟨_, rfl⟩
        obtain ⟨e0, e1, e2, e3, e4, e5⟩ := HR.out g Q (by rw [hQ]; exact pk_at (by omega))
        have hwg := (Bool.and_eq_true_iff.1 (show wholeB ps s (t - 1) = true from hwf.symm)).2
        rw [show t - 1 = g by omega, ← hQ, ← HPM.out.1, Bool.and_eq_true, beq_iff_eq] at hwg
        rw [hwg.1] at e5
        have hw1 := pvs_wd HV.out (i := g) (by omega)
        have hw2 := pvs_wd HV.out (i := s) (by omega)
        rw [← hQ] at hw1
        rw [← HPM.out.1] at hw2
        obtain ⟨N, hN⟩ : ∃ N : Int, N = M - 1 := ⟨_, rfl⟩
        have nw : IntKind.i64.wrap (M - 1) = N := by rw [IntWalk.i64_in _ (by have := HPM.out.2.1; omega)]; exact hN.symm
        have qw : IntKind.i64.wrap (Q.wd - P.wd) = N := by rw [IntWalk.i64_in _ (by omega)]; have := HPM.out.2.1; have := hwg.2; omega
        have gw : IntKind.i64.wrap ((t : Int) - 1) = (g : Int) := by rw [IntWalk.i64_in _ (by omega)]; omega
        have g0 : (0 : Int) ≤ (g : Int) := by omega
        have g1 : (g : Int) < (ps.length : Int) := by omega
        clear hg hQ hwf hwg hw1 hw2 hN
        go_wp2_with fail
        refine wp_region_in (Mem wr) (by kernel_rfl) (by kernel_rfl) (Mem.drew wr) ?_
        intro hne
        repeat (go_big_quiet_step ((fail)))
        refine wpQuiet_nil ?_
        rintro ⟨w6, ok6⟩
        have B6 := Fr.step hbel ok6
        clear hne
        go_wp2_with fail
        go_roundw
        case rel => exact ⟨i + 1, by omega, by go_num, by rw [← HST.out.2], B6⟩
        case measure => simp [intOf]; omega
    · obtain rfl : i = qs.length := by omega
      go_wp2_with fail
      go_ret
      exact ⟨rfl, Fr.step H4.out.2.2 hbel⟩

end Go.Proofs.Ytjdpagjcbhkonaa
