/-
  The law on the times of the pictures.
-/
import Derived.Test.YtjdpagjcbhkonaaPicFacts
import Derived.Test.YtjdpagjcbhkonaaPicImpl
import Derived.Test.YtjdpagjcbhkonaaPicSpec
import Derived.Test.YtjdpagjcbhkonaaSamePics
import Derived.Test.YtjdpagjcbhkonaaDrawPics
namespace Go.Proofs.Ytjdpagjcbhkonaa
open Go.RowKit
set_option linter.unusedSimpArgs false
set_option linter.unusedVariables false

set_option maxRecDepth 100000 in
set_option maxHeartbeats 4000000 in
theorem lawPicTime (A : Option Addr) (len cap : Nat) (w : World) (hl : len ≤ cap) (hm : cap ≤ maxLen) (hc : Code w w.heap.size A len) :
    Calls Try.prog 7 #[.slice A len cap] w fun e w' => e = .returned (.bool true) ∧ Below w.heap.size w w' := by
  have HC := Lib.hid hc
  clear hc
  have hm' : cap ≤ 9223372036854775807 := by unfold maxLen at hm; omega
  by_cases hbig : (1048576 : Int) < (len : Int)
  · go_enter Try.func7, Try.ntmps7
    go_wp2_with fail
    go_ret
    exact ⟨rfl, Below.refl _ _⟩
  go_enter Try.func7, Try.ntmps7
  go_wp2_with fail
  refine (drawPics_any A len cap w hl hm HC.out).mono ?_
  rintro e w1 ⟨A', ps, cap', rfl, h1, h2, h3, hp1, B1⟩
  clear HC hl hm hm' hbig
  go_wp2_with fail
  refine (picsImpl _ _ _ _ hp1 h1 h2).mono ?_
  rintro e w2 ⟨v2, rfl, ho2, hb2⟩
  have hp2 := hp1.mem hb2
  have B2 := Fr.step B1 hb2
  obtain ⟨A2, cap2, rfl, k1, k2, q2⟩ := ho2.row
  clear hp1 B1 hb2 ho2
  go_wp2_with fail
  refine (picsSpec _ _ _ _ hp2 h1 h2).mono ?_
  rintro e w3 ⟨v3, rfl, ho3, hb3⟩
  have hp3 := hp2.mem hb3
  have B3 := Fr.step B2 hb3
  have q3 := q2.mem hb3
  obtain ⟨A3, cap3, rfl, k3, k4, r3⟩ := ho3.row
  clear hp2 B2 hb3 ho3 q2
  unfold maxLen at k2 k4
  have hql := pics_len ps
  obtain ⟨qs, hqs⟩ : ∃ qs, qs = pics ps := ⟨_, rfl⟩
  rw [← hqs] at q3 r3 k1 k3 hql ⊢
  have HQ := Lib.hid hqs
  clear hqs
  have k2' : cap2 ≤ 9223372036854775807 := by omega
  go_wp2_with fail
  refine (samePics _ _ _ _ _ _ q3 r3 k1 k2').mono ?_
  rintro e w4 ⟨rfl, hb4⟩
  have hp4 := hp3.mem hb4
  have B4 := Fr.step B3 hb4
  have q4 := q3.mem hb4
  have r4 := r3.mem hb4
  clear hp3 B3 hb4 q3 r3
  have H4 := Lib.hid (And.intro hp4 (And.intro q4 B4))
  clear hp4 r4 q4 B4 k3 k4
  go_wp2_with fail
  go_loopw [6] (fun c' wr => ∃ i : Nat, i ≤ qs.length ∧ c' = .int .i64 (i : Int) ∧ Below w4.heap.size w4 wr) (fun c' _ => qs.length - (intOf c').toNat)
  case atStart => exact ⟨0, Nat.zero_le _, rfl, Below.refl _ _⟩
  case round =>
    obtain ⟨i, hi, rfl, hbel⟩ := hrel
    by_cases hlt : i < qs.length
    · have hlt' := hlt
      rw [HQ.out] at hlt'
      obtain ⟨hpi, hst, htl, hno, hye⟩ := pics_at hlt'
      rw [← HQ.out] at hpi
      have HPA := Lib.hid (And.intro hpi (And.intro hno hye))
      clear hlt' hpi hno hye
      obtain ⟨s, hs⟩ : ∃ s, s = bg ps i := ⟨_, rfl⟩
      obtain ⟨t, ht⟩ : ∃ t, t = bg ps (i + 1) := ⟨_, rfl⟩
      rw [← hs] at hst
      rw [← ht] at hst htl
      have HST := Lib.hid (And.intro hs ht)
      clear hs ht
      obtain ⟨b, off, rfl, hbB, hrow⟩ := H4.out.1 (by omega)
      obtain ⟨b2, off2, rfl, hbB2, hrow2⟩ := H4.out.2.1 (by omega)
      have HR := Lib.hid (fun j p (hj : ps[j]? = some p) => (hrow j p hj).keep (w' := wr) fun k => hbel.cell (p := ⟨b, k, none⟩) hbB)
      have HR2 := Lib.hid (fun j p (hj : qs[j]? = some p) => (hrow2 j p hj).keep (w' := wr) fun k => hbel.cell (p := ⟨b2, k, none⟩) hbB2)
      clear hrow hrow2
      have hsz := hbel.size
      have hbr1 : b + 1 ≤ wr.heap.size := by omega
      have hbr2 : b2 + 1 ≤ wr.heap.size := by omega
      obtain ⟨P, hP⟩ : ∃ P, P = pk ps s := ⟨_, rfl⟩
      obtain ⟨c0, c1, c2, c3, c4, c5⟩ := HR.out s P (by rw [hP]; exact pk_at (by omega))
      obtain ⟨d0, d1, d2, d3, d4⟩ := HR2.out i _ HPA.out.1
      rw [← HST.out.1, ← HST.out.2] at d0 d1 d2 d3 d4
      simp only [pict] at d0 d1 d2 d3 d4
      rw [← hP] at d0 d3
      obtain ⟨M, hM⟩ : ∃ M : Int, M = (t : Int) - (s : Int) := ⟨_, rfl⟩
      rw [← hM] at d1
      obtain ⟨W, hW⟩ : ∃ W, W = wholeB ps s (t - 1) := ⟨_, rfl⟩
      rw [← hW] at d4
      have tw : IntKind.i64.wrap ((s : Int) + M) = (t : Int) := by rw [IntWalk.i64_in _ (by omega)]; omega
      have HPM := Lib.hid (And.intro hP (And.intro hM hW))
      have i0 : (0 : Int) ≤ (i : Int) := by omega
      have i1 : (i : Int) < (qs.length : Int) := by omega
      have s0 : (0 : Int) ≤ (s : Int) := by omega
      have s1 : (s : Int) < (ps.length : Int) := by omega
      clear hP hM hW
      have m1 : ¬ M < 1 := by have := HPM.out.2.1; omega
      have m2 : decide (M < 1) = false := decide_eq_false m1
      by_cases hi0 : i = 0
      · have z1 : decide (0 < i) = false := by simp [hi0]
        have z2 : ¬ (0 : Int) < (i : Int) := by omega
        clear hi0
        go_wp2_with fail
        refine wp_region_in (Mem wr) (by kernel_rfl) (by kernel_rfl) (Mem.drew wr) ?_
        intro hne
        repeat (go_big_quiet_step ((fail)))
        refine wpQuiet_nil ?_
        rintro ⟨w6, ok6⟩
        have B6 := Fr.step hbel ok6
        clear hne
        go_wp2_with fail
        go_roundw
        case rel => exact ⟨i + 1, by omega, by go_num, B6⟩
        case measure => simp [intOf]; omega
      · obtain ⟨j, hj⟩ : ∃ j, i = j + 1 := ⟨i - 1, by omega⟩
        have hjl : j + 1 < (pics ps).length := by rw [← HQ.out]; omega
        have htm := pics_tm hjl
        obtain ⟨e0, e1, e2, e3, e4⟩ := HR2.out j _ (by rw [HQ.out]; exact (pics_at (ps := ps) (i := j) (by omega)).1)
        simp only [pict] at e0
        rw [← hj, ← HST.out.1, ← HPM.out.1] at htm
        obtain ⟨T, hT⟩ : ∃ T : Int, T = (pk ps (bg ps j)).tm := ⟨_, rfl⟩
        rw [← hT] at htm e0
        have q1 : ¬ P.tm ≤ T := by omega
        have q2 : decide (P.tm ≤ T) = false := decide_eq_false q1
        have gw : IntKind.i64.wrap ((i : Int) - 1) = (j : Int) := by rw [IntWalk.i64_in _ (by omega)]; omega
        have g0 : (0 : Int) ≤ (j : Int) := by omega
        have g1 : (j : Int) < (qs.length : Int) := by omega
        have z1 : decide (0 < i) = true := by simp; omega
        have z2 : (0 : Int) < (i : Int) := by omega
        clear hi0 hj hjl htm hT e1 e2 e3 e4
        go_wp2_with fail
        refine wp_region_in (Mem wr) (by kernel_rfl) (by kernel_rfl) (Mem.drew wr) ?_
        intro hne
        repeat (go_big_quiet_step ((fail)))
        refine wpQuiet_nil ?_
        rintro ⟨w6, ok6⟩
        have B6 := Fr.step hbel ok6
        clear hne
        go_wp2_with fail
        go_roundw
        case rel => exact ⟨i + 1, by omega, by go_num, B6⟩
        case measure => simp [intOf]; omega
    · obtain rfl : i = qs.length := by omega
      have hqi : (qs.length : Int) ≤ (ps.length : Int) := by omega
      go_wp2_with fail
      go_ret
      exact ⟨rfl, Fr.step H4.out.2.2 hbel⟩

end Go.Proofs.Ytjdpagjcbhkonaa
