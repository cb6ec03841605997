/-
  The law on lists of packets: packets may be missing, none may come twice.
-/
import Derived.Test.YthbekleahjfniaaDrawPks
import Derived.Test.YthbekleahjfniaaPksV
import Derived.Test.YthbekleahjfniaaPksCut
namespace Go.Proofs.Ythbekleahjfniaa
open Go.RowKit
set_option linter.unusedSimpArgs false
set_option linter.unusedVariables false

/-- Some list of packets is returned. -/
def SomePks_ (w : World) (e : Ending) (w' : World) : Prop :=
  ∃ A ps cap, e = .returned (.slice A (ps : List Pk).length cap) ∧ ps.length ≤ cap ∧ cap ≤ 9223372036854775807 ∧ ps.length ≤ 10 ∧ Small ps ∧ PkRow w' w'.heap.size A ps ∧ Below w.heap.size w w'

set_option maxHeartbeats 400000 in
theorem drawPksValid_any (A : Option Addr) (len cap : Nat) (w : World) (hl : len ≤ cap) (hm : cap ≤ maxLen) (hc : Code w w.heap.size A len) :
    Calls Try.prog 20 #[.slice A len cap] w (SomePks_ w) := by
  have HC := Lib.hid hc
  clear hc
  go_enter Try.func20, Try.ntmps20
  go_wp2_with fail
  refine (open_st (w := w) (L := []) (Below.refl _ _) (.nil _) hl hm HC.out).mono ?_
  rintro e w1 ⟨g, rfl, hgx, hgw, S1⟩
  go_wp2_with fail
  refine (l91Packets_any w w1 g 0 [] 10 S1 (by omega) (by omega) (by omega)).mono ?_
  rintro e w2 ⟨v, ps, rfl, hS, hll, hsm⟩
  obtain ⟨A', cap', rfl, h1, h2, h3⟩ := Own.row hS.own
  unfold maxLen at h2
  have B := hS.st.below
  clear hS
  go_wp2_with fail
  go_ret
  exact ⟨_, _, _, rfl, h1, by omega, by omega, hsm, h3, B⟩

/-- A block that was there is as it was behind an append onto a row of the call's own. -/
theorem row_far {w w4 : World} {ob : Obj} {v1 : Value} {b : Nat} (h : (w.drew.alloc ob).grownBy w4 (Value.ownBlock (.slice (some ⟨w.heap.size, 0, none⟩) 0 0))) (hat : v1.ownBlock = Value.ownBlock (.slice (some ⟨w.heap.size, 0, none⟩) 0 0) ∨ v1.ownBlock = some (w.drew.alloc ob).heap.size) (hb : b < w.heap.size) :
    (∀ i, w4.cell? ⟨b, i, none⟩ = w.cell? ⟨b, i, none⟩) ∧ ∀ {w5 : World}, w4.grownBy w5 v1.ownBlock → Below w.heap.size w w5 := by
  have hs := h.size
  have e : (w.drew.alloc ob).heap.size = w.heap.size + 1 := World.size_alloc _ _
  rw [e] at hs hat
  have hk : ∀ k, k < w.heap.size → w4.heap[k]? = w.heap[k]? := fun k hk => by
    rw [h.block k (by rw [e]; omega) (fun e2 => by simp [Value.ownBlock] at e2; omega)]
    exact Below.heap_alloc w.drew ob k hk
  refine ⟨fun i => World.cell?_of_block (a := ⟨b, i, none⟩) (hk b hb), fun {w5} h5 => ?_⟩
  refine ⟨h5.os.trans h.os, h5.tape.trans h.tape, h5.output.trans h.output, by have := h5.size; omega, fun k hk' => ?_⟩
  rw [h5.block k (by omega) (fun e2 => by
    rcases hat with h1 | h1
    · rw [h1] at e2; simp [Value.ownBlock] at e2; omega
    · rw [h1] at e2; simp at e2; omega)]
  exact hk k hk'

set_option maxHeartbeats 4000000 in
theorem lawPksPart (A : Option Addr) (len cap : Nat) (A2 : Option Addr) (len2 cap2 : Nat) (w : World) (hl : len ≤ cap) (hm : cap ≤ maxLen) (hc : Code w w.heap.size A len) (hl2 : len2 ≤ cap2) (hm2 : cap2 ≤ maxLen) (hc2 : Code w w.heap.size A2 len2) :
    Calls Try.prog 6 #[.slice A len cap, .slice A2 len2 cap2] w fun e w' => e = .returned (.bool true) ∧ Below w.heap.size w w' := by
  have HC := Lib.hid hc
  clear hc hc2
  have hm' : cap ≤ 9223372036854775807 := by unfold maxLen at hm; omega
  have hm2' : cap2 ≤ 9223372036854775807 := by unfold maxLen at hm2; omega
  by_cases hbig : (1048576 : Int) < (len : Int)
  · go_enter Try.func6, Try.ntmps6
    go_wp2_with fail
    go_ret
    exact ⟨rfl, Below.refl _ _⟩
  by_cases hbig2 : (1048576 : Int) < (len2 : Int)
  · go_enter Try.func6, Try.ntmps6
    go_wp2_with fail
    go_ret
    exact ⟨rfl, Below.refl _ _⟩
  obtain ⟨i0, hi, hz0, hz1, hz2⟩ := info_parts pkInfo_
  have HI := Lib.hid (And.intro hi (And.intro hz0 (And.intro hz1 hz2)))
  clear hi hz0 hz1 hz2
  go_enter Try.func6, Try.ntmps6
  go_wp2_with fail
  refine (drawPksValid_any A len cap w hl hm HC.out).mono ?_
  rintro e w1 ⟨A', ps, cap', rfl, g1, g2, g3, g4, hp1, B1⟩
  go_wp2_with fail
  refine (pvsImpl _ _ _ _ hp1 g1 g2).mono ?_
  rintro e w2 ⟨rfl, hb2⟩
  have hp2 := hp1.mem hb2
  have B2 := Fr.step B1 hb2
  clear hp1 B1 hb2
  go_wp2_with fail
  refine (pvsSpec _ _ _ _ hp2 g1 g2).mono ?_
  rintro e w3 ⟨rfl, hb3⟩
  have hp3 := hp2.mem hb3
  have B3 := Fr.step B2 hb3
  clear hp2 B2 hb3
  cases hv : pvsB ps
  · go_wp2_with fail
    go_ret
    exact ⟨rfl, B3⟩
  by_cases hn0 : ps.length = 0
  · have hz : ((ps.length : Int) == 0) = true := by simp [hn0]
    clear hn0
    go_wp2_with fail
    go_ret
    exact ⟨rfl, B3⟩
  obtain ⟨b, off, rfl, hbB, hrow⟩ := hp3 (by omega)
  have hz : ((ps.length : Int) == 0) = false := by simp [hn0]
  obtain ⟨k, hk⟩ : ∃ k, k = len2 % ps.length := ⟨_, rfl⟩
  have hkl : k < ps.length := hk ▸ Nat.mod_lt _ (by omega)
  have hmod : (len2 : Int).tmod (ps.length : Int) = (k : Int) := by rw [Int.tmod_eq_emod_of_nonneg (by omega), hk]; simp
  have HV := Lib.hid hv
  have HROW := Lib.hid hrow
  have k0 : (0 : Int) ≤ (k : Int) := by omega
  have k1 : (k : Int) ≤ (ps.length : Int) := by omega
  have k2 : (k : Int) + 1 ≤ (ps.length : Int) := by omega
  have c1 : (ps.length : Int) ≤ (cap' : Int) := by omega
  have c2 : (k : Int) ≤ (cap' : Int) := by omega
  have c3 : (k : Int) + 1 ≤ (cap' : Int) := by omega
  clear hv hrow hk hp3 hn0
  obtain ⟨o2, ho2, hro2⟩ : ∃ o2, (if cap' = k + 1 then (some ⟨b, off, none⟩ : Option Addr) else some ⟨b, off + (k + 1) * 6, none⟩) = some ⟨b, o2, none⟩ ∧ (∀ (j : Nat) (p : Pk), (ps.drop (k + 1))[j]? = some p → Six w3 b (o2 + j * 6) p) := by
    by_cases hcc : cap' = k + 1
    · exact ⟨off, if_pos hcc, fun j p hj => by rw [List.getElem?_drop, List.getElem?_eq_none (by omega)] at hj; cases hj⟩
    · refine ⟨off + (k + 1) * 6, if_neg hcc, fun j p hj => ?_⟩
      rw [List.getElem?_drop] at hj
      have := HROW.out _ p hj
      rwa [show off + (k + 1 + j) * 6 = off + (k + 1) * 6 + j * 6 by omega] at this
  obtain ⟨o3, ho3, hro3⟩ : ∃ o3, (if cap' = k then (some ⟨b, off, none⟩ : Option Addr) else some ⟨b, off + k * 6, none⟩) = some ⟨b, o3, none⟩ ∧ (∀ (j : Nat) (p : Pk), (ps.drop k)[j]? = some p → Six w3 b (o3 + j * 6) p) := by
    by_cases hcc : cap' = k
    · omega
    · refine ⟨off + k * 6, if_neg hcc, fun j p hj => ?_⟩
      rw [List.getElem?_drop] at hj
      have := HROW.out _ p hj
      rwa [show off + (k + j) * 6 = off + k * 6 + j * 6 by omega] at this
  have tk : ∀ m (j : Nat) (p : Pk), (ps.take m)[j]? = some p → Six w3 b (off + j * 6) p := fun m j p hj => HROW.out j p (by
    rw [List.getElem?_take] at hj
    split at hj
    · exact hj
    · cases hj)
  have S3 : Hid ((∀ (j : Nat) (p : Pk), (ps.take k)[j]? = some p → Six w3 b (off + j * 6) p) ∧ (∀ (j : Nat) (p : Pk), (ps.drop (k + 1))[j]? = some p → Six w3 b (o2 + j * 6) p) ∧ b < w3.heap.size) := ⟨tk k, hro2, hbB⟩
  have T3 : Hid ((∀ (j : Nat) (p : Pk), (ps.take (k + 1))[j]? = some p → Six w3 b (off + j * 6) p) ∧ (∀ (j : Nat) (p : Pk), (ps.drop k)[j]? = some p → Six w3 b (o3 + j * 6) p)) := ⟨tk (k + 1), hro3⟩
  clear tk hro2 hro3
  go_upto_region 9 with fail
  go_cut [9] (fun s wx => Own wx w3.heap.size s (ps.take k ++ ps.drop (k + 1)) ∧ Below w3.heap.size w3 wx)
  case first =>
    have OWN0 : Own (w3.drew.alloc (.cells #[] 24)) w3.heap.size (.slice (some ⟨w3.heap.size, 0, none⟩) 0 0) [] := World.ownsRow_lit w3.drew #[] 0 (Nat.le_refl _) (Nat.zero_le _) rfl
    have HR1 : ∀ (j : Nat) (p : Pk), (ps.take k)[j]? = some p → Six (w3.drew.alloc (.cells #[] 24)) b (off + j * 6) p := fun j p hj => (S3.out.1 j p hj).keep fun i => World.cell?_alloc_lt w3.drew _ ⟨b, i, none⟩ S3.out.2.2
    have HO := Lib.hid OWN0
    have kw : IntKind.i64.wrap ((k : Int) + 1) = (k : Int) + 1 := IntWalk.i64_in _ (by omega)
    have kp : (0 : Int) ≤ (k : Int) + 1 := by omega
    have kt : ((k : Int) + 1).toNat = k + 1 := by omega
    have HR := Lib.hid HR1
    clear OWN0 HR1
    go_region_law (first
      | (refine step_append_pk (by rfl) (.tmp 45) (.tmp 48) (by rfl) w3.heap.size i0 HI.out.1 HI.out.2.1 HI.out.2.2.1 HI.out.2.2.2 _ [] (by rfl) HO.out b off k cap' (ps.take k) (by rfl) (by simp; omega) HR.out (by simp; omega) (by simp) ?_; intro v1 w4 hown4 hgr4 hat4; have hrow4 := row_far hgr4 hat4 S3.out.2.2)
      | (refine step_append_pk (by rfl) (.tmp 49) (.tmp 53) (by rfl) w3.heap.size i0 HI.out.1 HI.out.2.1 HI.out.2.2.1 HI.out.2.2.2 v1 ([] ++ ps.take k) (by rfl) hown4 b o2 (ps.length - (k + 1)) (cap' - (k + 1)) (ps.drop (k + 1)) (by rfl) (by simp) (fun j p hj => (S3.out.2.1 j p hj).keep fun i => hrow4.1 i) (by simp; omega) (by have := hgr4.size; simp at this; omega) ?_; intro v2 w5 hown5 hgr5 hat5))
    all_goals go_wp2_with fail
    all_goals go_meet
    all_goals exact ⟨by simpa using hown5, hrow4.2 hgr5⟩
  case rest =>
    obtain ⟨hx, hbx⟩ := hcut
    obtain ⟨v9, rfl⟩ : ∃ v9, v9 = u9 := ⟨_, rfl⟩
    obtain ⟨w6, rfl⟩ : ∃ w6, w6 = wc := ⟨_, rfl⟩
    have B6 := Fr.step B3 hbx
    have T6 : Hid ((∀ (j : Nat) (p : Pk), (ps.take (k + 1))[j]? = some p → Six w6 b (off + j * 6) p) ∧ (∀ (j : Nat) (p : Pk), (ps.drop k)[j]? = some p → Six w6 b (o3 + j * 6) p) ∧ b < w6.heap.size) :=
      ⟨fun j p hj => (T3.out.1 j p hj).keep fun i => hbx.cell (p := ⟨b, i, none⟩) hbB, fun j p hj => (T3.out.2 j p hj).keep fun i => hbx.cell (p := ⟨b, i, none⟩) hbB, Nat.lt_of_lt_of_le hbB hbx.size⟩
    have hlx : w3.heap.size ≤ w6.heap.size := hbx.size
    clear T3 S3 B3 HROW
    go_upto_region 10 with fail
    go_cut [10] (fun s wx => Own wx w6.heap.size s (ps.take (k + 1) ++ ps.drop k) ∧ Below w6.heap.size w6 wx)
    case first =>
      have OWN0 : Own (w6.drew.alloc (.cells #[] 24)) w6.heap.size (.slice (some ⟨w6.heap.size, 0, none⟩) 0 0) [] := World.ownsRow_lit w6.drew #[] 0 (Nat.le_refl _) (Nat.zero_le _) rfl
      have HR1 : ∀ (j : Nat) (p : Pk), (ps.take (k + 1))[j]? = some p → Six (w6.drew.alloc (.cells #[] 24)) b (off + j * 6) p := fun j p hj => (T6.out.1 j p hj).keep fun i => World.cell?_alloc_lt w6.drew _ ⟨b, i, none⟩ T6.out.2.2
      have HO := Lib.hid OWN0
      have kw : IntKind.i64.wrap ((k : Int) + 1) = (k : Int) + 1 := IntWalk.i64_in _ (by omega)
      have kp : (0 : Int) ≤ (k : Int) + 1 := by omega
      have kt : ((k : Int) + 1).toNat = k + 1 := by omega
      have HR := Lib.hid HR1
      clear OWN0 HR1
      go_region_law (first
        | (refine step_append_pk (by rfl) (.tmp 55) (.tmp 59) (by rfl) w6.heap.size i0 HI.out.1 HI.out.2.1 HI.out.2.2.1 HI.out.2.2.2 _ [] (by rfl) HO.out b off (k + 1) cap' (ps.take (k + 1)) (by rfl) (by simp; omega) HR.out (by simp; omega) (by simp) ?_; intro v1 w4 hown4 hgr4 hat4; have hrow4 := row_far hgr4 hat4 T6.out.2.2)
        | (refine step_append_pk (by rfl) (.tmp 60) (.tmp 63) (by rfl) w6.heap.size i0 HI.out.1 HI.out.2.1 HI.out.2.2.1 HI.out.2.2.2 v1 ([] ++ ps.take (k + 1)) (by rfl) hown4 b o3 (ps.length - k) (cap' - k) (ps.drop k) (by rfl) (by simp) (fun j p hj => (T6.out.2.1 j p hj).keep fun i => hrow4.1 i) (by simp; omega) (by have := hgr4.size; simp at this; omega) ?_; intro v2 w5 hown5 hgr5 hat5))
      all_goals go_wp2_with fail
      all_goals go_meet
      all_goals exact ⟨by simpa using hown5, hrow4.2 hgr5⟩
    case rest =>
      obtain ⟨hy, hby⟩ := hcut
      obtain ⟨v10, rfl⟩ : ∃ v10, v10 = u10 := ⟨_, rfl⟩
      have B7 := Fr.step B6 hby
      have px := pvs_without HV.out hkl
      have py := pvs_twice hkl
      generalize ps.take k ++ ps.drop (k + 1) = xs at hx px
      generalize ps.take (k + 1) ++ ps.drop k = ys at hy py
      obtain ⟨Ax, cx, rfl, x1, x2, hxr⟩ := Own.row hx
      obtain ⟨Ay, cy, rfl, y1, y2, hyr⟩ := Own.row hy
      unfold maxLen at x2 y2
      have hx7 := hxr.mem hby
      have PX := Lib.hid px
      have PY := Lib.hid py
      clear hx hy hxr px py
      go_wp2_with fail
      with_reducible refine (pvsImpl _ _ _ _ hx7 x1 (by omega)).mono ?_
      rintro e w8 ⟨rfl, hb8⟩
      have hy8 := hyr.mem hb8
      have B8 := Fr.step B7 hb8
      rw [PX.out]
      go_wp2_with fail
      with_reducible refine (pvsImpl _ _ _ _ hy8 y1 (by omega)).mono ?_
      rintro e w9 ⟨rfl, hb9⟩
      have B9 := Fr.step B8 hb9
      rw [PY.out]
      go_wp2_with fail
      go_ret
      exact ⟨rfl, B9⟩

end Go.Proofs.Ythbekleahjfniaa
