/-
  l2Whole of the reference.
-/
import Derived.Test.YtjdpagjcbhkonaaPics
namespace Go.Proofs.Ytjdpagjcbhkonaa
open Go.RowKit
set_option linter.unusedSimpArgs false
set_option linter.unusedVariables false

set_option maxHeartbeats 4000000 in
theorem l2Whole_any (A : Option Addr) (ps : List Pk) (cap f e : Nat) (T : Int) (hT : T = (e : Int) + 1) (w : World) (hp : PkRow w w.heap.size A ps) (hl : ps.length ≤ cap) (hm : cap ≤ 9223372036854775807) (hfe : f ≤ e) (hel : e < ps.length) (hwd : ∀ i, i < ps.length → 0 ≤ (pk ps i).wd ∧ (pk ps i).wd ≤ 999999) (hl20 : ps.length ≤ 20) :
    Calls Try.prog 27 #[.slice A ps.length cap, .int .i64 (f : Int), .int .i64 T] w fun e_ w' => e_ = .returned (.bool (wholeB ps f e)) ∧ Below w.heap.size w w' := by
  obtain ⟨b, off, rfl, hbB, hrow⟩ := hp (by omega)
  have hbr1 : b + 1 ≤ w.heap.size := hbB
  obtain ⟨P, hP⟩ : ∃ P, P = pk ps f := ⟨_, rfl⟩
  obtain ⟨E, hE⟩ : ∃ E, E = pk ps e := ⟨_, rfl⟩
  have hPw := hwd f (by omega)
  have hEw := hwd e hel
  rw [← hP] at hPw
  rw [← hE] at hEw
  obtain ⟨p0, p1, p2, p3, p4, p5⟩ := hrow f P (by rw [hP]; exact pk_at (by omega))
  obtain ⟨e0, e1, e2, e3, e4, e5⟩ := hrow e E (by rw [hE]; exact pk_at hel)
  have f0 : (0 : Int) ≤ (f : Int) := by omega
  have f1 : (f : Int) < (ps.length : Int) := by omega
  have t0 : (0 : Int) ≤ (e : Int) := by omega
  have t1 : (e : Int) < (ps.length : Int) := by omega
  have wt : IntKind.i64.wrap (T - 1) = (e : Int) := by rw [IntWalk.i64_in _ (by omega)]; omega
  have wd1 : IntKind.i64.wrap (E.wd - P.wd) = E.wd - P.wd := IntWalk.i64_in _ (by omega)
  have wd2 : IntKind.i64.wrap ((e : Int) - (f : Int)) = (e : Int) - (f : Int) := IntWalk.i64_in _ (by omega)
  have HPE := Lib.hid (And.intro hP hE)
  have HROW := Lib.hid hrow
  clear hT hrow hp hP hE
  rcases Nat.eq_zero_or_pos f with hf | hf
  · subst hf
    simp only [Nat.zero_mul, Nat.add_zero] at p0 p1 p2 p3 p4 p5
    cases hk : P.k
    · rw [hk] at p4
      have HW := Lib.hid (show wholeB ps 0 e = false by unfold wholeB; rw [begB_zero, ← HPE.out.1, hk]; rfl)
      go_enter Try.func27, Try.ntmps27
      go_wp2_with fail
      refine wp_region_in (Mem w) (by kernel_rfl) (by kernel_rfl) (Mem.drew w) ?_
      intro hne
      repeat (go_big_quiet_step ((fail)))
      refine wpQuiet_nil ?_
      rintro ⟨w1, ok1⟩
      clear hne
      go_wp2_with fail
      go_ret
      rw [HW.out]
      exact ⟨rfl, ok1⟩
    · rw [hk] at p4
      have hbeg : begB ps 0 = true := by rw [begB_zero, ← HPE.out.1, hk]
      cases h5 : E.l
      · rw [h5] at e5
        have HW := Lib.hid (show wholeB ps 0 e = false by unfold wholeB; rw [hbeg, ← HPE.out.2, ← HPE.out.1]; rw [h5]; simp)
        clear hbeg
        go_enter Try.func27, Try.ntmps27
        go_wp2_with fail
        refine wp_region_in (Mem w) (by kernel_rfl) (by kernel_rfl) (Mem.drew w) ?_
        intro hne
        repeat (go_big_quiet_step ((fail)))
        refine wpQuiet_nil ?_
        rintro ⟨w1, ok1⟩
        have hbr2 : b + 1 ≤ w1.heap.size := Nat.le_trans hbr1 ok1.size
        obtain ⟨p0', p1', p2', p3', p4', p5'⟩ := (HROW.out 0 P (by rw [HPE.out.1]; exact pk_at (by omega))).keep (w' := w1) fun i => ok1.cell (p := ⟨b, i, none⟩) hbB
        obtain ⟨e0', e1', e2', e3', e4', e5'⟩ := (HROW.out e E (by rw [HPE.out.2]; exact pk_at (by omega))).keep (w' := w1) fun i => ok1.cell (p := ⟨b, i, none⟩) hbB
        rw [h5] at e5'; simp only [Nat.zero_mul, Nat.add_zero] at p0' p1' p2' p3' p4' p5'
        clear hne
        go_wp2_with fail
        refine wp_region_in (Mem w1) (by kernel_rfl) (by kernel_rfl) (Mem.drew w1) ?_
        intro hne
        repeat (go_big_quiet_step ((fail)))
        refine wpQuiet_nil ?_
        rintro ⟨w2, ok2⟩
        have B2 := Fr.step (w := w) ok1 ok2
        clear hne
        go_wp2_with fail
        go_ret
        rw [HW.out]
        exact ⟨rfl, B2⟩
      · rw [h5] at e5
        by_cases hd : E.wd - P.wd = (e : Int) - ((0 : Nat) : Int)
        · have hdb : (E.wd - P.wd == (e : Int) - ((0 : Nat) : Int)) = true := by simpa using hd
          have hdb' : (E.wd - P.wd == (e : Int)) = true := by simpa using hd
          have HW := Lib.hid (show wholeB ps 0 e = true by unfold wholeB; rw [hbeg, ← HPE.out.2, ← HPE.out.1]; rw [h5]; simpa using hd)
          clear hbeg
          go_enter Try.func27, Try.ntmps27
          go_wp2_with fail
          refine wp_region_in (Mem w) (by kernel_rfl) (by kernel_rfl) (Mem.drew w) ?_
          intro hne
          repeat (go_big_quiet_step ((fail)))
          refine wpQuiet_nil ?_
          rintro ⟨w1, ok1⟩
          have hbr2 : b + 1 ≤ w1.heap.size := Nat.le_trans hbr1 ok1.size
          obtain ⟨p0', p1', p2', p3', p4', p5'⟩ := (HROW.out 0 P (by rw [HPE.out.1]; exact pk_at (by omega))).keep (w' := w1) fun i => ok1.cell (p := ⟨b, i, none⟩) hbB
          obtain ⟨e0', e1', e2', e3', e4', e5'⟩ := (HROW.out e E (by rw [HPE.out.2]; exact pk_at (by omega))).keep (w' := w1) fun i => ok1.cell (p := ⟨b, i, none⟩) hbB
          rw [h5] at e5'; simp only [Nat.zero_mul, Nat.add_zero] at p0' p1' p2' p3' p4' p5'
          clear hne
          go_wp2_with fail
          refine wp_region_in (Mem w1) (by kernel_rfl) (by kernel_rfl) (Mem.drew w1) ?_
          intro hne
          repeat (go_big_quiet_step ((fail)))
          refine wpQuiet_nil ?_
          rintro ⟨w2, ok2⟩
          have B2 := Fr.step (w := w) ok1 ok2
          clear hne
          go_wp2_with fail
          go_ret
          rw [HW.out]
          exact ⟨rfl, B2⟩
        · have hdb : (E.wd - P.wd == (e : Int) - ((0 : Nat) : Int)) = false := by simpa using hd
          have hdb' : (E.wd - P.wd == (e : Int)) = false := by simpa using hd
          have HW := Lib.hid (show wholeB ps 0 e = false by unfold wholeB; rw [hbeg, ← HPE.out.2, ← HPE.out.1]; rw [h5]; simpa using hd)
          clear hbeg
          go_enter Try.func27, Try.ntmps27
          go_wp2_with fail
          refine wp_region_in (Mem w) (by kernel_rfl) (by kernel_rfl) (Mem.drew w) ?_
          intro hne
          repeat (go_big_quiet_step ((fail)))
          refine wpQuiet_nil ?_
          rintro ⟨w1, ok1⟩
          have hbr2 : b + 1 ≤ w1.heap.size := Nat.le_trans hbr1 ok1.size
          obtain ⟨p0', p1', p2', p3', p4', p5'⟩ := (HROW.out 0 P (by rw [HPE.out.1]; exact pk_at (by omega))).keep (w' := w1) fun i => ok1.cell (p := ⟨b, i, none⟩) hbB
          obtain ⟨e0', e1', e2', e3', e4', e5'⟩ := (HROW.out e E (by rw [HPE.out.2]; exact pk_at (by omega))).keep (w' := w1) fun i => ok1.cell (p := ⟨b, i, none⟩) hbB
          rw [h5] at e5'; simp only [Nat.zero_mul, Nat.add_zero] at p0' p1' p2' p3' p4' p5'
          clear hne
          go_wp2_with fail
          refine wp_region_in (Mem w1) (by kernel_rfl) (by kernel_rfl) (Mem.drew w1) ?_
          intro hne
          repeat (go_big_quiet_step ((fail)))
          refine wpQuiet_nil ?_
          rintro ⟨w2, ok2⟩
          have B2 := Fr.step (w := w) ok1 ok2
          clear hne
          go_wp2_with fail
          go_ret
          rw [HW.out]
          exact ⟨rfl, B2⟩
  · obtain ⟨g, rfl⟩ : ∃ g, f = g + 1 := ⟨f - 1, by omega⟩
    obtain ⟨G, hG⟩ : ∃ G, G = pk ps g := ⟨_, rfl⟩
    have hGw := hwd g (by omega)
    rw [← hG] at hGw
    obtain ⟨g0, g1, g2, g3, g4, g5⟩ := HROW.out g G (by rw [hG]; exact pk_at (by omega))
    have HG := Lib.hid hG
    have i0 : (0 : Int) ≤ (g : Int) := by omega
    have i1 : (g : Int) < (ps.length : Int) := by omega
    have fpos : (0 : Int) < ((g + 1 : Nat) : Int) := by omega
    have fz : (((g + 1 : Nat) : Int) == 0) = false := by simp; omega
    have wg : IntKind.i64.wrap (((g + 1 : Nat) : Int) - 1) = (g : Int) := by rw [IntWalk.i64_in _ (by omega)]; omega
    have wg1 : IntKind.i64.wrap (G.wd + 1) = G.wd + 1 := IntWalk.i64_in _ (by omega)
    obtain ⟨F, hF⟩ : ∃ F : Int, F = ((g + 1 : Nat) : Int) := ⟨_, rfl⟩
    rw [← hF] at f0 f1 fpos fz wg wd2 ⊢
    have HF := Lib.hid hF
    have hft : F.toNat = g + 1 := by omega
    clear hG hf hF
    cases hl5 : G.l
    · rw [hl5] at g5
      have HW := Lib.hid (show wholeB ps (g + 1) e = false by unfold wholeB; rw [begB_succ, ← HG.out, hl5]; rfl)
      go_enter Try.func27, Try.ntmps27
      go_wp2_with fail
      refine wp_region_in (Mem w) (by kernel_rfl) (by kernel_rfl) (Mem.drew w) ?_
      intro hne
      repeat (go_big_quiet_step ((fail)))
      refine wpQuiet_nil ?_
      rintro ⟨w1, ok1⟩
      clear hne
      go_wp2_with fail
      go_ret
      rw [HW.out]
      exact ⟨rfl, ok1⟩
    rw [hl5] at g5
    by_cases hq : G.wd + 1 = P.wd
    · have hqb : (G.wd + 1 == P.wd) = true := by simp [hq]
      have hqn : (G.wd + 1 != P.wd) = false := by simp [hq]
      have hbeg : begB ps (g + 1) = true := by rw [begB_succ, ← HG.out, ← HPE.out.1, hl5]; simpa using hq
      clear hq
      cases h5 : E.l
      · rw [h5] at e5
        have HW := Lib.hid (show wholeB ps (g + 1) e = false by unfold wholeB; rw [hbeg, ← HPE.out.2, ← HPE.out.1, ← HF.out]; rw [h5]; simp)
        clear hbeg
        go_enter Try.func27, Try.ntmps27
        go_wp2_with fail
        refine wp_region_in (Mem w) (by kernel_rfl) (by kernel_rfl) (Mem.drew w) ?_
        intro hne
        repeat (go_big_quiet_step ((fail)))
        refine wpQuiet_nil ?_
        rintro ⟨w1, ok1⟩
        have hbr2 : b + 1 ≤ w1.heap.size := Nat.le_trans hbr1 ok1.size
        obtain ⟨p0', p1', p2', p3', p4', p5'⟩ := (HROW.out (g + 1) P (by rw [HPE.out.1]; exact pk_at (by omega))).keep (w' := w1) fun i => ok1.cell (p := ⟨b, i, none⟩) hbB
        obtain ⟨e0', e1', e2', e3', e4', e5'⟩ := (HROW.out e E (by rw [HPE.out.2]; exact pk_at (by omega))).keep (w' := w1) fun i => ok1.cell (p := ⟨b, i, none⟩) hbB
        rw [h5] at e5'
        clear hne
        go_wp2_with fail
        refine wp_region_in (Mem w1) (by kernel_rfl) (by kernel_rfl) (Mem.drew w1) ?_
        intro hne
        repeat (go_big_quiet_step ((fail)))
        refine wpQuiet_nil ?_
        rintro ⟨w2, ok2⟩
        have B2 := Fr.step (w := w) ok1 ok2
        clear hne
        go_wp2_with fail
        go_ret
        rw [HW.out]
        exact ⟨rfl, B2⟩
      · rw [h5] at e5
        by_cases hd : E.wd - P.wd = (e : Int) - F
        · have hdb : (E.wd - P.wd == (e : Int) - F) = true := by simpa using hd
          have HW := Lib.hid (show wholeB ps (g + 1) e = true by unfold wholeB; rw [hbeg, ← HPE.out.2, ← HPE.out.1, ← HF.out]; rw [h5]; simpa using hd)
          clear hbeg
          go_enter Try.func27, Try.ntmps27
          go_wp2_with fail
          refine wp_region_in (Mem w) (by kernel_rfl) (by kernel_rfl) (Mem.drew w) ?_
          intro hne
          repeat (go_big_quiet_step ((fail)))
          refine wpQuiet_nil ?_
          rintro ⟨w1, ok1⟩
          have hbr2 : b + 1 ≤ w1.heap.size := Nat.le_trans hbr1 ok1.size
          obtain ⟨p0', p1', p2', p3', p4', p5'⟩ := (HROW.out (g + 1) P (by rw [HPE.out.1]; exact pk_at (by omega))).keep (w' := w1) fun i => ok1.cell (p := ⟨b, i, none⟩) hbB
          obtain ⟨e0', e1', e2', e3', e4', e5'⟩ := (HROW.out e E (by rw [HPE.out.2]; exact pk_at (by omega))).keep (w' := w1) fun i => ok1.cell (p := ⟨b, i, none⟩) hbB
          rw [h5] at e5'
          clear hne
          go_wp2_with fail
          refine wp_region_in (Mem w1) (by kernel_rfl) (by kernel_rfl) (Mem.drew w1) ?_
          intro hne
          repeat (go_big_quiet_step ((fail)))
          refine wpQuiet_nil ?_
          rintro ⟨w2, ok2⟩
          have B2 := Fr.step (w := w) ok1 ok2
          clear hne
          go_wp2_with fail
          go_ret
          rw [HW.out]
          exact ⟨rfl, B2⟩
        · have hdb : (E.wd - P.wd == (e : Int) - F) = false := by simpa using hd
          have HW := Lib.hid (show wholeB ps (g + 1) e = false by unfold wholeB; rw [hbeg, ← HPE.out.2, ← HPE.out.1, ← HF.out]; rw [h5]; simpa using hd)
          clear hbeg
          go_enter Try.func27, Try.ntmps27
          go_wp2_with fail
          refine wp_region_in (Mem w) (by kernel_rfl) (by kernel_rfl) (Mem.drew w) ?_
          intro hne
          repeat (go_big_quiet_step ((fail)))
          refine wpQuiet_nil ?_
          rintro ⟨w1, ok1⟩
          have hbr2 : b + 1 ≤ w1.heap.size := Nat.le_trans hbr1 ok1.size
          obtain ⟨p0', p1', p2', p3', p4', p5'⟩ := (HROW.out (g + 1) P (by rw [HPE.out.1]; exact pk_at (by omega))).keep (w' := w1) fun i => ok1.cell (p := ⟨b, i, none⟩) hbB
          obtain ⟨e0', e1', e2', e3', e4', e5'⟩ := (HROW.out e E (by rw [HPE.out.2]; exact pk_at (by omega))).keep (w' := w1) fun i => ok1.cell (p := ⟨b, i, none⟩) hbB
          rw [h5] at e5'
          clear hne
          go_wp2_with fail
          refine wp_region_in (Mem w1) (by kernel_rfl) (by kernel_rfl) (Mem.drew w1) ?_
          intro hne
          repeat (go_big_quiet_step ((fail)))
          refine wpQuiet_nil ?_
          rintro ⟨w2, ok2⟩
          have B2 := Fr.step (w := w) ok1 ok2
          clear hne
          go_wp2_with fail
          go_ret
          rw [HW.out]
          exact ⟨rfl, B2⟩
    · have hqb : (G.wd + 1 == P.wd) = false := by simp [hq]
      have hqn : (G.wd + 1 != P.wd) = true := by simp [hq]
      have HW := Lib.hid (show wholeB ps (g + 1) e = false by unfold wholeB; rw [begB_succ, ← HG.out, ← HPE.out.1, hqb]; simp)
      clear hq
      go_enter Try.func27, Try.ntmps27
      go_wp2_with fail
      refine wp_region_in (Mem w) (by kernel_rfl) (by kernel_rfl) (Mem.drew w) ?_
      intro hne
      repeat (go_big_quiet_step ((fail)))
      refine wpQuiet_nil ?_
      rintro ⟨w1, ok1⟩
      clear hne
      go_wp2_with fail
      go_ret
      rw [HW.out]
      exact ⟨rfl, ok1⟩

end Go.Proofs.Ytjdpagjcbhkonaa
