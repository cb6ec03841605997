/-
  pictureWhole of the program: for valid packets the plain function of the packets.
-/
import Derived.Test.YtjdpagjcbhkonaaPicLaw
namespace Go.Proofs.Ytjdpagjcbhkonaa
open Go.RowKit
set_option linter.unusedSimpArgs false
set_option linter.unusedVariables false

theorem whole_gap {ps : List Pk} (h : pvsB ps = true) {f j e : Nat} (hfj : f ≤ j) (hje : j + 1 ≤ e) (he : e < ps.length) (hn : (pk ps (j + 1)).wd ≠ (pk ps j).wd + 1) : wholeB ps f e = false := by
  have a := pvs_asc h (i := f) (j := j) hfj (by omega)
  have b := pvs_asc h (i := j + 1) (j := e) hje he
  have c := (pvs_step h (i := j) (by omega)).1
  have hd : ((pk ps e).wd - (pk ps f).wd == (e : Int) - (f : Int)) = false := by simp; omega
  unfold wholeB
  rw [hd]
  simp
theorem whole_last {ps : List Pk} {f e : Nat} (h : (pk ps e).l = false) : wholeB ps f e = false := by unfold wholeB; rw [h]; simp
theorem whole_run {ps : List Pk} {f e : Nat} (h : (pk ps e).l = true) (hd : (pk ps e).wd - (pk ps f).wd = (e : Int) - (f : Int)) : wholeB ps f e = begB ps f := by
  unfold wholeB; rw [h, hd]; simp

set_option maxHeartbeats 4000000 in
theorem whole_any (A : Option Addr) (ps : List Pk) (cap f t : Nat) (w : World) (hp : PkRow w w.heap.size A ps) (hl : ps.length ≤ cap) (hm : cap ≤ 9223372036854775807) (hv : pvsB ps = true) (hft : f < t) (htl : t ≤ ps.length) :
    Calls Try.prog 26 #[.slice A ps.length cap, .int .i64 (f : Int), .int .i64 (t : Int)] w fun e_ w' => e_ = .returned (.bool (wholeB ps f (t - 1))) ∧ Below w.heap.size w w' := by
  obtain ⟨b, off, rfl, hbB, hrow⟩ := hp (by omega)
  have hl20 := (pvsB_iff.1 hv).1
  obtain ⟨e, rfl⟩ : ∃ e, t = e + 1 := ⟨t - 1, by omega⟩
  rw [show e + 1 - 1 = e from rfl]
  have HV := Lib.hid hv
  have HROW := Lib.hid hrow
  have hbr1 : b + 1 ≤ w.heap.size := hbB
  have wf : IntKind.i64.wrap ((f : Int) + 1) = ((f + 1 : Nat) : Int) := by rw [IntWalk.i64_in _ (by omega)]; omega
  obtain ⟨T, hT⟩ : ∃ T : Int, T = ((e + 1 : Nat) : Int) := ⟨_, rfl⟩
  have HT := Lib.hid hT
  have HFE := Lib.hid (And.intro hft htl)
  have f0 : (0 : Int) ≤ (f : Int) := by omega
  have f1 : (f : Int) < (ps.length : Int) := by omega
  rw [← hT]
  clear hp hv hrow hT hft htl
  go_enter Try.func26, Try.ntmps26
  go_wp2_with fail
  go_loopw [7] (fun c wr => ∃ i : Nat, f ≤ i ∧ i ≤ e ∧ c = .int .i64 ((i + 1 : Nat) : Int) ∧ (pk ps i).wd - (pk ps f).wd = (i : Int) - (f : Int) ∧ Below w.heap.size w wr) (fun c _ => e + 1 - (intOf c).toNat)
  case atStart => exact ⟨f, Nat.le_refl _, by have := HFE.out; omega, rfl, by simp, Below.refl _ _⟩
  case round =>
    obtain ⟨i, hfi, hie, rfl, hrun, hbel⟩ := hrel
    have hsz := hbel.size
    have hbr2 : b + 1 ≤ wr.heap.size := by omega
    have hwi := pvs_wd HV.out (i := i) (by have := HFE.out; omega)
    obtain ⟨I, hI⟩ : ∃ I, I = pk ps i := ⟨_, rfl⟩
    obtain ⟨p0, p1, p2, p3, p4, p5⟩ := (HROW.out i I (by rw [hI]; exact pk_at (by have := HFE.out; omega))).keep (w' := wr) fun k => hbel.cell (p := ⟨b, k, none⟩) hbB
    have HI := Lib.hid hI
    have HR := Lib.hid hrun
    rw [← hI] at hwi
    have i0 : (0 : Int) ≤ (i : Int) := by omega
    have i1 : (i : Int) < (ps.length : Int) := by have := HFE.out; omega
    clear hI hrun
    by_cases hlt : i < e
    · obtain ⟨J, hJ⟩ : ∃ J, J = pk ps (i + 1) := ⟨_, rfl⟩
      obtain ⟨q0, q1, q2, q3, q4, q5⟩ := (HROW.out (i + 1) J (by rw [hJ]; exact pk_at (by have := HFE.out; omega))).keep (w' := wr) fun k => hbel.cell (p := ⟨b, k, none⟩) hbB
      have HJ := Lib.hid hJ
      obtain ⟨K, hK⟩ : ∃ K : Int, K = ((i + 1 : Nat) : Int) := ⟨_, rfl⟩
      have j0 : (0 : Int) ≤ K := by omega
      have j1 : K < (ps.length : Int) := by have := HFE.out; omega
      have kt : K < T := by have := HT.out; omega
      have kn : K.toNat = i + 1 := by omega
      have kw : IntKind.i64.wrap (K + 1) = ((i + 1 + 1 : Nat) : Int) := by rw [IntWalk.i64_in _ (by omega)]; omega
      have km : IntKind.i64.wrap (K - 1) = (i : Int) := by rw [IntWalk.i64_in _ (by omega)]; omega
      have ww : IntKind.i64.wrap (I.wd + 1) = I.wd + 1 := IntWalk.i64_in _ (by omega)
      have hm1 : (intOf (.int .i64 K)).toNat = i + 1 := kn
      rw [← hK]
      have HK := Lib.hid hK
      clear hJ hK
      by_cases hq : J.wd = I.wd + 1
      · have hqb : (J.wd == I.wd + 1) = true := by simp [hq]
        have hqn : (J.wd != I.wd + 1) = false := by simp [hq]
        have HQ := Lib.hid (show (pk ps (i + 1)).wd - (pk ps f).wd = ((i + 1 : Nat) : Int) - (f : Int) by have := HR.out; rw [← HJ.out, hq, HI.out]; omega)
        clear hq
        go_wp2_with fail
        refine wp_region_in (Mem wr) (by kernel_rfl) (by kernel_rfl) (Mem.drew wr) ?_
        intro hne
        repeat (go_big_quiet_step ((fail)))
        refine wpQuiet_nil ?_
        rintro ⟨w1, ok1⟩
        have B1 := Fr.step hbel ok1
        clear hne
        go_wp2_with fail
        go_roundw
        case rel => exact ⟨i + 1, by omega, by omega, rfl, HQ.out, B1⟩
        case measure => simp [intOf]; omega
      · have hqb : (J.wd == I.wd + 1) = false := by simp [hq]
        have hqn : (J.wd != I.wd + 1) = true := by simp [hq]
        have HQ := Lib.hid (show wholeB ps f e = false from whole_gap HV.out (j := i) hfi (by omega) (by have := HFE.out; omega) (by rw [← HJ.out, ← HI.out]; exact hq))
        clear hq
        go_wp2_with fail
        refine wp_region_in (Mem wr) (by kernel_rfl) (by kernel_rfl) (Mem.drew wr) ?_
        intro hne
        repeat (go_big_quiet_step ((fail)))
        refine wpQuiet_nil ?_
        rintro ⟨w1, ok1⟩
        have B1 := Fr.step hbel ok1
        clear hne
        go_wp2_with fail
        go_ret
        rw [show wholeB ps f e = false from HQ.out]
        exact ⟨rfl, B1⟩
    · obtain rfl : i = e := by omega
      obtain ⟨K, hK⟩ : ∃ K : Int, K = ((i + 1 : Nat) : Int) := ⟨_, rfl⟩
      have kt : ¬ K < T := by have := HT.out; omega
      have tm1 : IntKind.i64.wrap (T - 1) = (i : Int) := by have := HT.out; rw [IntWalk.i64_in _ (by omega)]; omega
      rw [← hK]
      clear hK
      cases h5 : I.l
      · have HQ := Lib.hid (show wholeB ps f i = false from whole_last (by rw [← HI.out]; exact h5))
        rw [h5] at p5
        go_wp2_with fail
        go_ret
        rw [show wholeB ps f i = false from HQ.out]
        exact ⟨rfl, hbel⟩
      · have HQ := Lib.hid (show wholeB ps f i = begB ps f from whole_run (by rw [← HI.out]; exact h5) HR.out)
        rw [h5] at p5
        obtain ⟨P, hP⟩ : ∃ P, P = pk ps f := ⟨_, rfl⟩
        obtain ⟨r0, r1, r2, r3, r4, r5⟩ := (HROW.out f P (by rw [hP]; exact pk_at (by have := HFE.out; omega))).keep (w' := wr) fun k => hbel.cell (p := ⟨b, k, none⟩) hbB
        have HP := Lib.hid hP
        clear hP
        rcases Nat.eq_zero_or_pos f with hf | hf
        · subst hf
          simp only [Nat.zero_mul, Nat.add_zero] at r0 r1 r2 r3 r4 r5
          have HE := Lib.hid (show wholeB ps 0 i = P.k by rw [HQ.out, begB_zero, ← HP.out])
          go_wp2_with fail
          go_ret
          rw [HE.out]
          exact ⟨rfl, hbel⟩
        · obtain ⟨g, rfl⟩ : ∃ g, f = g + 1 := ⟨f - 1, by omega⟩
          obtain ⟨G, hG⟩ : ∃ G, G = pk ps g := ⟨_, rfl⟩
          obtain ⟨g0, g1, g2, g3, g4, g5⟩ := (HROW.out g G (by rw [hG]; exact pk_at (by have := HFE.out; omega))).keep (w' := wr) fun k => hbel.cell (p := ⟨b, k, none⟩) hbB
          have hwg := pvs_wd HV.out (i := g) (by have := HFE.out; omega)
          rw [← hG] at hwg
          have HE := Lib.hid (show wholeB ps (g + 1) i = (G.l && (G.wd + 1 == P.wd)) by rw [HQ.out, begB_succ, ← HP.out, ← hG])
          have y0 : (0 : Int) ≤ (g : Int) := by omega
          have y1 : (g : Int) < (ps.length : Int) := by have := HFE.out; omega
          obtain ⟨F, hF⟩ : ∃ F : Int, F = ((g + 1 : Nat) : Int) := ⟨_, rfl⟩
          rw [← hF] at f0 f1 wf ⊢
          have fz : (F == 0) = false := by simp; omega
          have ft : F.toNat = g + 1 := by omega
          have wg : IntKind.i64.wrap (F - 1) = (g : Int) := by rw [IntWalk.i64_in _ (by omega)]; omega
          have wg1 : IntKind.i64.wrap (G.wd + 1) = G.wd + 1 := IntWalk.i64_in _ (by omega)
          clear hG hF
          cases hgl : G.l
          · rw [hgl] at g5
            have HE2 := Lib.hid (show wholeB ps (g + 1) i = false by rw [HE.out, hgl]; rfl)
            go_upto_region 11 with fail
            have BB := Blk.new wr 31 #[.int .i64 G.wd, .int .i64 G.tm, .int .i64 G.ly, .int .i64 G.sz, .bool G.k, .bool false] rfl
            have LB := Fr.alloc hbel (.cells #[.int .i64 G.wd, .int .i64 G.tm, .int .i64 G.ly, .int .i64 G.sz, .bool G.k, .bool false] 31)
            have RP : Six (wr.alloc (.cells #[.int .i64 G.wd, .int .i64 G.tm, .int .i64 G.ly, .int .i64 G.sz, .bool G.k, .bool false] 31)) b (off + (g + 1) * 6) P := Six.keep ⟨r0, r1, r2, r3, r4, r5⟩ fun k => (Below.alloc (Below.refl wr.heap.size wr) (Nat.le_refl _) _).cell (p := ⟨b, k, none⟩) hbr2
            have hWs : (wr.alloc (.cells #[.int .i64 G.wd, .int .i64 G.tm, .int .i64 G.ly, .int .i64 G.sz, .bool G.k, .bool false] 31)).heap.size = wr.heap.size + 1 := by simp
            generalize wr.alloc (.cells #[.int .i64 G.wd, .int .i64 G.tm, .int .i64 G.ly, .int .i64 G.sz, .bool G.k, .bool false] 31) = W at BB LB RP hWs ⊢
            have cB := BB.cells
            have lB : wr.heap.size + 1 ≤ W.heap.size := by omega
            have lb : b + 1 ≤ W.heap.size := by omega
            obtain ⟨r0', r1', r2', r3', r4', r5'⟩ := RP
            clear hWs BB
            refine wp_region_in (Mem W) (by kernel_rfl) (by kernel_rfl) (Mem.drew W) ?_
            intro hne
            repeat (go_big_quiet_step ((fail)))
            refine wpQuiet_nil ?_
            rintro ⟨w1, ok1⟩
            have B1 := Fr.step LB ok1
            clear hne
            go_wp2_with fail
            go_ret
            rw [HE2.out]
            exact ⟨rfl, B1⟩
          · rw [hgl] at g5
            have HE2 := Lib.hid (show wholeB ps (g + 1) i = (G.wd + 1 == P.wd) by rw [HE.out, hgl]; rfl)
            go_upto_region 11 with fail
            have BB := Blk.new wr 31 #[.int .i64 G.wd, .int .i64 G.tm, .int .i64 G.ly, .int .i64 G.sz, .bool G.k, .bool true] rfl
            have LB := Fr.alloc hbel (.cells #[.int .i64 G.wd, .int .i64 G.tm, .int .i64 G.ly, .int .i64 G.sz, .bool G.k, .bool true] 31)
            have RP : Six (wr.alloc (.cells #[.int .i64 G.wd, .int .i64 G.tm, .int .i64 G.ly, .int .i64 G.sz, .bool G.k, .bool true] 31)) b (off + (g + 1) * 6) P := Six.keep ⟨r0, r1, r2, r3, r4, r5⟩ fun k => (Below.alloc (Below.refl wr.heap.size wr) (Nat.le_refl _) _).cell (p := ⟨b, k, none⟩) hbr2
            have hWs : (wr.alloc (.cells #[.int .i64 G.wd, .int .i64 G.tm, .int .i64 G.ly, .int .i64 G.sz, .bool G.k, .bool true] 31)).heap.size = wr.heap.size + 1 := by simp
            generalize wr.alloc (.cells #[.int .i64 G.wd, .int .i64 G.tm, .int .i64 G.ly, .int .i64 G.sz, .bool G.k, .bool true] 31) = W at BB LB RP hWs ⊢
            have cB := BB.cells
            have lB : wr.heap.size + 1 ≤ W.heap.size := by omega
            have lb : b + 1 ≤ W.heap.size := by omega
            obtain ⟨r0', r1', r2', r3', r4', r5'⟩ := RP
            clear hWs BB
            refine wp_region_in (Mem W) (by kernel_rfl) (by kernel_rfl) (Mem.drew W) ?_
            intro hne
            repeat (go_big_quiet_step ((fail)))
            refine wpQuiet_nil ?_
            rintro ⟨w1, ok1⟩
            have B1 := Fr.step LB ok1
            clear hne
            go_wp2_with fail
            go_ret
            rw [HE2.out]
            exact ⟨rfl, B1⟩

end Go.Proofs.Ytjdpagjcbhkonaa
