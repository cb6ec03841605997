/-
  PacketsValid in the program and in the reference: both return one plain function of the packets.
-/
import Derived.Test.YtjdpagjcbhkonaaPks
namespace Go.Proofs.Ytjdpagjcbhkonaa
open Go.RowKit
set_option linter.unusedSimpArgs false
set_option linter.unusedVariables false

theorem pvSpecM (wd tm ly sz : Int) (k l : Bool) (w : World) {b : Bool} (h : pvB wd tm ly sz = b) :
    Calls Try.prog 28 #[.agg #[.int .i64 wd, .int .i64 tm, .int .i64 ly, .int .i64 sz, .bool k, .bool l]] w fun e w' => e = .returned (.bool b) ∧ Below w.heap.size w w' :=
  (pvSpec wd tm ly sz k l w).mono fun _ _ ⟨he, o, hw⟩ => ⟨h ▸ he, hw ▸ Fr.alloc (Below.refl _ _) _⟩

set_option maxHeartbeats 1000000 in
theorem pvsImpl (A : Option Addr) (ps : List Pk) (cap : Nat) (w : World) (hp : PkRow w w.heap.size A ps) (hl : ps.length ≤ cap) (hm : cap ≤ 9223372036854775807) :
    Calls Try.prog 24 #[.slice A ps.length cap] w fun e w' => e = .returned (.bool (pvsB ps)) ∧ Below w.heap.size w w' := by
  by_cases h20 : (20 : Int) < (ps.length : Int)
  · have H := Lib.hid (show pvsB ps = false by cases h : pvsB ps; rfl; have := (pvsB_iff.1 h).1; omega)
    go_enter Try.func24, Try.ntmps24
    go_wp2_with fail
    go_ret
    rw [H.out]; exact ⟨rfl, Below.refl _ _⟩
  · go_enter Try.func24, Try.ntmps24
    go_wp2_with fail
    go_loopw [10] (fun c wr => ∃ k : Nat, k ≤ ps.length ∧ c = .int .i64 k ∧ okTo ps k = true ∧ Below w.heap.size w wr) (fun c _ => ps.length - (intOf c).toNat)
    case atStart => exact ⟨0, Nat.zero_le _, rfl, rfl, Below.refl _ _⟩
    case round =>
      obtain ⟨k, hk, rfl, hok, hbel⟩ := hrel
      have HOK := Lib.hid hok
      clear hok
      by_cases hlt : k < ps.length
      · obtain ⟨b, off, rfl, hb, hrow⟩ := hp (by omega)
        obtain ⟨p, hpk⟩ : ∃ p, ps[k]? = some p := ⟨ps[k], List.getElem?_eq_getElem hlt⟩
        have hsz := hbel.size
        obtain ⟨c0, c1, c2, c3, c4, c5⟩ := (hrow k p hpk).keep (w' := wr) fun i => hbel.cell (p := ⟨b, i, none⟩) hb
        have HPK := Lib.hid hpk
        clear hpk
        have hbr : b < wr.heap.size := by omega
        have hkb : (k : Int) ≤ 20 := by omega
        cases hv : pvB p.wd p.tm p.ly p.sz
        · have H := Lib.hid (show pvsB ps = false by
            cases h : pvsB ps
            · rfl
            · have h1 := (pvsB_iff.1 h).2 k hlt
              unfold okAt pvP at h1
              rw [HPK.out] at h1
              simp [hv] at h1)
          have HV := Lib.hid hv
          clear hv
          go_wp2_with (go_at_call 32; refine (pvImpl _ _ _ _ _ _ _).mono ?_; rintro e w' ⟨rfl, o1, rfl⟩; rw [HV.out])
          go_ret
          rw [H.out]; exact ⟨rfl, Fr.alloc2 hbel _ _⟩
        · have HV := Lib.hid hv
          clear hv
          rcases Nat.eq_zero_or_pos k with hk0 | hk0
          · have HPK0 := Lib.hid (show ps[0]? = some p by rw [← HPK.out, hk0])
            have H := Lib.hid (show okTo ps (k + 1) = true by rw [okTo_succ, HOK.out, hk0, okAt_zero HPK0.out]; unfold pvP; rw [HV.out]; rfl)
            have hd0 : decide ((0 : Int) < (k : Int)) = false := by simp [hk0]
            have hd1 : decide (0 < k) = false := by simp [hk0]
            clear hk0
            go_wp2_with (go_at_call 32; refine (pvImpl _ _ _ _ _ _ _).mono ?_; rintro e w' ⟨rfl, o1, rfl⟩; rw [HV.out])
            go_quiet (fail)
            go_wp2_with fail
            go_roundw
            case rel => exact ⟨k + 1, by omega, by go_num, H.out, below_drewN (Fr.alloc2 hbel _ _) _⟩
            case measure => simp [intOf]; omega
          · obtain ⟨j, rfl⟩ : ∃ j, k = j + 1 := ⟨k - 1, by omega⟩
            obtain ⟨q, hqj⟩ : ∃ q, ps[j]? = some q := ⟨ps[j], List.getElem?_eq_getElem (by omega)⟩
            obtain ⟨d0, d1, d2, d3, d4, d5⟩ := (hrow j q hqj).keep (w' := wr) fun i => hbel.cell (p := ⟨b, i, none⟩) hb
            have HQ := Lib.hid hqj
            clear hqj
            have hj0 : (0 : Int) ≤ (j : Int) := by omega
            have hj1 : (j : Int) < (ps.length : Int) := by omega
            have ej : ((j + 1 : Nat) : Int) - 1 = (j : Int) := by omega
            go_wp2_with (go_at_call 32; refine (pvImpl _ _ _ _ _ _ _).mono ?_; rintro e w' ⟨rfl, o1, rfl⟩; rw [HV.out])

            by_cases hx : p.wd ≤ q.wd
            · go_quiet (fail)
              go_wp2_with fail
              go_ret
              rw [pvs_no hlt (by rw [okAt_succ HPK.out HQ.out, stepB_no1 hx]; simp)]
              exact ⟨rfl, below_drewN (Fr.alloc2 hbel _ _) _⟩
            · have hx' : decide (p.wd ≤ q.wd) = false := by simpa using hx
              by_cases hy : p.tm < q.tm
              · go_quiet (fail)
                go_wp2_with fail
                go_ret
                rw [pvs_no hlt (by rw [okAt_succ HPK.out HQ.out, stepB_no2 hy]; simp)]
                exact ⟨rfl, below_drewN (Fr.alloc2 hbel _ _) _⟩
              · go_quiet (fail)
                go_wp2_with fail
                go_roundw
                case rel => exact ⟨j + 1 + 1, by omega, by go_num, by rw [okTo_succ, HOK.out, okAt_succ HPK.out HQ.out, stepB_yes hx hy]; unfold pvP; rw [HV.out]; rfl, below_drewN (Fr.alloc2 hbel _ _) _⟩
                case measure => simp [intOf]; omega
      · have : k = ps.length := by omega
        subst this
        have H := Lib.hid (show pvsB ps = true by unfold pvsB; rw [HOK.out]; simp; omega)
        go_wp2_with fail
        go_ret
        rw [H.out]; exact ⟨rfl, hbel⟩

set_option maxHeartbeats 1000000 in
theorem pvsSpec (A : Option Addr) (ps : List Pk) (cap : Nat) (w : World) (hp : PkRow w w.heap.size A ps) (hl : ps.length ≤ cap) (hm : cap ≤ 9223372036854775807) :
    Calls Try.prog 13 #[.slice A ps.length cap] w fun e w' => e = .returned (.bool (pvsB ps)) ∧ Below w.heap.size w w' := by
  go_enter Try.func13, Try.ntmps13
  go_wp2_with fail
  go_loopw [3] (fun c wr => ∃ k : Nat, k ≤ ps.length ∧ c = .int .i64 k ∧ okTo ps k = true ∧ Below w.heap.size w wr) (fun c _ => ps.length - (intOf c).toNat)
  case atStart => exact ⟨0, Nat.zero_le _, rfl, rfl, Below.refl _ _⟩
  case round =>
    obtain ⟨k, hk, rfl, hok, hbel⟩ := hrel
    have HOK := Lib.hid hok
    clear hok
    by_cases hlt : k < ps.length
    · obtain ⟨b, off, rfl, hb, hrow⟩ := hp (by omega)
      obtain ⟨p, hpk⟩ : ∃ p, ps[k]? = some p := ⟨ps[k], List.getElem?_eq_getElem hlt⟩
      have hsz := hbel.size
      obtain ⟨c0, c1, c2, c3, c4, c5⟩ := (hrow k p hpk).keep (w' := wr) fun i => hbel.cell (p := ⟨b, i, none⟩) hb
      have HPK := Lib.hid hpk
      clear hpk
      have hbr : b < wr.heap.size := by omega
      have hbr1 : b + 1 ≤ wr.heap.size := hbr
      have hi0 : (0 : Int) ≤ (k : Int) := by omega
      have hi1 : (k : Int) < (ps.length : Int) := by omega
      cases hv : pvB p.wd p.tm p.ly p.sz
      · have H := Lib.hid (pvs_no (ps := ps) hlt (by
          unfold okAt pvP
          rw [HPK.out]
          simp [hv]))
        have HV := Lib.hid (fun W => pvSpecM p.wd p.tm p.ly p.sz p.k p.l W hv)
        clear hv
        go_wp2_with fail
        refine wp_region_in (Mem wr) (by kernel_rfl) (by kernel_rfl) (Mem.drew wr) ?_
        intro hne
        repeat (go_big_quiet_step ((go_at_call 28; exact Calls.in_mem _ (HV.out _))))
        refine wpQuiet_nil ?_
        rintro ⟨w1, ok1⟩
        have B1 := Fr.step hbel ok1
        clear hne
        go_wp2_with fail
        go_ret
        rw [H.out]; exact ⟨rfl, B1⟩
      · have HV := Lib.hid (fun W => pvSpecM p.wd p.tm p.ly p.sz p.k p.l W hv)
        have HV1 := Lib.hid hv
        clear hv
        rcases Nat.eq_zero_or_pos k with hk0 | hk0
        · have HPK0 := Lib.hid (show ps[0]? = some p by rw [← HPK.out, hk0])
          have H := Lib.hid (show okTo ps (k + 1) = true by rw [okTo_succ, HOK.out, hk0, okAt_zero HPK0.out]; unfold pvP; rw [HV1.out]; rfl)
          have hd1 : decide (0 < k) = false := by simp [hk0]
          clear hk0
          go_wp2_with fail
          refine wp_region_in (Mem wr) (by kernel_rfl) (by kernel_rfl) (Mem.drew wr) ?_
          intro hne
          repeat (go_big_quiet_step ((go_at_call 28; exact Calls.in_mem _ (HV.out _))))
          refine wpQuiet_nil ?_
          rintro ⟨w1, ok1⟩
          have B1 := Fr.step hbel ok1
          clear hne
          go_wp2_with fail
          go_roundw
          case rel => exact ⟨k + 1, by omega, by go_num, H.out, B1⟩
          case measure => simp [intOf]; omega
        · obtain ⟨j, rfl⟩ : ∃ j, k = j + 1 := ⟨k - 1, by omega⟩
          obtain ⟨q, hqj⟩ : ∃ q, ps[j]? = some q := ⟨ps[j], List.getElem?_eq_getElem (by omega)⟩
          obtain ⟨d0, d1, d2, d3, d4, d5⟩ := (hrow j q hqj).keep (w' := wr) fun i => hbel.cell (p := ⟨b, i, none⟩) hb
          have HQ := Lib.hid hqj
          clear hqj
          have hj0 : (0 : Int) ≤ (j : Int) := by omega
          have hj1 : (j : Int) < (ps.length : Int) := by omega
          go_wp2_with fail
          by_cases hx : p.wd ≤ q.wd
          · refine wp_region_in (Mem wr) (by kernel_rfl) (by kernel_rfl) (Mem.drew wr) ?_
            intro hne
            repeat (go_big_quiet_step ((go_at_call 28; exact Calls.in_mem _ (HV.out _))))
            refine wpQuiet_nil ?_
            rintro ⟨w1, ok1⟩
            have B1 := Fr.step hbel ok1
            clear hne
            go_wp2_with fail
            go_ret
            rw [pvs_no hlt (by rw [okAt_succ HPK.out HQ.out, stepB_no1 hx]; simp)]
            exact ⟨rfl, B1⟩
          · have hx' : decide (p.wd ≤ q.wd) = false := by simpa using hx
            by_cases hy : p.tm < q.tm
            · refine wp_region_in (Mem wr) (by kernel_rfl) (by kernel_rfl) (Mem.drew wr) ?_
              intro hne
              repeat (go_big_quiet_step ((go_at_call 28; exact Calls.in_mem _ (HV.out _))))
              refine wpQuiet_nil ?_
              rintro ⟨w1, ok1⟩
              have B1 := Fr.step hbel ok1
              clear hne
              go_wp2_with fail
              go_ret
              rw [pvs_no hlt (by rw [okAt_succ HPK.out HQ.out, stepB_no2 hy]; simp)]
              exact ⟨rfl, B1⟩
            · refine wp_region_in (Mem wr) (by kernel_rfl) (by kernel_rfl) (Mem.drew wr) ?_
              intro hne
              repeat (go_big_quiet_step ((go_at_call 28; exact Calls.in_mem _ (HV.out _))))
              refine wpQuiet_nil ?_
              rintro ⟨w1, ok1⟩
              have B1 := Fr.step hbel ok1
              clear hne
              go_wp2_with fail
              go_roundw
              case rel => exact ⟨j + 1 + 1, by omega, by go_num, by rw [okTo_succ, HOK.out, okAt_succ HPK.out HQ.out, stepB_yes hx hy]; unfold pvP; rw [HV1.out]; rfl, B1⟩
              case measure => simp [intOf]; omega
    · have : k = ps.length := by omega
      subst this
      have H := Lib.hid (show decide (ps.length ≤ 20) = pvsB ps by unfold pvsB; rw [HOK.out]; simp)
      go_wp2_with fail
      go_ret
      rw [← H.out]; exact ⟨ret_bool (decide_eq_decide.2 (by omega)), hbel⟩

end Go.Proofs.Ytjdpagjcbhkonaa
