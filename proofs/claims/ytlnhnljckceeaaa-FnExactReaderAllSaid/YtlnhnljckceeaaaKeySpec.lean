/-
  PacketsKey of the reference.
-/
import Derived.Test.YtlnhnljckceeaaaLastK
namespace Go.Proofs.Ytlnhnljckceeaaa
open Go.RowKit
set_option linter.unusedSimpArgs false
set_option linter.unusedVariables false

set_option maxHeartbeats 1000000 in
theorem keySpec (A : Option Addr) (ps : List Pk) (cap : Nat) (w : World) (hp : PkRow w w.heap.size A ps) (hl : ps.length ≤ cap) (hm : cap ≤ 9223372036854775807) :
    Calls Try.prog 47 #[.slice A ps.length cap] w fun e w' => e = .returned (.int .i64 (keyF ps)) ∧ Below w.heap.size w w' := by
  by_cases h00 : ps.length = 0
  · have H := Lib.hid (show keyF ps = -1 by unfold keyF; rw [h00]; simp [lastK])
    have hz : ¬ (0 : Int) < (ps.length : Int) := by omega
    have hz1 : decide (0 < ps.length) = false := by simp [h00]
    clear h00
    go_enter Try.func47, Try.ntmps47
    go_wp2_with fail
    go_loopw [3, 4] (fun o c wr => o = .int .i64 (-1) ∧ c = .int .i64 0 ∧ wr = w) (fun _ _ _ => 0)
    case atStart => exact ⟨rfl, rfl, rfl⟩
    case round =>
      obtain ⟨rfl, rfl, rfl⟩ := hrel
      go_wp2_with fail
      go_ret
      rw [H.out]; exact ⟨rfl, Below.refl _ _⟩
  cases hv : pvsB ps
  · have H := Lib.hid (keyF_no hv)
    have HV := Lib.hid hv
    clear hv
    have hz : (0 : Int) < (ps.length : Int) := by omega
    go_enter Try.func47, Try.ntmps47
    go_wp2_with fail
    go_loopw [3, 4] (fun o c wr => o = .int .i64 (-1) ∧ c = .int .i64 0 ∧ wr = w) (fun _ _ _ => 0)
    case atStart => exact ⟨rfl, rfl, rfl⟩
    case round =>
      obtain ⟨rfl, rfl, rfl⟩ := hrel
      go_wp2_with (go_at_call 52; refine (pvsSpec _ _ _ _ hp hl hm).mono ?_; rintro e w' ⟨rfl, hb⟩; rw [HV.out])
      go_ret
      rw [H.out]; exact ⟨rfl, hb⟩
  · have H := Lib.hid (keyF_yes hv)
    have HV := Lib.hid hv
    clear hv
    go_enter Try.func47, Try.ntmps47
    go_wp2_with fail
    go_loopw [3, 4] (fun o c wr => ∃ k : Nat, k ≤ ps.length ∧ c = .int .i64 k ∧ o = .int .i64 (lastK ps k) ∧ Below w.heap.size w wr) (fun _ c _ => ps.length - (intOf c).toNat)
    case atStart => exact ⟨0, Nat.zero_le _, rfl, rfl, Below.refl _ _⟩
    case round =>
      obtain ⟨k, hk, rfl, rfl, hbel⟩ := hrel
      by_cases hlt : k < ps.length
      · have hp' := (hp.below hbel).more hbel.size
        obtain ⟨b, off, rfl, hbB, hrow⟩ := hp (by omega)
        obtain ⟨p, hpk⟩ : ∃ p, ps[k]? = some p := ⟨ps[k], List.getElem?_eq_getElem hlt⟩
        have HPK := Lib.hid hpk
        clear hpk
        have hsz := hbel.size
        cases hkey : p.k
        · have HK := Lib.hid (lastK_no HPK.out hkey)
          have HKEY := Lib.hid hkey
          clear hkey
          go_wp2_with (go_at_call 52; refine (pvsSpec _ _ _ _ hp' hl hm).mono ?_; rintro e w' ⟨rfl, hb⟩; rw [HV.out]; have hbel' := Fr.step hbel hb; obtain ⟨c0, c1, c2, c3, c4, c5⟩ := (hrow k p HPK.out).keep (w' := w') fun j => hbel'.cell (p := ⟨b, j, none⟩) hbB; rw [HKEY.out] at c4)
          go_roundw
          case rel => exact ⟨k + 1, by omega, by go_num, by rw [HK.out], hbel'⟩
          case measure => simp [intOf]; omega
        · have HK := Lib.hid (lastK_yes HPK.out hkey)
          have HKEY := Lib.hid hkey
          clear hkey
          go_wp2_with (go_at_call 52; refine (pvsSpec _ _ _ _ hp' hl hm).mono ?_; rintro e w' ⟨rfl, hb⟩; rw [HV.out]; have hbel' := Fr.step hbel hb; obtain ⟨c0, c1, c2, c3, c4, c5⟩ := (hrow k p HPK.out).keep (w' := w') fun j => hbel'.cell (p := ⟨b, j, none⟩) hbB; rw [HKEY.out] at c4)
          go_roundw
          case rel => exact ⟨k + 1, by omega, by go_num, by rw [HK.out], hbel'⟩
          case measure => simp [intOf]; omega
      · have : k = ps.length := by omega
        subst this
        go_wp2_with fail
        go_ret
        rw [H.out]; exact ⟨rfl, hbel⟩

end Go.Proofs.Ytlnhnljckceeaaa
