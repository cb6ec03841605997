/-
  PacketsKey in the program and in the reference: both return one plain function of the packets.
-/
import Derived.Test.YtaghejdanjenaaaPksV
namespace Go.Proofs.Ytaghejdanjenaaa
open Go.RowKit
set_option linter.unusedSimpArgs false
set_option linter.unusedVariables false

def keyAt (ps : List Pk) (i : Nat) : Bool := match ps[i]? with
  | some p => p.k
  | none => false
/-- The last place before n at which a picture begins that needs no other one. -/
def lastK (ps : List Pk) : Nat → Int
  | 0 => -1
  | n + 1 => if keyAt ps n = true then (n : Int) else lastK ps n
theorem keyAt_of {ps : List Pk} {i : Nat} {p : Pk} (h : ps[i]? = some p) : keyAt ps i = p.k := by unfold keyAt; rw [h]
theorem lastK_yes {ps : List Pk} {i : Nat} {p : Pk} (h : ps[i]? = some p) (hk : p.k = true) : lastK ps (i + 1) = (i : Int) := by
  unfold lastK; rw [keyAt_of h, hk]; simp
theorem lastK_no {ps : List Pk} {i : Nat} {p : Pk} (h : ps[i]? = some p) (hk : p.k = false) : lastK ps (i + 1) = lastK ps i := by
  rw [lastK, keyAt_of h, hk]; simp
theorem lastK_lt (ps : List Pk) : ∀ n, -1 ≤ lastK ps n ∧ lastK ps n < n
  | 0 => by simp [lastK]
  | n + 1 => by
    have := lastK_lt ps n
    unfold lastK
    split <;> omega
/-- At that place one begins. -/
theorem lastK_key {ps : List Pk} : ∀ {n : Nat}, 0 ≤ lastK ps n → keyAt ps (lastK ps n).toNat = true
  | 0, h => by simp [lastK] at h
  | n + 1, h => by
    unfold lastK at h ⊢
    split
    · rename_i hk; simpa using hk
    · rename_i hk
      rw [if_neg hk] at h
      exact lastK_key h
/-- Behind it none begins. -/
theorem lastK_none {ps : List Pk} : ∀ {n i : Nat}, lastK ps n < i → i < n → keyAt ps i = false
  | 0, _, _, h => by omega
  | n + 1, i, h, hi => by
    unfold lastK at h
    split at h
    · omega
    · rename_i hk
      by_cases hin : i = n
      · subst hin; simpa using hk
      · exact lastK_none h (by omega)
def keyF (ps : List Pk) : Int := if pvsB ps = true then lastK ps ps.length else -1
theorem keyF_yes {ps : List Pk} (h : pvsB ps = true) : keyF ps = lastK ps ps.length := by simp [keyF, h]
theorem keyF_no {ps : List Pk} (h : pvsB ps = false) : keyF ps = -1 := by simp [keyF, h]

set_option maxHeartbeats 1000000 in
theorem keyImpl (A : Option Addr) (ps : List Pk) (cap : Nat) (w : World) (hp : PkRow w w.heap.size A ps) (hl : ps.length ≤ cap) (hm : cap ≤ 9223372036854775807) :
    Calls Try.prog 35 #[.slice A ps.length cap] w fun e w' => e = .returned (.int .i64 (keyF ps)) ∧ Below w.heap.size w w' := by
  cases hv : pvsB ps
  · have H := Lib.hid (keyF_no hv)
    have HV := Lib.hid hv
    clear hv
    go_enter Try.func35, Try.ntmps35
    go_wp2_with (go_at_call 39; refine (pvsImpl _ _ _ _ hp hl hm).mono ?_; rintro e w' ⟨rfl, hb⟩; rw [HV.out])
    go_ret
    rw [H.out]; exact ⟨rfl, hb⟩
  · have H := Lib.hid (keyF_yes hv)
    have HV := Lib.hid hv
    clear hv
    go_enter Try.func35, Try.ntmps35
    go_wp2_with (go_at_call 39; refine (pvsImpl _ _ _ _ hp hl hm).mono ?_; rintro e w' ⟨rfl, hb⟩; rw [HV.out])
    go_loop [3] (fun c => ∃ m : Nat, m ≤ ps.length ∧ c = .int .i64 ((m : Int) - 1) ∧ Hid (lastK ps ps.length = lastK ps m)) (fun c => (intOf c + 1).toNat)
    case atStart => exact ⟨ps.length, Nat.le_refl _, rfl, rfl⟩
    case round =>
      obtain ⟨m, hk, rfl, hlast⟩ := hrel
      rcases Nat.eq_zero_or_pos m with h0 | h0
      · subst h0
        go_wp2_with fail
        go_ret
        rw [H.out, hlast.out]; exact ⟨rfl, hb⟩
      · obtain ⟨i, rfl⟩ : ∃ i, m = i + 1 := ⟨m - 1, by omega⟩
        obtain ⟨b, off, rfl, hbB, hrow⟩ := hp (by omega)
        obtain ⟨p, hpk⟩ : ∃ p, ps[i]? = some p := ⟨ps[i], List.getElem?_eq_getElem (by omega)⟩
        obtain ⟨c0, c1, c2, c3, c4, c5⟩ := (hrow i p hpk).keep (w' := w') fun j => hb.cell (p := ⟨b, j, none⟩) hbB
        have HPK := Lib.hid hpk
        clear hpk
        have e1 : ((i + 1 : Nat) : Int) - 1 = (i : Int) := by omega
        have i0 : (0 : Int) ≤ (i : Int) := by omega
        have i1 : (i : Int) < (ps.length : Int) := by omega
        cases hkey : p.k
        · have HK := Lib.hid (lastK_no HPK.out hkey)
          rw [hkey] at c4
          clear hkey
          go_wp2_with fail
          go_round
          case rel => exact ⟨i, by omega, rfl, hlast.out.trans HK.out⟩
          case measure => simp [intOf]
        · have HK := Lib.hid (lastK_yes HPK.out hkey)
          rw [hkey] at c4
          clear hkey
          go_wp2_with fail
          go_ret
          rw [H.out, hlast.out, HK.out]; exact ⟨rfl, hb⟩

set_option maxHeartbeats 1000000 in
theorem keySpec (A : Option Addr) (ps : List Pk) (cap : Nat) (w : World) (hp : PkRow w w.heap.size A ps) (hl : ps.length ≤ cap) (hm : cap ≤ 9223372036854775807) :
    Calls Try.prog 48 #[.slice A ps.length cap] w fun e w' => e = .returned (.int .i64 (keyF ps)) ∧ Below w.heap.size w w' := by
  by_cases h00 : ps.length = 0
  · have H := Lib.hid (show keyF ps = -1 by unfold keyF; rw [h00]; simp [lastK])
    have hz : ¬ (0 : Int) < (ps.length : Int) := by omega
    have hz1 : decide (0 < ps.length) = false := by simp [h00]
    clear h00
    go_enter Try.func48, Try.ntmps48
    go_wp2_with fail
    go_loopw [3, 4] (fun o c wr => o = .int .i64 (-1) ∧ c = .int .i64 0 ∧ wr = w) (fun _ _ _ => 0)
    case atStart => exact ⟨rfl, rfl, rfl⟩
    case round =>
      obtain ⟨rfl, rfl, rfl⟩ := hrel
      go_wp2_with fail
      go_ret
      rw [H.out]; exact ⟨rfl, Below.refl _ _⟩
  cases hv : pvsB ps
  · have H := Lib.hid (keyF_no hv)
    have HV := Lib.hid hv
    clear hv
    have hz : (0 : Int) < (ps.length : Int) := by omega
    go_enter Try.func48, Try.ntmps48
    go_wp2_with fail
    go_loopw [3, 4] (fun o c wr => o = .int .i64 (-1) ∧ c = .int .i64 0 ∧ wr = w) (fun _ _ _ => 0)
    case atStart => exact ⟨rfl, rfl, rfl⟩
    case round =>
      obtain ⟨rfl, rfl, rfl⟩ := hrel
      go_wp2_with (go_at_call 41; refine (pvsSpec _ _ _ _ hp hl hm).mono ?_; rintro e w' ⟨rfl, hb⟩; rw [HV.out])
      go_ret
      rw [H.out]; exact ⟨rfl, hb⟩
  · have H := Lib.hid (keyF_yes hv)
    have HV := Lib.hid hv
    clear hv
    go_enter Try.func48, Try.ntmps48
    go_wp2_with fail
    go_loopw [3, 4] (fun o c wr => ∃ k : Nat, k ≤ ps.length ∧ c = .int .i64 k ∧ o = .int .i64 (lastK ps k) ∧ Below w.heap.size w wr) (fun _ c _ => ps.length - (intOf c).toNat)
    case atStart => exact ⟨0, Nat.zero_le _, rfl, rfl, Below.refl _ _⟩
    case round =>
      obtain ⟨k, hk, rfl, rfl, hbel⟩ := hrel
      by_cases hlt : k < ps.length
      · have hp' := (hp.below hbel).more hbel.size
        obtain ⟨b, off, rfl, hbB, hrow⟩ := hp (by omega)
        obtain ⟨p, hpk⟩ : ∃ p, ps[k]? = some p := ⟨ps[k], List.getElem?_eq_getElem hlt⟩
        have HPK := Lib.hid hpk
        clear hpk
        have hsz := hbel.size
        cases hkey : p.k
        · have HK := Lib.hid (lastK_no HPK.out hkey)
          have HKEY := Lib.hid hkey
          clear hkey
          go_wp2_with (go_at_call 41; refine (pvsSpec _ _ _ _ hp' hl hm).mono ?_; rintro e w' ⟨rfl, hb⟩; rw [HV.out]; have hbel' := Fr.step hbel hb; obtain ⟨c0, c1, c2, c3, c4, c5⟩ := (hrow k p HPK.out).keep (w' := w') fun j => hbel'.cell (p := ⟨b, j, none⟩) hbB; rw [HKEY.out] at c4)
          go_roundw
          case rel => exact ⟨k + 1, by omega, by go_num, by rw [HK.out], hbel'⟩
          case measure => simp [intOf]; omega
        · have HK := Lib.hid (lastK_yes HPK.out hkey)
          have HKEY := Lib.hid hkey
          clear hkey
          go_wp2_with (go_at_call 41; refine (pvsSpec _ _ _ _ hp' hl hm).mono ?_; rintro e w' ⟨rfl, hb⟩; rw [HV.out]; have hbel' := Fr.step hbel hb; obtain ⟨c0, c1, c2, c3, c4, c5⟩ := (hrow k p HPK.out).keep (w' := w') fun j => hbel'.cell (p := ⟨b, j, none⟩) hbB; rw [HKEY.out] at c4)
          go_roundw
          case rel => exact ⟨k + 1, by omega, by go_num, by rw [HK.out], hbel'⟩
          case measure => simp [intOf]; omega
      · have : k = ps.length := by omega
        subst this
        go_wp2_with fail
        go_ret
        rw [H.out]; exact ⟨rfl, hbel⟩

end Go.Proofs.Ytaghejdanjenaaa
