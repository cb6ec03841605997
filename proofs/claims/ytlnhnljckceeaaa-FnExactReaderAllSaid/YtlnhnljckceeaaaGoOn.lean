/-
  Where reading goes on.
-/
import Derived.Test.YtlnhnljckceeaaaRing2
import Derived.Test.YtlnhnljckceeaaaLastK
namespace Go.Proofs.Ytlnhnljckceeaaa
open Go.RowKit
set_option linter.unusedSimpArgs false
set_option linter.unusedVariables false

/-- Where reading goes on, from a number on, and whether it waits. -/
def goOnF (count : Int) (ps : List Pk) (from_ : Int) : Int × Bool :=
  if 0 ≤ lastK ps ps.length ∧ from_ ≤ count - ps.length + lastK ps ps.length then (count - ps.length + lastK ps ps.length, false) else (count, true)
theorem goOnF_at {count from_ : Int} {ps : List Pk} {i : Nat} (hl : lastK ps ps.length = lastK ps (i + 1)) (hk : lastK ps (i + 1) = i) (h : from_ ≤ count - ps.length + i) : goOnF count ps from_ = (count - ps.length + i, false) := by
  unfold goOnF
  rw [hl, hk, if_pos ⟨by omega, h⟩]
theorem goOnF_no {count from_ : Int} {ps : List Pk} {m : Nat} (hl : lastK ps ps.length = lastK ps m) (h : m = 0 ∨ count - ps.length + m ≤ from_) : goOnF count ps from_ = (count, true) := by
  unfold goOnF
  have := lastK_lt ps m
  rw [hl, if_neg]
  rintro ⟨h1, h2⟩
  rcases h with rfl | h <;> omega

set_option maxHeartbeats 1000000 in
theorem goOn_any (room count from_ : Int) (A : Option Addr) (ps : List Pk) (cap : Nat) (w : World) (hp : PkRow w w.heap.size A ps) (hl : ps.length ≤ cap) (hm : cap ≤ 9223372036854775807) (h0 : count ≤ 999999) (h1 : (ps.length : Int) ≤ count) :
    Calls Try.prog 44 #[.agg #[.int .i64 room, .int .i64 count, .slice A ps.length cap], .int .i64 from_] w fun e w' => e = .returned (.agg #[.int .i64 (goOnF count ps from_).1, .bool (goOnF count ps from_).2]) ∧ Below w.heap.size w w' := by
  obtain ⟨O, hO⟩ : ∃ O, O = count - (ps.length : Int) := ⟨_, rfl⟩
  have hw1 : IntKind.i64.wrap (count - (ps.length : Int)) = O := by rw [hO]; exact IntWalk.i64_in _ (by omega)
  have hw2 : IntKind.i64.wrap (count - 1) = O + (ps.length : Int) - 1 := by rw [show O + (ps.length : Int) - 1 = count - 1 by omega]; exact IntWalk.i64_in _ (by omega)
  have HO := Lib.hid hO
  have H0 := Lib.hid h0
  have H1 := Lib.hid h1
  obtain ⟨M, hM⟩ : ∃ M, (if from_ < O then O else from_) = M := ⟨_, rfl⟩
  have HM : Hid (O ≤ M ∧ from_ ≤ M ∧ (M = O ∨ M = from_)) := Lib.hid (by rw [← hM]; split <;> omega)
  clear hO h0 h1
  go_enter Try.func44, Try.ntmps44
  go_wp2_with fail
  go_loop [6] (fun c => ∃ m : Nat, m ≤ ps.length ∧ c = .int .i64 (O + (m : Int) - 1) ∧ Hid (lastK ps ps.length = lastK ps m)) (fun c => (intOf c - O + 1).toNat)
  case atStart => exact ⟨ps.length, Nat.le_refl _, rfl, rfl⟩
  case round =>
    obtain ⟨m, hk, rfl, hlast⟩ := hrel
    clear hw1 hw2
    by_cases hge : M ≤ O + (m : Int) - 1
    · have hM2 := HM.out
      obtain ⟨i, rfl⟩ : ∃ i, m = i + 1 := ⟨m - 1, by omega⟩
      obtain ⟨b, off, rfl, hbB, hrow⟩ := hp (by omega)
      obtain ⟨p, hpk⟩ : ∃ p, ps[i]? = some p := ⟨ps[i], List.getElem?_eq_getElem (by omega)⟩
      obtain ⟨c0, c1, c2, c3, c4, c5⟩ := hrow i p hpk
      have HPK := Lib.hid hpk
      clear hpk c0 c1 c2 c3 c5
      have hO := HO.out
      have hcc := H0.out
      have hc1 := H1.out
      obtain ⟨n, hn⟩ : ∃ n, n = O + (((i + 1 : Nat)) : Int) - 1 := ⟨_, rfl⟩
      have hgo : from_ ≤ count - (ps.length : Int) + (i : Int) := by omega
      have hne : count - (ps.length : Int) + (i : Int) = n := by omega
      have e1 : IntKind.i64.wrap (n - O) = (i : Int) := by rw [show n - O = (i : Int) by omega]; exact IntWalk.i64_in _ (by omega)
      have e2 : IntKind.i64.wrap (n - 1) = O + (i : Int) - 1 := by rw [show n - 1 = O + (i : Int) - 1 by omega]; exact IntWalk.i64_in _ (by omega)
      have i0 : (0 : Int) ≤ (i : Int) := by omega
      have i1 : (i : Int) < (ps.length : Int) := by omega
      have hbr : b + 1 ≤ w.heap.size := hbB
      rw [← hn] at hge
      have hmeas : (O + (i : Int) - 1 - O + 1).toNat < (n - O + 1).toNat := by omega
      have HG := Lib.hid hgo
      have HE := Lib.hid hne
      have HME := Lib.hid hmeas
      rw [← hn]
      clear hgo hne hn hM2 hO hcc hc1 hmeas
      cases hkey : p.k
      · have HK := Lib.hid (lastK_no HPK.out hkey)
        rw [hkey] at c4
        clear hkey
        go_wp2_with fail
        go_round
        case rel => exact ⟨i, by omega, rfl, hlast.out.trans HK.out⟩
        case measure => exact HME.out
      · have HK := Lib.hid (lastK_yes HPK.out hkey)
        have HF := Lib.hid (goOnF_at hlast.out HK.out HG.out)
        rw [hkey] at c4
        clear hkey
        go_wp2_with fail
        refine bodyPost_ret (by simp [results, Try.results44, go_sem]; try rfl) rfl ?_
        rw [HF.out, HE.out]; refine ⟨rfl, ?_⟩
        repeat' (first | (with_reducible exact Below.refl _ _) | (with_reducible refine Fr.alloc ?_ _) | (with_reducible refine Below.setCell ?_ ?_ _) | (simp; done))
    · have HF := Lib.hid (goOnF_no (count := count) (from_ := from_) hlast.out (by have := HM.out; have := HO.out; omega))
      go_wp2_with fail
      refine bodyPost_ret (by simp [results, Try.results44, go_sem]; try rfl) rfl ?_
      rw [HF.out]; refine ⟨rfl, ?_⟩
      repeat' (first | (with_reducible exact Below.refl _ _) | (with_reducible refine Fr.alloc ?_ _) | (with_reducible refine Below.setCell ?_ ?_ _) | (simp; done))

end Go.Proofs.Ytlnhnljckceeaaa
