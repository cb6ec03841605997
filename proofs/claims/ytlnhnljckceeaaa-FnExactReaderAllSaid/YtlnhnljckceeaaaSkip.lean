/-
  Where the reference goes on reading.
-/
import Derived.Test.YtlnhnljckceeaaaGoOn
import Derived.Test.YtlnhnljckceeaaaKeySpec
import Derived.Test.YtlnhnljckceeaaaSomeRing
namespace Go.Proofs.Ytlnhnljckceeaaa
open Go.RowKit
set_option linter.unusedSimpArgs false
set_option linter.unusedVariables false

/-- What a reader has lost behind a skip. -/
def lostF (nx lost to_ : Int) : Int := minI (lost + to_ - nx) 999999
theorem lostF_range {nx lost to_ : Int} (h0 : 0 ≤ lost) (h1 : nx ≤ to_) : 0 ≤ lostF nx lost to_ ∧ lostF nx lost to_ ≤ 999999 := by
  unfold lostF minI; split <;> omega
theorem goOnF_range {count from_ : Int} {ps : List Pk} (h : (ps.length : Int) ≤ count) : 0 ≤ (goOnF count ps from_).1 ∧ (goOnF count ps from_).1 ≤ count := by
  have := lastK_lt ps ps.length
  unfold goOnF
  split <;> simp <;> omega
theorem goOnF_from {count from_ : Int} {ps : List Pk} (h : from_ ≤ count) : from_ ≤ (goOnF count ps from_).1 := by
  unfold goOnF
  split <;> simp <;> omega

set_option maxHeartbeats 1000000 in
theorem skipSpec (room count : Int) (A : Option Addr) (ps : List Pk) (cap : Nat) (nx lost : Int) (wt : Bool) (from_ : Int) (w : World) (hp : PkRow w w.heap.size A ps) (hl : ps.length ≤ cap) (hm : cap ≤ 9223372036854775807) (hv : pvsB ps = true) (hc : 0 ≤ count ∧ count ≤ 999999) (hlen : (ps.length : Int) ≤ count) (hn : 0 ≤ nx ∧ nx ≤ count) (hlo : 0 ≤ lost ∧ lost ≤ 999999) :
    Calls Try.prog 36 #[.agg #[.int .i64 room, .int .i64 count, .slice A ps.length cap], .agg #[.int .i64 nx, .int .i64 lost, .bool wt], .int .i64 from_] w fun e w' => e = .returned (.agg #[.int .i64 (goOnF count ps from_).1, .int .i64 (lostF nx lost (goOnF count ps from_).1), .bool (goOnF count ps from_).2]) ∧ Below w.heap.size w w' := by
  have K1 := (((Sk.nil hp (Below.refl _ _)).push (b := w.heap.size) 25 #[.int .i64 room, .int .i64 count, .slice A ps.length cap] rfl).push (b := w.heap.size + 1) 27 #[.int .i64 nx, .int .i64 lost, .bool wt] (by simp)).push (b := w.heap.size + 1 + 1) 27 #[.int .i64 0, .int .i64 0, .bool false] (by simp)
  obtain ⟨L, hL⟩ : ∃ L, L = lastK ps ps.length := ⟨_, rfl⟩
  have HK := Lib.hid (show keyF ps = L by rw [keyF_yes hv, hL])
  have hLl := lastK_lt ps ps.length
  rw [← hL] at hLl
  obtain ⟨Q, hQ⟩ : ∃ Q : Int, Q = count - (ps.length : Int) := ⟨_, rfl⟩
  have hw1 : IntKind.i64.wrap (count - (ps.length : Int)) = Q := by rw [← hQ]; exact IntWalk.i64_in _ (by omega)
  obtain ⟨M, hM⟩ : ∃ M : Int, M = Q + L := ⟨_, rfl⟩
  have hw2 : IntKind.i64.wrap (Q + L) = M := by rw [← hM]; exact IntWalk.i64_in _ (by omega)
  obtain ⟨to_, hto⟩ : ∃ to_, to_ = (goOnF count ps from_).1 := ⟨_, rfl⟩
  have htr := goOnF_range (from_ := from_) hlen
  rw [← hto] at htr ⊢
  obtain ⟨Sm, hSm⟩ : ∃ Sm : Int, Sm = lost + to_ := ⟨_, rfl⟩
  have hw3 : IntKind.i64.wrap (lost + to_) = Sm := by rw [← hSm]; exact IntWalk.i64_in _ (by omega)
  obtain ⟨Df, hDf⟩ : ∃ Df : Int, Df = Sm - nx := ⟨_, rfl⟩
  have hw4 : IntKind.i64.wrap (Sm - nx) = Df := by rw [← hDf]; exact IntWalk.i64_in _ (by omega)
  obtain ⟨m, hmm⟩ : ∃ m : Int, m = lostF nx lost to_ := ⟨_, rfl⟩
  have hmn : (if 999999 < Df then (999999 : Int) else Df) = m := by rw [hmm]; unfold lostF minI; rw [← hSm, ← hDf]
  have hgo : goOnF count ps from_ = if 0 ≤ L ∧ from_ ≤ Q + L then (Q + L, false) else (count, true) := by unfold goOnF; rw [← hL, ← hQ]
  rw [← hM] at hgo
  rw [← hmm]
  have HQ := Lib.hid (And.intro hQ (And.intro hL hM))
  have HH := Lib.hid (And.intro hl hm)
  clear hp hl hm hL hQ hM hLl hmm hSm hDf hlen
  by_cases h0 : 0 ≤ L
  · by_cases h1 : from_ ≤ M
    · have hgo2 : (goOnF count ps from_).2 = false := by rw [hgo, if_pos ⟨h0, h1⟩]
      have e1 : to_ = M := by rw [hto, hgo, if_pos ⟨h0, h1⟩]
      subst e1
      clear hto
      have HW := Lib.hid hgo2
      clear hgo hgo2
      go_enter Try.func36, Try.ntmps36
      go_wp2_with fail
      refine (keySpec _ _ _ _ K1.row HH.out.1 HH.out.2).mono ?_
      rintro e w1 ⟨rfl, hb⟩
      rw [HK.out]
      have K2 := K1.mem hb
      clear K1 hb
      have c0 := K2.b0.cells; have f0 := K2.b0.free; have l0 := K2.b0.lt
      have c1 := K2.b1.cells; have f1 := K2.b1.free; have l1 := K2.b1.lt
      have c2 := K2.b2.cells; have f2 := K2.b2.free; have l2 := K2.b2.lt
      go_wp2_with fail
      refine bodyPost_ret (by simp [results, Try.results36, go_sem, c0, l0]; try rfl) rfl ?_
      rw [HW.out]
      refine ⟨rfl, ?_⟩
      have L9 := K2.below
      repeat' (first | (with_reducible exact L9) | (with_reducible refine Fr.alloc ?_ _) | (with_reducible refine Below.setCell ?_ ?_ _) | (simp; omega) | (simp; done))
    · have hgo2 : (goOnF count ps from_).2 = true := by rw [hgo, if_neg (fun h => h1 h.2)]
      have e1 : to_ = count := by rw [hto, hgo, if_neg (fun h => h1 h.2)]
      subst e1
      clear hto
      have HW := Lib.hid hgo2
      clear hgo hgo2
      go_enter Try.func36, Try.ntmps36
      go_wp2_with fail
      refine (keySpec _ _ _ _ K1.row HH.out.1 HH.out.2).mono ?_
      rintro e w1 ⟨rfl, hb⟩
      rw [HK.out]
      have K2 := K1.mem hb
      clear K1 hb
      have c0 := K2.b0.cells; have f0 := K2.b0.free; have l0 := K2.b0.lt
      have c1 := K2.b1.cells; have f1 := K2.b1.free; have l1 := K2.b1.lt
      have c2 := K2.b2.cells; have f2 := K2.b2.free; have l2 := K2.b2.lt
      go_wp2_with fail
      refine bodyPost_ret (by simp [results, Try.results36, go_sem, c0, l0]; try rfl) rfl ?_
      rw [HW.out]
      refine ⟨rfl, ?_⟩
      have L9 := K2.below
      repeat' (first | (with_reducible exact L9) | (with_reducible refine Fr.alloc ?_ _) | (with_reducible refine Below.setCell ?_ ?_ _) | (simp; omega) | (simp; done))
  · have hgo2 : (goOnF count ps from_).2 = true := by rw [hgo, if_neg (fun h => h0 h.1)]
    have e1 : to_ = count := by rw [hto, hgo, if_neg (fun h => h0 h.1)]
    subst e1
    clear hto
    have HW := Lib.hid hgo2
    clear hgo hgo2
    go_enter Try.func36, Try.ntmps36
    go_wp2_with fail
    refine (keySpec _ _ _ _ K1.row HH.out.1 HH.out.2).mono ?_
    rintro e w1 ⟨rfl, hb⟩
    rw [HK.out]
    have K2 := K1.mem hb
    clear K1 hb
    have c0 := K2.b0.cells; have f0 := K2.b0.free; have l0 := K2.b0.lt
    have c1 := K2.b1.cells; have f1 := K2.b1.free; have l1 := K2.b1.lt
    have c2 := K2.b2.cells; have f2 := K2.b2.free; have l2 := K2.b2.lt
    go_wp2_with fail
    refine bodyPost_ret (by simp [results, Try.results36, go_sem, c0, l0]; try rfl) rfl ?_
    rw [HW.out]
    refine ⟨rfl, ?_⟩
    have L9 := K2.below
    repeat' (first | (with_reducible exact L9) | (with_reducible refine Fr.alloc ?_ _) | (with_reducible refine Below.setCell ?_ ?_ _) | (simp; omega) | (simp; done))

end Go.Proofs.Ytlnhnljckceeaaa
