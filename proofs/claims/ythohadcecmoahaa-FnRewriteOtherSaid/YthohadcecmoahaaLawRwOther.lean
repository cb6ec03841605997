/-
  A law on RewriteNext: lawRwOther.
-/
import Derived.Test.YthohadcecmoahaaNextFacts
import Derived.Test.YthohadcecmoahaaDrawRw4
import Derived.Test.YthohadcecmoahaaBack
namespace Go.Proofs.Ythohadcecmoahaa
open Go.RowKit
set_option linter.unusedSimpArgs false
set_option linter.unusedVariables false

set_option maxHeartbeats 2000000 in
theorem lawRwOther (A : Option Addr) (len cap : Nat) (w : World) (hl : len ≤ cap) (hm : cap ≤ maxLen) (hc : Code w w.heap.size A len) :
    Calls Try.prog 11 #[.slice A len cap] w fun e w' => e = .returned (.bool true) ∧ Below w.heap.size w w' := by
  have HC := Lib.hid hc
  clear hc
  have hm' : cap ≤ 9223372036854775807 := by unfold maxLen at hm; omega
  by_cases hbig : (1048576 : Int) < (len : Int)
  · go_enter Try.func11, Try.ntmps11
    go_wp2_with fail
    go_ret
    exact ⟨rfl, Below.refl _ _⟩
  · go_enter Try.func11, Try.ntmps11
    go_wp2_with fail
    refine (drawRwNext_any A len cap w hl hm HC.out).mono ?_
    rintro e w1 ⟨so, wi, ti, ba, mo, la, s, wd, tm, ly, sz, k, l, rfl, nearR, nearS, nearP, hb1⟩
    unfold NearRw at nearR
    unfold NearPk at nearP
    rcases hN : nextF ⟨so, wi, ti, ba, mo, la⟩ s ⟨wd, tm, ly, sz, k, l⟩ with _ | ⟨r', q⟩
    · have HN := Lib.hid (congrArg outF hN)
      clear hN
      unfold outF at HN
      go_wp2_with (first | (go_at_call 21; ((with_reducible refine (nextImpl _ _ _ _ _ _ _ _ _ _ _ _ _ _).mono ?_); intro e w' hp; obtain ⟨rfl, hb⟩ := hp.out HN.out; clear hp; obtain ⟨dl, dk, rfl⟩ := more_of hb; clear hb)) | (go_at_call 26; ((with_reducible refine (nextSpec _ _ _ _ _ _ _ _ _ _ _ _ _ _).mono ?_); intro e w' hp; obtain ⟨rfl, hb⟩ := hp.out HN.out; clear hp; obtain ⟨dl, dk, rfl⟩ := more_of hb; clear hb)))
      go_ret
      exact ⟨rfl, by repeat' (first | (with_reducible exact hb1) | (with_reducible refine Fr.more ?_ _ _) | (with_reducible refine Fr.alloc ?_ _) | (with_reducible refine Below.setCell ?_ ?_ _) | (simp; omega) | (simp; done))⟩
    · obtain ⟨wi', ti', ba', mo', la', rfl, rfl, W⟩ := nextF_some hN
      have HN := Lib.hid (congrArg outF hN)
      clear hN
      unfold outF at HN
      obtain ⟨hv, hp', hge, hmo, hla, h1, h2, h3, h4⟩ := W
      obtain ⟨b1, b2, b3, b4, b5⟩ := rv_bounds h1
      clear hv hp' h1 h2 h3
      rcases h4 with ⟨rfl, rfl, rfl, rfl⟩ | ⟨hne, rfl, rfl, rfl, rfl⟩
      · clear hmo hla
        go_wp2_with (first | (go_at_call 21; ((with_reducible refine (nextImpl _ _ _ _ _ _ _ _ _ _ _ _ _ _).mono ?_); intro e w' hp; obtain ⟨rfl, hb⟩ := hp.out HN.out; clear hp; obtain ⟨dl, dk, rfl⟩ := more_of hb; clear hb)) | (go_at_call 26; ((with_reducible refine (nextSpec _ _ _ _ _ _ _ _ _ _ _ _ _ _).mono ?_); intro e w' hp; obtain ⟨rfl, hb⟩ := hp.out HN.out; clear hp; obtain ⟨dl, dk, rfl⟩ := more_of hb; clear hb)))
        go_ret
        exact ⟨rfl, by repeat' (first | (with_reducible exact hb1) | (with_reducible refine Fr.more ?_ _ _) | (with_reducible refine Fr.alloc ?_ _) | (with_reducible refine Below.setCell ?_ ?_ _) | (simp; omega) | (simp; done))⟩
      · have e1 : wd + (mo + 1 - wd) = mo + 1 := by omega
        have e2 : tm + (la + 30 - tm) = la + 30 := by omega
        rw [e1] at HN hmo
        rw [e2] at HN hla
        rw [(@swF_eq mo la wd tm).2.2.1] at hmo
        rw [(@swF_eq mo la wd tm).2.2.2] at hla
        subst hmo hla
        have t3 : (s == so) = false := by simp [hne]
        have t4 : (s != so) = true := by simp [hne]
        clear e1 e2 hne
        go_wp2_with (first | (go_at_call 21; ((with_reducible refine (nextImpl _ _ _ _ _ _ _ _ _ _ _ _ _ _).mono ?_); intro e w' hp; obtain ⟨rfl, hb⟩ := hp.out HN.out; clear hp; obtain ⟨dl, dk, rfl⟩ := more_of hb; clear hb)) | (go_at_call 26; ((with_reducible refine (nextSpec _ _ _ _ _ _ _ _ _ _ _ _ _ _).mono ?_); intro e w' hp; obtain ⟨rfl, hb⟩ := hp.out HN.out; clear hp; obtain ⟨dl, dk, rfl⟩ := more_of hb; clear hb)))
        go_ret
        exact ⟨rfl, by repeat' (first | (with_reducible exact hb1) | (with_reducible refine Fr.more ?_ _ _) | (with_reducible refine Fr.alloc ?_ _) | (with_reducible refine Below.setCell ?_ ?_ _) | (simp; omega) | (simp; done))⟩

end Go.Proofs.Ythohadcecmoahaa
