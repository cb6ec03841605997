/-
  The drawing of the packets of a law on pictures.
-/
import Derived.Test.YtjdpagjcbhkonaaDrawPks
import Derived.Test.YtjdpagjcbhkonaaAppZ
namespace Go.Proofs.Ytjdpagjcbhkonaa
open Go.RowKit
set_option linter.unusedSimpArgs false
set_option linter.unusedVariables false

/-- Some list of packets is returned, of at most 31. -/
def SomePics (w : World) (e : Ending) (w' : World) : Prop :=
  ∃ A ps cap, e = .returned (.slice A (ps : List Pk).length cap) ∧ ps.length ≤ cap ∧ cap ≤ 9223372036854775807 ∧ ps.length ≤ 31 ∧ PkRow w' w'.heap.size A ps ∧ Below w.heap.size w w'
theorem somePics_of {w w' : World} {base : Nat} {v : Value} {ps : List Pk} (h : Own w' base v ps) (hl : ps.length ≤ 31) (hb : Below w.heap.size w w') : SomePics w (.returned v) w' := by
  obtain ⟨A, cap, rfl, h1, h2, h3⟩ := Own.row h
  unfold maxLen at h2
  exact ⟨A, ps, cap, rfl, h1, by omega, hl, h3, hb⟩

theorem pkcs_one_ {ps : List Pk} {u : Value} (h : u ∈ pkcs ps) : u.oneCell' = true := by
  unfold pkcs at h
  rw [List.mem_flatMap] at h
  obtain ⟨p, -, hu⟩ := h
  simp [pkc] at hu
  rcases hu with rfl | rfl | rfl | rfl | rfl | rfl <;> rfl

set_option maxHeartbeats 1000000 in
theorem drawPics_any (A : Option Addr) (len cap : Nat) (w : World) (hl : len ≤ cap) (hm : cap ≤ maxLen) (hc : Code w w.heap.size A len) :
    Calls Try.prog 9 #[.slice A len cap] w (SomePics w) := by
  have HC := Lib.hid hc
  clear hc
  obtain ⟨i0, hi, hz0, hz1, hz2⟩ := info_parts pkInfo_
  have HI := Lib.hid (And.intro hi (And.intro hz0 (And.intro hz1 hz2)))
  clear hi hz0 hz1 hz2
  go_enter Try.func9, Try.ntmps9
  go_wp2_with fail
  refine (open_st (w := w) (L := []) (Below.refl _ _) (.nil _) hl hm HC.out).mono ?_
  rintro e w1 ⟨g, rfl, hgx, hgw, S1⟩
  go_wp2_with fail
  refine (l91Packets_any w w1 g 0 [] 10 S1 (by omega) (by omega) (by omega)).mono ?_
  rintro e w2 ⟨v, ps, rfl, S2, hl2, hsm⟩
  go_wp2_with fail
  refine (pickO S2 24 (by omega) (by omega) (by omega)).mono ?_
  rintro e w3 ⟨k, rfl, k0, k1, S3, G3⟩
  have hown3 : w3.ownsRow w1.heap.size 31 6 v ps.length (pkcs ps) := S3.own
  have hb3 := S3.st.below
  have hbs := S3.bs
  have hol := World.ownsRow.lt hown3
  have hw1 := S1.below.size
  by_cases hk : k = 0
  · subst hk
    obtain ⟨v', w5, hr, hown5, hgrow5⟩ := run_append_zeros w3 w1.heap.size 23 3 23 31 i0 _ 6 40 .i64 Try.underlying23 Try.underlying3 HI.out.1 HI.out.2.1 HI.out.2.2.1 HI.out.2.2.2 rfl (by decide) v ps.length (pkcs ps) hown3 21 (by decide) (by rw [zeros21]; exact fun u hu => pkcs_one_ hu) (by unfold maxLen; omega) (by omega) hbs
    have hO5 : Own w5 w1.heap.size v' (ps ++ List.replicate 21 ⟨0, 0, 0, 0, false, false⟩) := by
      unfold Own
      rw [List.length_append, List.length_replicate, pkcs_append, ← zeros21]
      exact hown5
    have hb5 : Below w.heap.size w w5 := hb3.grown hgrow5 (by omega) (fun j hj => by have := (hol j hj).1; omega)
    have HX := Lib.hid (And.intro hO5 hb5)
    have hr' : (Builtin.append_ #[23, 3] 23 #[v, .int .i64 21]).run Try.prog w3 = .ok v' w5 := hr
    clear hO5 hb5 hown5 hgrow5 S1 S2 S3 hol hr
    go_wp2_with (at_builtin; refine Lib.wpList_append_run _ rfl _ _ _ _ rfl _ _ rfl rfl _ _ hr' ?_)
    go_ret
    exact somePics_of HX.out.1 (by simp; omega) HX.out.2
  · have hk' : (k == 0) = false := by simpa using hk
    have HX := Lib.hid (And.intro S3.own hb3)
    clear S1 S2 S3 hol hown3
    go_wp2_with fail
    go_ret
    exact somePics_of HX.out.1 (by omega) HX.out.2

end Go.Proofs.Ytjdpagjcbhkonaa
