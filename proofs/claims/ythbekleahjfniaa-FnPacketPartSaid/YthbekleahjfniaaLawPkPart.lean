/-
  The law on a packet's range.
-/
import Derived.Test.YthbekleahjfniaaDrawPk
import Derived.Test.YthbekleahjfniaaSt
import Derived.Test.YthbekleahjfniaaPacket
namespace Go.Proofs.Ythbekleahjfniaa
open Go.RowKit
set_option linter.unusedSimpArgs false
set_option linter.unusedVariables false

def SomePk (w : World) (e : Ending) (w' : World) : Prop :=
  ∃ wd tm ly sz k l, e = .returned (.agg #[.int .i64 wd, .int .i64 tm, .int .i64 ly, .int .i64 sz, .bool k, .bool l]) ∧ NearPk wd tm ly sz ∧ Below w.heap.size w w'

set_option maxHeartbeats 400000 in
theorem drawPkValid_any (A : Option Addr) (len cap : Nat) (w : World) (hl : len ≤ cap) (hm : cap ≤ maxLen) (hc : Code w w.heap.size A len) :
    Calls Try.prog 11 #[.slice A len cap] w (SomePk w) := by
  have HC := Lib.hid hc
  clear hc
  go_enter Try.func11, Try.ntmps11
  go_wp2_with fail
  refine (open_st (w := w) (L := [(w.heap.size, 24, #[.int .i64 0, .int .i64 0, .int .i64 0, .int .i64 0, .bool false, .bool false])]) (Fr.alloc (Below.refl _ _) _) (.cons (Blk.new _ _ _ rfl) (.nil _)) hl hm HC.out).mono ?_
  rintro e w1 ⟨g, rfl, hgx, hgw, S1⟩
  go_wp2_with fail
  refine (l91Packet_any w.heap.size g 0 w1 S1.rd (by omega)).mono ?_
  rintro e w2 ⟨wd, tm, ly, sz, k, l, rfl, near, hr2, hg2⟩
  have S2 := S1.goes hg2 hr2
  have HB := S2.b0
  have cr := HB.cells; have fr := HB.free
  have hbel := S2.below
  clear S1 hr2 hg2 S2 HB
  go_wp2_with fail
  refine bodyPost_ret (by simp [results, Try.results11, go_sem, cr]; try rfl) rfl ?_
  refine ⟨_, _, _, _, _, _, rfl, near, ?_⟩
  repeat' (first | (with_reducible exact hbel) | (with_reducible refine Below.setCell ?_ ?_ _) | (simp; omega) | (simp; done))

set_option maxHeartbeats 1000000 in
theorem lawPkPart (A : Option Addr) (len cap : Nat) (w : World) (hl : len ≤ cap) (hm : cap ≤ maxLen) (hc : Code w w.heap.size A len) :
    Calls Try.prog 3 #[.slice A len cap] w fun e w' => e = .returned (.bool true) ∧ Below w.heap.size w w' := by
  have HC := Lib.hid hc
  clear hc
  have hm' : cap ≤ 9223372036854775807 := by unfold maxLen at hm; omega
  by_cases hbig : (1048576 : Int) < (len : Int)
  · go_enter Try.func3, Try.ntmps3
    go_wp2_with fail
    go_ret
    exact ⟨rfl, Below.refl _ _⟩
  · go_enter Try.func3, Try.ntmps3
    go_wp2_with fail
    refine (drawPkValid_any A len cap w hl hm HC.out).mono ?_
    rintro e w1 ⟨wd, tm, ly, sz, k, l, rfl, near, B1⟩
    have x1 : pvB wd tm ly 0 = false := by cases h : pvB wd tm ly 0; rfl; have := pvB_iff.1 h; omega
    have x2 : pvB wd tm 3 sz = false := by cases h : pvB wd tm 3 sz; rfl; have := pvB_iff.1 h; omega
    have x3 : pvB wd (-1) ly sz = false := by cases h : pvB wd (-1) ly sz; rfl; have := pvB_iff.1 h; omega
    cases hv : pvB wd tm ly sz
    · have HV := Lib.hid hv
      clear hv x1 x2 x3
      go_wp2_with (first | (go_at_call 12; refine (pvImpl _ _ _ _ _ _ _).mono ?_; rintro e w' ⟨rfl, o1, rfl⟩; rw [HV.out]) | (go_at_call 13; refine (pvSpec _ _ _ _ _ _ _).mono ?_; rintro e w' ⟨rfl, o2, rfl⟩; rw [HV.out]))
      go_ret
      exact ⟨rfl, by repeat' (first | (with_reducible exact B1) | (with_reducible refine Fr.alloc ?_ _))⟩
    · have HV := Lib.hid hv
      have X1 := Lib.hid x1
      have X2 := Lib.hid x2
      have X3 := Lib.hid x3
      clear hv x1 x2 x3
      go_wp2_with (first | (go_at_call 12; refine (pvImpl _ _ _ _ _ _ _).mono ?_; rintro e w' ⟨rfl, o1, rfl⟩; (first | rw [HV.out] | rw [X1.out] | rw [X2.out] | rw [X3.out])) | (go_at_call 13; refine (pvSpec _ _ _ _ _ _ _).mono ?_; rintro e w' ⟨rfl, o2, rfl⟩; rw [HV.out]))
      go_ret
      exact ⟨rfl, by repeat' (first | (with_reducible exact B1) | (with_reducible refine Fr.alloc ?_ _) | (with_reducible refine Below.setCell ?_ ?_ _) | (simp; omega) | (simp; done))⟩

end Go.Proofs.Ythbekleahjfniaa
