/-
  What a reader finds, and the reader behind it.
-/
import Derived.Test.YtlnhnljckceeaaaTakeF
import Derived.Handy
namespace Go.Proofs.Ytlnhnljckceeaaa
open Go.RowKit
set_option linter.unusedSimpArgs false
set_option linter.unusedVariables false

set_option maxHeartbeats 1000000 in
theorem onceFar (room count : Int) (A : Option Addr) (ps : List Pk) (cap : Nat) (nx lost : Int) (wt : Bool) (w : World) (hp : PkRow w w.heap.size A ps) (hl : ps.length ≤ cap) (hm : cap ≤ 9223372036854775807) (hv : readerB room count ps nx lost = true) (h1 : nx < count - ps.length) :
    Calls Try.prog 34 #[.agg #[.int .i64 room, .int .i64 count, .slice A ps.length cap], .agg #[.int .i64 nx, .int .i64 lost, .bool wt]] w fun e w' => e = .returned (.iface 64 (.agg #[.int .i64 (goOnF count ps (count - ps.length)).1, .bool (goOnF count ps (count - ps.length)).2])) ∧ Below w.heap.size w w' := by
  have K1 := ((Sk.nil hp (Below.refl _ _)).push (b := w.heap.size) 25 #[.int .i64 room, .int .i64 count, .slice A ps.length cap] rfl).push (b := w.heap.size + 1) 27 #[.int .i64 nx, .int .i64 lost, .bool wt] (by simp)
  have HH := Lib.hid (And.intro hl hm)
  clear hp
  obtain ⟨hr, hnx, hlo⟩ := readerB_iff.1 hv
  obtain ⟨-, hcn, hlen0, hpv⟩ := ringB_iff.1 hr
  have hlen : (ps.length : Int) ≤ count := by have := minI_le room count; omega
  have HB := Lib.hid (And.intro hpv (And.intro hcn (And.intro hlen (And.intro hnx hlo))))
  have hw1 : IntKind.i64.wrap (count - (ps.length : Int)) = count - (ps.length : Int) := IntWalk.i64_in _ (by omega)
  clear hv hr hnx hlo hcn hlen0 hpv hlen
  go_enter Try.func34, Try.ntmps34
  go_wp2_with fail
  refine (goOn_any _ _ _ _ _ _ _ K1.row HH.out.1 HH.out.2 HB.out.2.1.2 HB.out.2.2.1).mono ?_
  rintro e w2 ⟨rfl, hb⟩
  have K2 := K1.mem hb
  clear hb
  clear K1
  go_wp2_with fail
  go_ret
  exact ⟨rfl, K2.below⟩

set_option maxHeartbeats 1000000 in
theorem onceEnd (room count : Int) (A : Option Addr) (ps : List Pk) (cap : Nat) (nx lost : Int) (wt : Bool) (w : World) (hp : PkRow w w.heap.size A ps) (hl : ps.length ≤ cap) (hm : cap ≤ 9223372036854775807) (hv : readerB room count ps nx lost = true) (h1 : ¬ nx < count - ps.length) (h2 : nx = count) :
    Calls Try.prog 34 #[.agg #[.int .i64 room, .int .i64 count, .slice A ps.length cap], .agg #[.int .i64 nx, .int .i64 lost, .bool wt]] w fun e w' => e = .returned (.iface 81 (.agg #[])) ∧ Below w.heap.size w w' := by
  have K1 := ((Sk.nil hp (Below.refl _ _)).push (b := w.heap.size) 25 #[.int .i64 room, .int .i64 count, .slice A ps.length cap] rfl).push (b := w.heap.size + 1) 27 #[.int .i64 nx, .int .i64 lost, .bool wt] (by simp)
  have HH := Lib.hid (And.intro hl hm)
  clear hp
  obtain ⟨hr, hnx, hlo⟩ := readerB_iff.1 hv
  obtain ⟨-, hcn, hlen0, hpv⟩ := ringB_iff.1 hr
  have hlen : (ps.length : Int) ≤ count := by have := minI_le room count; omega
  have HB := Lib.hid (And.intro hpv (And.intro hcn (And.intro hlen (And.intro hnx hlo))))
  have hw1 : IntKind.i64.wrap (count - (ps.length : Int)) = count - (ps.length : Int) := IntWalk.i64_in _ (by omega)
  clear hv hr hnx hlo hcn hlen0 hpv hlen
  subst h2
  go_enter Try.func34, Try.ntmps34
  go_wp2_with fail
  go_ret
  exact ⟨rfl, K1.below⟩

set_option maxHeartbeats 1000000 in
theorem onceSkip (room count : Int) (A : Option Addr) (ps : List Pk) (cap : Nat) (nx lost : Int) (wt : Bool) (w : World) (hp : PkRow w w.heap.size A ps) (hl : ps.length ≤ cap) (hm : cap ≤ 9223372036854775807) (hv : readerB room count ps nx lost = true) (i : Nat) (p : Pk) (h1 : nx = count - ps.length + (i : Nat)) (h2 : nx ≠ count) (hi : i < ps.length) (hpi : ps[i]? = some p) (hwt : wt = true) (hk : p.k = false) :
    Calls Try.prog 34 #[.agg #[.int .i64 room, .int .i64 count, .slice A ps.length cap], .agg #[.int .i64 nx, .int .i64 lost, .bool wt]] w fun e w' => e = .returned (.iface 64 (.agg #[.int .i64 (goOnF count ps nx).1, .bool (goOnF count ps nx).2])) ∧ Below w.heap.size w w' := by
  have K1 := ((Sk.nil hp (Below.refl _ _)).push (b := w.heap.size) 25 #[.int .i64 room, .int .i64 count, .slice A ps.length cap] rfl).push (b := w.heap.size + 1) 27 #[.int .i64 nx, .int .i64 lost, .bool wt] (by simp)
  have HH := Lib.hid (And.intro hl hm)
  clear hp
  obtain ⟨hr, hnx, hlo⟩ := readerB_iff.1 hv
  obtain ⟨-, hcn, hlen0, hpv⟩ := ringB_iff.1 hr
  have hlen : (ps.length : Int) ≤ count := by have := minI_le room count; omega
  have HB := Lib.hid (And.intro hpv (And.intro hcn (And.intro hlen (And.intro hnx hlo))))
  have hw1 : IntKind.i64.wrap (count - (ps.length : Int)) = count - (ps.length : Int) := IntWalk.i64_in _ (by omega)
  subst hwt
  have hw2 : IntKind.i64.wrap (nx - (count - (ps.length : Int))) = (i : Int) := by rw [IntWalk.i64_in _ (by omega)]; omega
  have hn1 : ¬ nx < count - (ps.length : Int) := by omega
  have hi0 : (0 : Int) ≤ (i : Int) := by omega
  have hi1 : (i : Int) < (ps.length : Int) := by omega
  have hpos : 0 < ps.length := by omega
  have HP := Lib.hid hpi
  have h2' : (nx == count) = false := by simp [h2]
  clear hv hr hnx hlo hcn hlen0 hpv hlen h1 h2 hpi hi
  obtain ⟨b, off, rfl, hbB, hrow⟩ := K1.row hpos
  obtain ⟨x0, x1, x2, x3, x4, x5⟩ := hrow i p HP.out
  clear hrow
  rw [hk] at x4
  clear hk
  go_enter Try.func34, Try.ntmps34
  go_wp2_with fail
  have K2' := K1.push 31 #[.int .i64 p.wd, .int .i64 p.tm, .int .i64 p.ly, .int .i64 p.sz, .bool false, .bool p.l] rfl
  refine (goOn_any _ _ _ _ _ _ _ K2'.row HH.out.1 HH.out.2 HB.out.2.1.2 HB.out.2.2.1).mono ?_
  rintro e w2 ⟨rfl, hb⟩
  have K2 := K2'.mem hb
  clear hb
  clear K1 K2'
  go_wp2_with fail
  go_ret
  exact ⟨rfl, K2.below⟩

set_option maxHeartbeats 1000000 in
theorem onceGot (room count : Int) (A : Option Addr) (ps : List Pk) (cap : Nat) (nx lost : Int) (wt : Bool) (w : World) (hp : PkRow w w.heap.size A ps) (hl : ps.length ≤ cap) (hm : cap ≤ 9223372036854775807) (hv : readerB room count ps nx lost = true) (i : Nat) (p : Pk) (h1 : nx = count - ps.length + (i : Nat)) (h2 : nx ≠ count) (hi : i < ps.length) (hpi : ps[i]? = some p) (hk : wt = false ∨ (wt = true ∧ p.k = true)) :
    Calls Try.prog 34 #[.agg #[.int .i64 room, .int .i64 count, .slice A ps.length cap], .agg #[.int .i64 nx, .int .i64 lost, .bool wt]] w fun e w' => e = .returned (.iface 62 (.agg #[.int .i64 p.wd, .int .i64 p.tm, .int .i64 p.ly, .int .i64 p.sz, .bool p.k, .bool p.l])) ∧ Below w.heap.size w w' := by
  have K1 := ((Sk.nil hp (Below.refl _ _)).push (b := w.heap.size) 25 #[.int .i64 room, .int .i64 count, .slice A ps.length cap] rfl).push (b := w.heap.size + 1) 27 #[.int .i64 nx, .int .i64 lost, .bool wt] (by simp)
  have HH := Lib.hid (And.intro hl hm)
  clear hp
  obtain ⟨hr, hnx, hlo⟩ := readerB_iff.1 hv
  obtain ⟨-, hcn, hlen0, hpv⟩ := ringB_iff.1 hr
  have hlen : (ps.length : Int) ≤ count := by have := minI_le room count; omega
  have HB := Lib.hid (And.intro hpv (And.intro hcn (And.intro hlen (And.intro hnx hlo))))
  have hw1 : IntKind.i64.wrap (count - (ps.length : Int)) = count - (ps.length : Int) := IntWalk.i64_in _ (by omega)
  have hw2 : IntKind.i64.wrap (nx - (count - (ps.length : Int))) = (i : Int) := by rw [IntWalk.i64_in _ (by omega)]; omega
  have hn1 : ¬ nx < count - (ps.length : Int) := by omega
  have hi0 : (0 : Int) ≤ (i : Int) := by omega
  have hi1 : (i : Int) < (ps.length : Int) := by omega
  have hpos : 0 < ps.length := by omega
  have HP := Lib.hid hpi
  have h2' : (nx == count) = false := by simp [h2]
  clear hv hr hnx hlo hcn hlen0 hpv hlen h1 h2 hpi hi
  obtain ⟨b, off, rfl, hbB, hrow⟩ := K1.row hpos
  obtain ⟨x0, x1, x2, x3, x4, x5⟩ := hrow i p HP.out
  clear hrow
  rcases hk with rfl | ⟨rfl, hk⟩
  · go_enter Try.func34, Try.ntmps34
    go_wp2_with fail
    go_ret
    exact ⟨rfl, (K1.push 31 #[.int .i64 p.wd, .int .i64 p.tm, .int .i64 p.ly, .int .i64 p.sz, .bool p.k, .bool p.l] rfl).below⟩
  · have HKp := Lib.hid hk
    rw [hk] at x4
    clear hk
    go_enter Try.func34, Try.ntmps34
    go_wp2_with fail
    go_ret
    exact ⟨by rw [HKp.out]; rfl, (K1.push 31 #[.int .i64 p.wd, .int .i64 p.tm, .int .i64 p.ly, .int .i64 p.sz, .bool true, .bool p.l] rfl).below⟩

set_option maxHeartbeats 400000 in
theorem afterGot (nx lost : Int) (wt : Bool) (w : World) (p : Pk) (hn : 0 ≤ nx ∧ nx ≤ 999999) :
    Calls Try.prog 71 #[.agg #[.int .i64 p.wd, .int .i64 p.tm, .int .i64 p.ly, .int .i64 p.sz, .bool p.k, .bool p.l], .agg #[.int .i64 nx, .int .i64 lost, .bool wt]] w fun e w' => e = .returned (.agg #[.int .i64 (nx + 1), .int .i64 lost, .bool false]) ∧ Below w.heap.size w w' := by
  have hw : IntKind.i64.wrap (nx + 1) = nx + 1 := IntWalk.i64_in _ (by omega)
  go_enter Try.func71, Try.ntmps71
  go_wp2_with fail
  refine bodyPost_ret (by simp [results, Try.results71, go_sem]; try rfl) rfl ?_
  refine ⟨rfl, ?_⟩
  repeat' (first | (with_reducible exact Below.refl _ _) | (with_reducible refine Fr.alloc ?_ _) | (with_reducible refine Below.setCell ?_ ?_ _) | (simp; omega) | (simp; done))
set_option maxHeartbeats 400000 in
theorem afterNone (nx lost : Int) (wt : Bool) (w : World)  :
    Calls Try.prog 73 #[.agg #[], .agg #[.int .i64 nx, .int .i64 lost, .bool wt]] w fun e w' => e = .returned (.agg #[.int .i64 nx, .int .i64 lost, .bool wt]) ∧ Below w.heap.size w w' := by
  go_enter Try.func73, Try.ntmps73
  go_wp2_with fail
  refine bodyPost_ret (by simp [results, Try.results73, go_sem]; try rfl) rfl ?_
  refine ⟨rfl, ?_⟩
  repeat' (first | (with_reducible exact Below.refl _ _) | (with_reducible refine Fr.alloc ?_ _) | (with_reducible refine Below.setCell ?_ ?_ _) | (simp; omega) | (simp; done))
set_option maxHeartbeats 400000 in
theorem afterLost (nx lost : Int) (wt : Bool) (w : World) (to_ : Int) (wait : Bool) (hn : 0 ≤ nx ∧ nx ≤ 999999) (hl : 0 ≤ lost ∧ lost ≤ 999999) (ht : 0 ≤ to_ ∧ to_ ≤ 999999) :
    Calls Try.prog 72 #[.agg #[.int .i64 to_, .bool wait], .agg #[.int .i64 nx, .int .i64 lost, .bool wt]] w fun e w' => e = .returned (.agg #[.int .i64 to_, .int .i64 (lostF nx lost to_), .bool wait]) ∧ Below w.heap.size w w' := by
  obtain ⟨Sm, hSm⟩ : ∃ Sm : Int, Sm = lost + to_ := ⟨_, rfl⟩
  have hw3 : IntKind.i64.wrap (lost + to_) = Sm := by rw [← hSm]; exact IntWalk.i64_in _ (by omega)
  obtain ⟨Df, hDf⟩ : ∃ Df : Int, Df = Sm - nx := ⟨_, rfl⟩
  have hw4 : IntKind.i64.wrap (Sm - nx) = Df := by rw [← hDf]; exact IntWalk.i64_in _ (by omega)
  obtain ⟨m, hmm⟩ : ∃ m : Int, m = lostF nx lost to_ := ⟨_, rfl⟩
  have hmn : (if 999999 < Df then (999999 : Int) else Df) = m := by rw [hmm]; unfold lostF minI; rw [← hSm, ← hDf]
  rw [← hmm]
  clear hmm hSm hDf
  go_enter Try.func72, Try.ntmps72
  go_wp2_with fail
  refine bodyPost_ret (by simp [results, Try.results72, go_sem]; try rfl) rfl ?_
  refine ⟨rfl, ?_⟩
  repeat' (first | (with_reducible exact Below.refl _ _) | (with_reducible refine Fr.alloc ?_ _) | (with_reducible refine Below.setCell ?_ ?_ _) | (simp; omega) | (simp; done))

end Go.Proofs.Ytlnhnljckceeaaa
