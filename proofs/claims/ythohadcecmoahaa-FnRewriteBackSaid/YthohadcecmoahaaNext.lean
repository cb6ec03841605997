/-
  RewriteNext in the program and in the reference: both return one plain function of their arguments.
-/
import Derived.Test.YthohadcecmoahaaRewriter
import Derived.Test.YthohadcecmoahaaPacket
import Derived.RegionTactic
namespace Go.Proofs.Ythohadcecmoahaa
open Go.RowKit
set_option linter.unusedSimpArgs false
set_option linter.unusedVariables false

/-- A rewriter. -/
structure Rw where
  so : Int
  wi : Int
  ti : Int
  ba : Int
  mo : Int
  la : Int
/-- A packet. -/
structure Pk where
  wd : Int
  tm : Int
  ly : Int
  sz : Int
  k : Bool
  l : Bool

/-- The greater one of two numbers, as the walk spells it. -/
def mxI (a b : Int) : Int := if a < b then b else a
theorem mxI_max (a b : Int) : mxI a b = max a b := by unfold mxI; omega
/-- What is done once the source is settled. -/
def finF (r : Rw) (p : Pk) : Option (Rw × Pk) :=
  if p.wd + r.wi < r.ba then none
  else if pvB (p.wd + r.wi) (p.tm + r.ti) p.ly p.sz = true then
    if rvB r.so r.wi r.ti r.ba (mxI r.mo (p.wd + r.wi)) (mxI r.la (p.tm + r.ti)) = true then
      some (⟨r.so, r.wi, r.ti, r.ba, mxI r.mo (p.wd + r.wi), mxI r.la (p.tm + r.ti)⟩, ⟨p.wd + r.wi, p.tm + r.ti, p.ly, p.sz, p.k, p.l⟩)
    else none
  else none
/-- The rewriter as it goes on with another source. -/
def swF (r : Rw) (s : Int) (p : Pk) : Rw := ⟨s, r.mo + 1 - p.wd, r.la + 30 - p.tm, r.mo + 1, r.mo, r.la⟩
def nextF (r : Rw) (s : Int) (p : Pk) : Option (Rw × Pk) :=
  if rvB r.so r.wi r.ti r.ba r.mo r.la = true ∧ inB s 0 99 = true ∧ pvB p.wd p.tm p.ly p.sz = true then
    if s = r.so then finF r p else if p.k = true then finF (swF r s p) p else none
  else none

/-- What RewriteNext leaves. -/
def NextPost (o : Option (Rw × Pk)) (w : World) (e : Ending) (w' : World) : Prop :=
  Below w.heap.size w w' ∧ match o with
  | none => e = .returned (.tuple #[.agg #[.int .i64 0, .int .i64 0, .int .i64 0, .int .i64 0, .int .i64 0, .int .i64 0], .agg #[.int .i64 0, .int .i64 0, .int .i64 0, .int .i64 0, .bool false, .bool false], .bool false])
  | some (r, p) => e = .returned (.tuple #[.agg #[.int .i64 r.so, .int .i64 r.wi, .int .i64 r.ti, .int .i64 r.ba, .int .i64 r.mo, .int .i64 r.la], .agg #[.int .i64 p.wd, .int .i64 p.tm, .int .i64 p.ly, .int .i64 p.sz, .bool p.k, .bool p.l], .bool true])
theorem NextPost.no {o : Option (Rw × Pk)} {w w' : World} (h : o = none) (hb : Below w.heap.size w w') : NextPost o w (.returned (.tuple #[.agg #[.int .i64 0, .int .i64 0, .int .i64 0, .int .i64 0, .int .i64 0, .int .i64 0], .agg #[.int .i64 0, .int .i64 0, .int .i64 0, .int .i64 0, .bool false, .bool false], .bool false])) w' := by
  subst h; exact ⟨hb, rfl⟩
theorem NextPost.yes {o : Option (Rw × Pk)} {w w' : World} {so wi ti ba mo la wd tm ly sz : Int} {k l : Bool} (h : o = some (⟨so, wi, ti, ba, mo, la⟩, ⟨wd, tm, ly, sz, k, l⟩)) (hb : Below w.heap.size w w') :
    NextPost o w (.returned (.tuple #[.agg #[.int .i64 so, .int .i64 wi, .int .i64 ti, .int .i64 ba, .int .i64 mo, .int .i64 la], .agg #[.int .i64 wd, .int .i64 tm, .int .i64 ly, .int .i64 sz, .bool k, .bool l], .bool true])) w' := by
  subst h; exact ⟨hb, rfl⟩

/-- What a valid rewriter's parts lie between. -/
theorem rv_bounds {so wi ti ba mo la : Int} (h : rvB so wi ti ba mo la = true) : (-999999 ≤ wi ∧ wi ≤ 999999) ∧ (-999999 ≤ ti ∧ ti ≤ 999999) ∧ (0 ≤ ba ∧ ba ≤ 999999) ∧ (-1 ≤ mo ∧ mo ≤ 999999) ∧ (-30 ≤ la ∧ la ≤ 999999) := by
  have := rvB_iff.1 h
  unfold RV at this
  omega

theorem adder_any (a b : Int) (w : World) :
    Calls Try.prog 38 #[.int .i64 a, .int .i64 b] w fun e w' =>
      e = .returned (.func (.func 45) #[] #[.pointer (some ⟨w.heap.size, 0, none⟩), .pointer (some ⟨w.heap.size + 1, 0, none⟩)]) ∧ (w.alloc (.cells #[.int .i64 a] 3)).alloc (.cells #[.int .i64 b] 3) = w' := by
  go_enter Try.func38, Try.ntmps38
  go_wp2
  go_ret
  exact ⟨rfl, rfl⟩

theorem adder1_any (a b wd tm ly sz qw qt : Int) (k l : Bool) (g1 g2 : Nat) (w : World) (h1 : w.cell? ⟨g1, 0, none⟩ = some (.int .i64 a)) (h2 : w.cell? ⟨g2, 0, none⟩ = some (.int .i64 b)) (k1 : g1 < w.heap.size) (k2 : g2 < w.heap.size)
    (ha : -999999 ≤ a ∧ a ≤ 2000000) (hb : -999999 ≤ b ∧ b ≤ 2000000) (h3 : 0 ≤ wd ∧ wd ≤ 999999) (h4 : 0 ≤ tm ∧ tm ≤ 99999) (hq : wd + a = qw) (ht : tm + b = qt) :
    Calls Try.prog 45 #[.agg #[.int .i64 wd, .int .i64 tm, .int .i64 ly, .int .i64 sz, .bool k, .bool l], .pointer (some ⟨g1, 0, none⟩), .pointer (some ⟨g2, 0, none⟩)] w fun e w' =>
      e = .returned (.agg #[.int .i64 qw, .int .i64 qt, .int .i64 ly, .int .i64 sz, .bool k, .bool l]) ∧ ∃ o1 o2, (w.alloc o1).alloc o2 = w' := by
  subst hq ht
  go_enter Try.func45, Try.ntmps45
  go_wp2
  go_returns
  exact ⟨rfl, _, _, rfl⟩

theorem forSource_any (so wi ti ba mo la s wd tm ly sz : Int) (k l : Bool) (w : World) (h1 : -1 ≤ mo ∧ mo ≤ 999999) (h2 : -30 ≤ la ∧ la ≤ 999999) (h3 : 0 ≤ wd ∧ wd ≤ 999999) (h4 : 0 ≤ tm ∧ tm ≤ 99999) :
    Calls Try.prog 37 #[.agg #[.int .i64 so, .int .i64 wi, .int .i64 ti, .int .i64 ba, .int .i64 mo, .int .i64 la], .int .i64 s, .agg #[.int .i64 wd, .int .i64 tm, .int .i64 ly, .int .i64 sz, .bool k, .bool l]] w fun e w' =>
      e = .returned (.agg #[.int .i64 s, .int .i64 (mo + 1 - wd), .int .i64 (la + 30 - tm), .int .i64 (mo + 1), .int .i64 mo, .int .i64 la]) ∧ ∃ o1 o2 o3, ((w.alloc o1).alloc o2).alloc o3 = w' := by
  go_enter Try.func37, Try.ntmps37
  go_wp2
  go_returns
  exact ⟨rfl, _, _, _, rfl⟩

theorem switch_any (so wi ti ba mo la s wd tm ly sz : Int) (k l : Bool) (w : World) (h1 : -1 ≤ mo ∧ mo ≤ 999999) (h2 : -30 ≤ la ∧ la ≤ 999999) (h3 : 0 ≤ wd ∧ wd ≤ 999999) (h4 : 0 ≤ tm ∧ tm ≤ 99999) :
    Calls Try.prog 42 #[.agg #[.int .i64 so, .int .i64 wi, .int .i64 ti, .int .i64 ba, .int .i64 mo, .int .i64 la], .int .i64 s, .agg #[.int .i64 wd, .int .i64 tm, .int .i64 ly, .int .i64 sz, .bool k, .bool l]] w fun e w' =>
      e = .returned (.agg #[.int .i64 s, .int .i64 (mo + 1 - wd), .int .i64 (la + 30 - tm), .int .i64 (mo + 1), .int .i64 mo, .int .i64 la]) ∧ ∃ o1 o2 o3, ((w.alloc o1).alloc o2).alloc o3 = w' := by
  go_enter Try.func42, Try.ntmps42
  go_wp2
  go_returns
  exact ⟨rfl, _, _, _, rfl⟩

end Go.Proofs.Ythohadcecmoahaa
