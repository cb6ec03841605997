/-
  ReaderTake of the program.
-/
import Derived.Test.YtlnhnljckceeaaaTakeOnce
namespace Go.Proofs.Ytlnhnljckceeaaa
open Go.RowKit
set_option linter.unusedSimpArgs false
set_option linter.unusedVariables false

@[go_sem] theorem as_gg (v : Value) (w : World) : (Instr.typeAssert (.iface 62 v) 58 62 true).run Try.prog w = .ok (.tuple #[v, .bool true]) w := by kernel_rfl
@[go_sem] theorem as_lg (v : Value) (w : World) : (Instr.typeAssert (.iface 64 v) 58 62 true).run Try.prog w = .ok (.tuple #[.agg #[.int .i64 0, .int .i64 0, .int .i64 0, .int .i64 0, .bool false, .bool false], .bool false]) w := by kernel_rfl
@[go_sem] theorem as_ng (v : Value) (w : World) : (Instr.typeAssert (.iface 81 v) 58 62 true).run Try.prog w = .ok (.tuple #[.agg #[.int .i64 0, .int .i64 0, .int .i64 0, .int .i64 0, .bool false, .bool false], .bool false]) w := by kernel_rfl
@[go_sem] theorem as_ll (v : Value) (w : World) : (Instr.typeAssert (.iface 64 v) 58 64 true).run Try.prog w = .ok (.tuple #[v, .bool true]) w := by kernel_rfl
@[go_sem] theorem as_nl (v : Value) (w : World) : (Instr.typeAssert (.iface 81 v) 58 64 true).run Try.prog w = .ok (.tuple #[.agg #[.int .i64 0, .bool false], .bool false]) w := by kernel_rfl

/-- What the operations of the region leave that tells a packet. -/
def VGotI (D9 D4 D5 : Nat) (nx lost : Int) (p : Pk) (i : Nat) (v : Value) (w : World) : Prop := match i with
  | 0 => v = .agg #[.int .i64 (nx + 1), .int .i64 lost, .bool false]
  | 1 => v = .pointer (some ⟨D9, 0, none⟩)
  | 2 => v = .agg #[.int .i64 p.wd, .int .i64 p.tm, .int .i64 p.ly, .int .i64 p.sz, .bool p.k, .bool p.l]
  | 3 => Blk w D4 27 #[.int .i64 (nx + 1), .int .i64 lost, .bool false]
  | 4 => Blk w D5 31 #[.int .i64 p.wd, .int .i64 p.tm, .int .i64 p.ly, .int .i64 p.sz, .bool p.k, .bool p.l]
  | _ => True
abbrev RGotI (D4 D5 : Nat) (nx lost : Int) (p : Pk) := RTwo D4 D5 (.int .i64 (nx + 1)) (.int .i64 lost) (.bool false) (.int .i64 p.wd) (.int .i64 p.tm) (.int .i64 p.ly) (.int .i64 p.sz) (.bool p.k) (.bool p.l)
theorem VGotI_keep {D9 D4 D5 : Nat} {nx lost : Int} {p : Pk} : ∀ (i : Nat) (v : Value) (w w' : World), RGotI D4 D5 nx lost p w w' → VGotI D9 D4 D5 nx lost p i v w → VGotI D9 D4 D5 nx lost p i v w'
  | 0, _, _, _, _, h => h | 1, _, _, _, _, h => h | 2, _, _, _, _, h => h
  | 3, _, _, _, hr, h => hr.keep4 h
  | 4, _, _, _, hr, h => hr.keep5 h
  | _ + 5, _, _, _, _, h => h

set_option maxHeartbeats 4000000 in
theorem takeImpl (room count : Int) (A : Option Addr) (ps : List Pk) (cap : Nat) (nx lost : Int) (wt : Bool) (w : World) (hp : PkRow w w.heap.size A ps) (hl : ps.length ≤ cap) (hm : cap ≤ 9223372036854775807) :
    Calls Try.prog 14 #[.agg #[.int .i64 room, .int .i64 count, .slice A ps.length cap], .agg #[.int .i64 nx, .int .i64 lost, .bool wt]] w fun e w' => e = .returned (tkV (takeF room count ps nx lost wt)) ∧ Below w.heap.size w w' := by
  have K1 := (((((Sk.nil hp (Below.refl _ _)).push (b := w.heap.size) 25 #[.int .i64 room, .int .i64 count, .slice A ps.length cap] rfl).push (b := w.heap.size + 1) 27 #[.int .i64 nx, .int .i64 lost, .bool wt] (by simp)).push (b := w.heap.size + 1 + 1) 27 #[.int .i64 0, .int .i64 0, .bool false] (by simp)).push (b := w.heap.size + 1 + 1 + 1) 31 #[.int .i64 0, .int .i64 0, .int .i64 0, .int .i64 0, .bool false, .bool false] (by simp))
  have HH := Lib.hid (And.intro hl hm)
  clear hp
  rcases take_ways room count ps nx lost wt with hv | ⟨hv, hway⟩
  · have HV := Lib.hid hv
    have HT := Lib.hid (takeF_bad (wt := wt) hv)
    clear hv
    go_enter Try.func14, Try.ntmps14
    go_wp2_with fail
    refine (rdImpl _ _ _ _ _ _ _ _ _ K1.row HH.out.1 HH.out.2).mono ?_
    rintro e w2 ⟨rfl, hb⟩
    rw [HV.out]
    have K2 := K1.mem hb
    clear K1 hb
    have c0 := K2.b0.cells; have f0 := K2.b0.free; have l0 := K2.b0.lt
    have c1 := K2.b1.cells; have f1 := K2.b1.free; have l1 := K2.b1.lt
    have c2 := K2.b2.cells; have f2 := K2.b2.free; have l2 := K2.b2.lt
    have c3 := K2.b3.cells; have f3 := K2.b3.free; have l3 := K2.b3.lt
    go_wp2_with fail
    refine bodyPost_ret (by simp [results, Try.results14, go_sem, c0, l0, c1, l1]; try rfl) rfl ?_
    rw [HT.out]
    refine ⟨rfl, ?_⟩
    have L9 := K2.below
    repeat' (first | (with_reducible exact L9) | (with_reducible refine Fr.alloc ?_ _) | (with_reducible refine Below.setCell ?_ ?_ _) | (simp; omega) | (simp; done))
  have HV := Lib.hid hv
  obtain ⟨hr, hnx, hlo⟩ := readerB_iff.1 hv
  obtain ⟨-, hcn, hlen0, hpv⟩ := ringB_iff.1 hr
  have hlen : (ps.length : Int) ≤ count := by have := minI_le room count; omega
  have HN : Hid ((0 ≤ nx ∧ nx ≤ 999999) ∧ (0 ≤ lost ∧ lost ≤ 999999)) := ⟨by omega, hlo⟩
  have HG : Hid (∀ from_, 0 ≤ (goOnF count ps from_).1 ∧ (goOnF count ps from_).1 ≤ 999999) := fun from_ => by have := goOnF_range (from_ := from_) hlen; omega
  clear hr hnx hlo hcn hlen0 hpv hlen
  rcases hway with h1 | ⟨h1, h2⟩ | ⟨i, p, h1, h2, hi, hpi, hk⟩
  · have HT := Lib.hid (takeF_far (wt := wt) hv h1)
    have HO := Lib.hid (fun (W : World) (h : PkRow W W.heap.size A ps) => onceFar room count A ps cap nx lost wt W h hl hm hv h1)
    clear hv h1
    go_enter Try.func14, Try.ntmps14
    go_wp2_with fail
    refine (rdImpl _ _ _ _ _ _ _ _ _ K1.row HH.out.1 HH.out.2).mono ?_
    rintro e w2 ⟨rfl, hb⟩
    rw [HV.out]
    have K2 := K1.mem hb
    clear K1 hb
    have c0 := K2.b0.cells; have f0 := K2.b0.free; have l0 := K2.b0.lt
    have c1 := K2.b1.cells; have f1 := K2.b1.free; have l1 := K2.b1.lt
    have c2 := K2.b2.cells; have f2 := K2.b2.free; have l2 := K2.b2.lt
    have c3 := K2.b3.cells; have f3 := K2.b3.free; have l3 := K2.b3.lt
    go_wp2_with fail
    refine (HO.out _ K2.row).mono ?_
    rintro e w3 ⟨rfl, hb⟩
    have K3 := K2.mem hb
    clear K2 hb c0 f0 l0 c1 f1 l1 c2 f2 l2 c3 f3 l3
    have c0 := K3.b0.cells; have f0 := K3.b0.free; have l0 := K3.b0.lt
    have c1 := K3.b1.cells; have f1 := K3.b1.free; have l1 := K3.b1.lt
    have c2 := K3.b2.cells; have f2 := K3.b2.free; have l2 := K3.b2.lt
    have c3 := K3.b3.cells; have f3 := K3.b3.free; have l3 := K3.b3.lt
    go_wp2_with fail
    refine (afterLost _ _ _ _ _ _ HN.out.1 HN.out.2 (HG.out _)).mono ?_
    rintro e w4 ⟨rfl, hb⟩
    have K4 := K3.mem hb
    clear K3 hb c0 f0 l0 c1 f1 l1 c2 f2 l2 c3 f3 l3
    have c0 := K4.b0.cells; have f0 := K4.b0.free; have l0 := K4.b0.lt
    have c1 := K4.b1.cells; have f1 := K4.b1.free; have l1 := K4.b1.lt
    have c2 := K4.b2.cells; have f2 := K4.b2.free; have l2 := K4.b2.lt
    have c3 := K4.b3.cells; have f3 := K4.b3.free; have l3 := K4.b3.lt
    have K5 := K4.push 27 #[.int .i64 (goOnF count ps (count - ps.length)).1, .int .i64 (lostF nx lost (goOnF count ps (count - ps.length)).1), .bool (goOnF count ps (count - ps.length)).2] rfl
    generalize (goOnF count ps (count - ps.length)).1 = to_ at *
    generalize lostF nx lost to_ = ls at *
    generalize (goOnF count ps (count - ps.length)).2 = wb at *
    have K6 := K5.push (b := w4.heap.size + 1) 64 #[.int .i64 to_, .bool wb] (by simp)
    clear K4 K5 c0 f0 l0 c1 f1 l1 c2 f2 l2 c3 f3 l3
    go_upto_region 13 with fail
    obtain ⟨W5, hW5⟩ : ∃ W5, W5 = (w4.alloc (.cells #[.int .i64 to_, .int .i64 ls, .bool wb] 27)).alloc (.cells #[.int .i64 to_, .bool wb] 64) := ⟨_, rfl⟩
    rw [← hW5] at K6 ⊢
    clear hW5
    have c1 := K6.b1.cells; have f1 := K6.b1.free; have l1 := K6.b1.lt
    have c2 := K6.b2.cells; have f2 := K6.b2.free; have l2 := K6.b2.lt
    have c3 := K6.b3.cells; have f3 := K6.b3.free; have l3 := K6.b3.lt
    go_wp2_with fail
    refine bodyPost_ret (by simp [results, Try.results14, go_sem, c2, l2, c3, l3]; try rfl) rfl ?_
    rw [HT.out]
    refine ⟨rfl, ?_⟩
    have L9 := K6.below
    repeat' (first | (with_reducible exact L9) | (with_reducible refine Fr.alloc ?_ _) | (with_reducible refine Below.setCell ?_ ?_ _) | (simp; omega) | (simp; done))
  · have HT := Lib.hid (takeF_end (wt := wt) hv h1 h2)
    have HO := Lib.hid (fun (W : World) (h : PkRow W W.heap.size A ps) => onceEnd room count A ps cap nx lost wt W h hl hm hv h1 h2)
    clear hv h1 h2
    go_enter Try.func14, Try.ntmps14
    go_wp2_with fail
    refine (rdImpl _ _ _ _ _ _ _ _ _ K1.row HH.out.1 HH.out.2).mono ?_
    rintro e w2 ⟨rfl, hb⟩
    rw [HV.out]
    have K2 := K1.mem hb
    clear K1 hb
    have c0 := K2.b0.cells; have f0 := K2.b0.free; have l0 := K2.b0.lt
    have c1 := K2.b1.cells; have f1 := K2.b1.free; have l1 := K2.b1.lt
    have c2 := K2.b2.cells; have f2 := K2.b2.free; have l2 := K2.b2.lt
    have c3 := K2.b3.cells; have f3 := K2.b3.free; have l3 := K2.b3.lt
    go_wp2_with fail
    refine (HO.out _ K2.row).mono ?_
    rintro e w3 ⟨rfl, hb⟩
    have K3 := K2.mem hb
    clear K2 hb c0 f0 l0 c1 f1 l1 c2 f2 l2 c3 f3 l3
    have c0 := K3.b0.cells; have f0 := K3.b0.free; have l0 := K3.b0.lt
    have c1 := K3.b1.cells; have f1 := K3.b1.free; have l1 := K3.b1.lt
    have c2 := K3.b2.cells; have f2 := K3.b2.free; have l2 := K3.b2.lt
    have c3 := K3.b3.cells; have f3 := K3.b3.free; have l3 := K3.b3.lt
    go_wp2_with fail
    refine (afterNone _ _ _ _).mono ?_
    rintro e w4 ⟨rfl, hb⟩
    have K4 := K3.mem hb
    clear K3 hb c0 f0 l0 c1 f1 l1 c2 f2 l2 c3 f3 l3
    have c0 := K4.b0.cells; have f0 := K4.b0.free; have l0 := K4.b0.lt
    have c1 := K4.b1.cells; have f1 := K4.b1.free; have l1 := K4.b1.lt
    have c2 := K4.b2.cells; have f2 := K4.b2.free; have l2 := K4.b2.lt
    have c3 := K4.b3.cells; have f3 := K4.b3.free; have l3 := K4.b3.lt
    have K5 := K4.push 27 #[.int .i64 nx, .int .i64 lost, .bool wt] rfl
    clear K4 c0 f0 l0 c1 f1 l1 c2 f2 l2 c3 f3 l3
    go_upto_region 7 with fail
    obtain ⟨W5, hW5⟩ : ∃ W5, W5 = w4.alloc (.cells #[.int .i64 nx, .int .i64 lost, .bool wt] 27) := ⟨_, rfl⟩
    rw [← hW5] at K5 ⊢
    clear hW5
    have c0 := K5.b0.cells; have f0 := K5.b0.free; have l0 := K5.b0.lt
    have c1 := K5.b1.cells; have f1 := K5.b1.free; have l1 := K5.b1.lt
    have c2 := K5.b2.cells; have f2 := K5.b2.free; have l2 := K5.b2.lt
    go_wp2_with fail
    refine bodyPost_ret (by simp [results, Try.results14, go_sem, c1, l1, c2, l2]; try rfl) rfl ?_
    rw [HT.out]
    refine ⟨rfl, ?_⟩
    have L9 := K5.below
    repeat' (first | (with_reducible exact L9) | (with_reducible refine Fr.alloc ?_ _) | (with_reducible refine Below.setCell ?_ ?_ _) | (simp; omega) | (simp; done))
  rcases hk with ⟨hwt, hk⟩ | hk
  · have HT := Lib.hid (show takeF room count ps nx lost wt = ⟨(goOnF count ps nx).1, lostF nx lost (goOnF count ps nx).1, (goOnF count ps nx).2, zpk, 2⟩ by rw [hwt]; exact takeF_skip hv h1 h2 hpi hk)
    have HO := Lib.hid (fun (W : World) (h : PkRow W W.heap.size A ps) => onceSkip room count A ps cap nx lost wt W h hl hm hv i p h1 h2 hi hpi hwt hk)
    clear hv h1 h2 hi hpi hwt hk
    go_enter Try.func14, Try.ntmps14
    go_wp2_with fail
    refine (rdImpl _ _ _ _ _ _ _ _ _ K1.row HH.out.1 HH.out.2).mono ?_
    rintro e w2 ⟨rfl, hb⟩
    rw [HV.out]
    have K2 := K1.mem hb
    clear K1 hb
    have c0 := K2.b0.cells; have f0 := K2.b0.free; have l0 := K2.b0.lt
    have c1 := K2.b1.cells; have f1 := K2.b1.free; have l1 := K2.b1.lt
    have c2 := K2.b2.cells; have f2 := K2.b2.free; have l2 := K2.b2.lt
    have c3 := K2.b3.cells; have f3 := K2.b3.free; have l3 := K2.b3.lt
    go_wp2_with fail
    refine (HO.out _ K2.row).mono ?_
    rintro e w3 ⟨rfl, hb⟩
    have K3 := K2.mem hb
    clear K2 hb c0 f0 l0 c1 f1 l1 c2 f2 l2 c3 f3 l3
    have c0 := K3.b0.cells; have f0 := K3.b0.free; have l0 := K3.b0.lt
    have c1 := K3.b1.cells; have f1 := K3.b1.free; have l1 := K3.b1.lt
    have c2 := K3.b2.cells; have f2 := K3.b2.free; have l2 := K3.b2.lt
    have c3 := K3.b3.cells; have f3 := K3.b3.free; have l3 := K3.b3.lt
    go_wp2_with fail
    refine (afterLost _ _ _ _ _ _ HN.out.1 HN.out.2 (HG.out _)).mono ?_
    rintro e w4 ⟨rfl, hb⟩
    have K4 := K3.mem hb
    clear K3 hb c0 f0 l0 c1 f1 l1 c2 f2 l2 c3 f3 l3
    have c0 := K4.b0.cells; have f0 := K4.b0.free; have l0 := K4.b0.lt
    have c1 := K4.b1.cells; have f1 := K4.b1.free; have l1 := K4.b1.lt
    have c2 := K4.b2.cells; have f2 := K4.b2.free; have l2 := K4.b2.lt
    have c3 := K4.b3.cells; have f3 := K4.b3.free; have l3 := K4.b3.lt
    have K5 := K4.push 27 #[.int .i64 (goOnF count ps nx).1, .int .i64 (lostF nx lost (goOnF count ps nx).1), .bool (goOnF count ps nx).2] rfl
    generalize (goOnF count ps nx).1 = to_ at *
    generalize lostF nx lost to_ = ls at *
    generalize (goOnF count ps nx).2 = wb at *
    have K6 := K5.push (b := w4.heap.size + 1) 64 #[.int .i64 to_, .bool wb] (by simp)
    clear K4 K5 c0 f0 l0 c1 f1 l1 c2 f2 l2 c3 f3 l3
    go_upto_region 13 with fail
    obtain ⟨W5, hW5⟩ : ∃ W5, W5 = (w4.alloc (.cells #[.int .i64 to_, .int .i64 ls, .bool wb] 27)).alloc (.cells #[.int .i64 to_, .bool wb] 64) := ⟨_, rfl⟩
    rw [← hW5] at K6 ⊢
    clear hW5
    have c1 := K6.b1.cells; have f1 := K6.b1.free; have l1 := K6.b1.lt
    have c2 := K6.b2.cells; have f2 := K6.b2.free; have l2 := K6.b2.lt
    have c3 := K6.b3.cells; have f3 := K6.b3.free; have l3 := K6.b3.lt
    go_wp2_with fail
    refine bodyPost_ret (by simp [results, Try.results14, go_sem, c2, l2, c3, l3]; try rfl) rfl ?_
    rw [HT.out]
    refine ⟨rfl, ?_⟩
    have L9 := K6.below
    repeat' (first | (with_reducible exact L9) | (with_reducible refine Fr.alloc ?_ _) | (with_reducible refine Below.setCell ?_ ?_ _) | (simp; omega) | (simp; done))
  have HT := Lib.hid (takeF_got hv h1 h2 hpi (hk.imp id And.right))
  have HO := Lib.hid (fun (W : World) (h : PkRow W W.heap.size A ps) => onceGot room count A ps cap nx lost wt W h hl hm hv i p h1 h2 hi hpi hk)
  clear hv h1 h2 hi hpi hk
  go_enter Try.func14, Try.ntmps14
  go_wp2_with fail
  refine (rdImpl _ _ _ _ _ _ _ _ _ K1.row HH.out.1 HH.out.2).mono ?_
  rintro e w2 ⟨rfl, hb⟩
  rw [HV.out]
  have K2 := K1.mem hb
  clear K1 hb
  have c0 := K2.b0.cells; have f0 := K2.b0.free; have l0 := K2.b0.lt
  have c1 := K2.b1.cells; have f1 := K2.b1.free; have l1 := K2.b1.lt
  have c2 := K2.b2.cells; have f2 := K2.b2.free; have l2 := K2.b2.lt
  have c3 := K2.b3.cells; have f3 := K2.b3.free; have l3 := K2.b3.lt
  go_wp2_with fail
  refine (HO.out _ K2.row).mono ?_
  rintro e w3 ⟨rfl, hb⟩
  have K3 := K2.mem hb
  clear K2 hb c0 f0 l0 c1 f1 l1 c2 f2 l2 c3 f3 l3
  have c0 := K3.b0.cells; have f0 := K3.b0.free; have l0 := K3.b0.lt
  have c1 := K3.b1.cells; have f1 := K3.b1.free; have l1 := K3.b1.lt
  have c2 := K3.b2.cells; have f2 := K3.b2.free; have l2 := K3.b2.lt
  have c3 := K3.b3.cells; have f3 := K3.b3.free; have l3 := K3.b3.lt
  go_wp2_with fail
  refine (afterGot _ _ _ _ p HN.out.1).mono ?_
  rintro e w4 ⟨rfl, hb⟩
  have K4 := K3.mem hb
  clear K3 hb c0 f0 l0 c1 f1 l1 c2 f2 l2 c3 f3 l3
  have c0 := K4.b0.cells; have f0 := K4.b0.free; have l0 := K4.b0.lt
  have c1 := K4.b1.cells; have f1 := K4.b1.free; have l1 := K4.b1.lt
  have c2 := K4.b2.cells; have f2 := K4.b2.free; have l2 := K4.b2.lt
  have c3 := K4.b3.cells; have f3 := K4.b3.free; have l3 := K4.b3.lt
  have K5 := K4.push 27 #[.int .i64 (nx + 1), .int .i64 lost, .bool false] rfl
  have K6 := K5.push (b := w4.heap.size + 1) 62 #[.int .i64 p.wd, .int .i64 p.tm, .int .i64 p.ly, .int .i64 p.sz, .bool p.k, .bool p.l] (by simp)
  go_wp2_with fail
  have TW : Two w ((w4.alloc (.cells #[.int .i64 (nx + 1), .int .i64 lost, .bool false] 27)).alloc (.cells #[.int .i64 p.wd, .int .i64 p.tm, .int .i64 p.ly, .int .i64 p.sz, .bool p.k, .bool p.l] 62)) (w.heap.size + 1 + 1) (w.heap.size + 1 + 1 + 1) [(w4.heap.size + 1, 62, #[.int .i64 p.wd, .int .i64 p.tm, .int .i64 p.ly, .int .i64 p.sz, .bool p.k, .bool p.l]), (w4.heap.size, 27, #[.int .i64 (nx + 1), .int .i64 lost, .bool false])] :=
    ⟨K6.below, by omega, by omega, by omega, ⟨_, _, _, K6.b3⟩, ⟨_, _, _, _, _, _, K6.b2⟩, fun b T cs hm => by
      simp only [List.mem_cons, List.not_mem_nil, or_false] at hm
      rcases hm with e | e
      · cases e; exact ⟨by omega, by omega, K6.b0⟩
      · cases e; exact ⟨by omega, by omega, K6.b1⟩⟩
  clear K4 K5 K6 c0 c1 c2 c3 f0 f1 f2 f3 l0 l1 l2 l3
  refine wp_region_facts 5 [30, 31, 32] (VGotI (w4.heap.size + 1) (w.heap.size + 1 + 1) (w.heap.size + 1 + 1 + 1) nx lost p) (fun _ W => Two w W (w.heap.size + 1 + 1) (w.heap.size + 1 + 1 + 1) [(w4.heap.size + 1, 62, #[.int .i64 p.wd, .int .i64 p.tm, .int .i64 p.ly, .int .i64 p.sz, .bool p.k, .bool p.l]), (w4.heap.size, 27, #[.int .i64 (nx + 1), .int .i64 lost, .bool false])]) (RGotI (w.heap.size + 1 + 1) (w.heap.size + 1 + 1 + 1) nx lost p) (by kernel_rfl) (by kernel_rfl) (by rfl) ?hI VGotI_keep ?hob ?hend
  case hI => exact TW.drew
  case hob =>
    simp only [List.take_succ_cons, List.take_zero, Obs, and_true]
    refine ⟨?_, ?_, ?_, ?_, ?_⟩
    · intro k' x W hkn hI hd K hK0
      have hK := hK0.out
      simp only [setAll, Act.put, List.foldl_cons, List.foldl_nil, List.setIfInBounds_toArray, List.set_cons_succ, List.set_cons_zero] at hK ⊢
      have HK := Lib.hid hK
      clear hK hK0
      rw [if_pos (by rfl)]
      clear hd
      have cx := (hI.blks _ _ _ (.tail _ (.head _))).2.2.cells
      go_simp
      exact HK.out _ _ hI ⟨hI.ne, .inl rfl⟩ ⟨rfl, fun h => by cases h⟩
    · intro k' x W hkn hI hd K hK0
      have hK := hK0.out
      simp only [setAll, Act.put, List.foldl_cons, List.foldl_nil, List.setIfInBounds_toArray, List.set_cons_succ, List.set_cons_zero] at hK ⊢
      have HK := Lib.hid hK
      clear hK hK0
      rw [if_pos (by rfl)]
      clear hd
      go_simp
      exact HK.out _ _ hI ⟨hI.ne, .inl rfl⟩ ⟨rfl, fun h => by cases h⟩
    · intro k' x W hkn hI hd K hK0
      have hK := hK0.out
      simp only [setAll, Act.put, List.foldl_cons, List.foldl_nil, List.setIfInBounds_toArray, List.set_cons_succ, List.set_cons_zero] at hK ⊢
      have HK := Lib.hid hK
      clear hK hK0
      rw [if_pos (by rfl)]
      obtain e31 : x 31 = .pointer (some ⟨w4.heap.size + 1, 0, none⟩) := hd 1 _ rfl (by kernel_rfl)
      rw [e31] at HK ⊢
      clear e31
      clear hd
      have cx := (hI.blks _ _ _ (.head _)).2.2.cells
      go_simp
      exact HK.out _ _ hI ⟨hI.ne, .inl rfl⟩ ⟨rfl, fun h => by cases h⟩
    · intro k' x W hkn hI hd K hK0
      have hK := hK0.out
      simp only [setAll, Act.put, List.foldl_cons, List.foldl_nil, List.setIfInBounds_toArray, List.set_cons_succ, List.set_cons_zero] at hK ⊢
      have HK := Lib.hid hK
      clear hK hK0
      rw [if_pos (by rfl)]
      obtain e30 : x 30 = .agg #[.int .i64 (nx + 1), .int .i64 lost, .bool false] := hd 0 _ rfl (by kernel_rfl)
      rw [e30] at HK ⊢
      clear e30
      clear hd
      obtain ⟨_, _, _, ha⟩ := hI.a
      have fa := ha.free
      have ca := ha.cells
      go_simp
      exact HK.out undef _ (hI.set4 _ _ _) ⟨hI.ne, .inr (.inl rfl)⟩ ⟨ha.set3 _ _ _, fun _ => ha.set3 _ _ _⟩
    · intro k' x W hkn hI hd K hK0
      have hK := hK0.out
      simp only [setAll, Act.put, List.foldl_cons, List.foldl_nil, List.setIfInBounds_toArray, List.set_cons_succ, List.set_cons_zero] at hK ⊢
      have HK := Lib.hid hK
      clear hK hK0
      rw [if_pos (by rfl)]
      obtain e32 : x 32 = .agg #[.int .i64 p.wd, .int .i64 p.tm, .int .i64 p.ly, .int .i64 p.sz, .bool p.k, .bool p.l] := hd 2 _ rfl (by kernel_rfl)
      rw [e32] at HK ⊢
      clear e32
      clear hd
      obtain ⟨_, _, _, _, _, _, ha⟩ := hI.b
      have fa := ha.free
      have ca := ha.cells
      go_simp
      exact HK.out undef _ (hI.set5 _ _ _ _ _ _) ⟨hI.ne, .inr (.inr rfl)⟩ ⟨ha.set6 _ _ _ _ _ _, fun _ => ha.set6 _ _ _ _ _ _⟩
  case hend =>
    intro x W hI hV
    have h4 : Blk W (w.heap.size + 1 + 1) 27 #[.int .i64 (nx + 1), .int .i64 lost, .bool false] := hV 3 _ (by omega) rfl
    have h5 : Blk W (w.heap.size + 1 + 1 + 1) 31 #[.int .i64 p.wd, .int .i64 p.tm, .int .i64 p.ly, .int .i64 p.sz, .bool p.k, .bool p.l] := hV 4 _ (by omega) rfl
    clear hV
    simp only [setAll, Act.put, List.foldl_cons, List.foldl_nil, List.setIfInBounds_toArray, List.set_cons_succ, List.set_cons_zero, List.drop_succ_cons, List.drop_zero]
    have c4 := h4.cells; have c5 := h5.cells; have L9 := hI.below
    clear hI h4 h5
    go_wp2_with fail
    refine bodyPost_ret (by simp [results, Try.results14, go_sem, c4, c5]; try rfl) rfl ?_
    rw [HT.out]
    exact ⟨by simp [tkV], L9⟩

end Go.Proofs.Ytlnhnljckceeaaa
