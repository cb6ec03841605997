/-
  ReaderTake of the reference.
-/
import Derived.Test.YtlnhnljckceeaaaTakeF
namespace Go.Proofs.Ytlnhnljckceeaaa
open Go.RowKit
set_option linter.unusedSimpArgs false
set_option linter.unusedVariables false

/-- What the operations of the region leave that tells a packet. -/
def VGotS (D3 D4 D5 : Nat) (nx lost : Int) (p : Pk) (k : Bool) (i : Nat) (v : Value) (w : World) : Prop := match i with
  | 0 => v = .pointer (some ⟨D3, 0, none⟩)
  | 1 => v = .int .i64 nx
  | 2 => v = .int .i64 (nx + 1)
  | 3 => v = .pointer (some ⟨D3, 1, none⟩)
  | 4 => v = .int .i64 lost
  | 5 => v = .agg #[.int .i64 (nx + 1), .int .i64 lost, .bool false]
  | 6 => v = .agg #[.int .i64 p.wd, .int .i64 p.tm, .int .i64 p.ly, .int .i64 p.sz, .bool k, .bool p.l]
  | 7 => Blk w D4 27 #[.int .i64 (nx + 1), .int .i64 lost, .bool false]
  | 8 => Blk w D5 31 #[.int .i64 p.wd, .int .i64 p.tm, .int .i64 p.ly, .int .i64 p.sz, .bool k, .bool p.l]
  | _ => True
abbrev RGotS (D4 D5 : Nat) (nx lost : Int) (p : Pk) (k : Bool) := RTwo D4 D5 (.int .i64 (nx + 1)) (.int .i64 lost) (.bool false) (.int .i64 p.wd) (.int .i64 p.tm) (.int .i64 p.ly) (.int .i64 p.sz) (.bool k) (.bool p.l)
theorem VGotS_keep {D3 D4 D5 : Nat} {nx lost : Int} {p : Pk} {k : Bool} : ∀ (i : Nat) (v : Value) (w w' : World), RGotS D4 D5 nx lost p k w w' → VGotS D3 D4 D5 nx lost p k i v w → VGotS D3 D4 D5 nx lost p k i v w'
  | 0, _, _, _, _, h => h | 1, _, _, _, _, h => h | 2, _, _, _, _, h => h | 3, _, _, _, _, h => h
  | 4, _, _, _, _, h => h | 5, _, _, _, _, h => h | 6, _, _, _, _, h => h
  | 7, _, _, _, hr, h => hr.keep4 h
  | 8, _, _, _, hr, h => hr.keep5 h
  | _ + 9, _, _, _, _, h => h

set_option maxHeartbeats 4000000 in
theorem takeSpec (room count : Int) (A : Option Addr) (ps : List Pk) (cap : Nat) (nx lost : Int) (wt : Bool) (w : World) (hp : PkRow w w.heap.size A ps) (hl : ps.length ≤ cap) (hm : cap ≤ 9223372036854775807) :
    Calls Try.prog 15 #[.agg #[.int .i64 room, .int .i64 count, .slice A ps.length cap], .agg #[.int .i64 nx, .int .i64 lost, .bool wt]] w fun e w' => e = .returned (tkV (takeF room count ps nx lost wt)) ∧ Below w.heap.size w w' := by
  have K1 := (((((Sk.nil hp (Below.refl _ _)).push (b := w.heap.size) 25 #[.int .i64 room, .int .i64 count, .slice A ps.length cap] rfl).push (b := w.heap.size + 1) 27 #[.int .i64 nx, .int .i64 lost, .bool wt] (by simp)).push (b := w.heap.size + 1 + 1) 27 #[.int .i64 0, .int .i64 0, .bool false] (by simp)).push (b := w.heap.size + 1 + 1 + 1) 31 #[.int .i64 0, .int .i64 0, .int .i64 0, .int .i64 0, .bool false, .bool false] (by simp))
  have HH := Lib.hid (And.intro hl hm)
  clear hp
  rcases take_ways room count ps nx lost wt with hv | ⟨hv, hway⟩
  · have HV := Lib.hid hv
    have HT := Lib.hid (takeF_bad (wt := wt) hv)
    clear hv
    go_enter Try.func15, Try.ntmps15
    go_wp2_with fail
    refine (rdSpec _ _ _ _ _ _ _ _ _ K1.row HH.out.1 HH.out.2).mono ?_
    rintro e w2 ⟨rfl, hb⟩
    rw [HV.out]
    have K2 := K1.mem hb
    clear K1 hb
    have c0 := K2.b0.cells; have f0 := K2.b0.free; have l0 := K2.b0.lt
    have c1 := K2.b1.cells; have f1 := K2.b1.free; have l1 := K2.b1.lt
    have c2 := K2.b2.cells; have f2 := K2.b2.free; have l2 := K2.b2.lt
    have c3 := K2.b3.cells; have f3 := K2.b3.free; have l3 := K2.b3.lt
    go_wp2_with fail
    refine bodyPost_ret (by simp [results, Try.results15, go_sem, c0, l0, c1, l1]; try rfl) rfl ?_
    rw [HT.out]
    refine ⟨rfl, ?_⟩
    have L9 := K2.below
    repeat' (first | (with_reducible exact L9) | (with_reducible refine Fr.alloc ?_ _) | (with_reducible refine Below.setCell ?_ ?_ _) | (simp; omega) | (simp; done))
  have HV := Lib.hid hv
  obtain ⟨hr, hnx, hlo⟩ := readerB_iff.1 hv
  obtain ⟨-, hcn, hlen0, hpv⟩ := ringB_iff.1 hr
  have hlen : (ps.length : Int) ≤ count := by have := minI_le room count; omega
  have HB := Lib.hid (And.intro hpv (And.intro hcn (And.intro hlen (And.intro hnx hlo))))
  have hw1 : IntKind.i64.wrap (count - (ps.length : Int)) = count - (ps.length : Int) := IntWalk.i64_in _ (by omega)
  rcases hway with h1 | ⟨h1, h2⟩ | ⟨i, p, h1, h2, hi, hpi, hk⟩
  · have HT := Lib.hid (takeF_far (wt := wt) hv h1)
    clear hv hr hnx hlo hcn hlen0 hpv hlen
    go_enter Try.func15, Try.ntmps15
    go_wp2_with fail
    refine (rdSpec _ _ _ _ _ _ _ _ _ K1.row HH.out.1 HH.out.2).mono ?_
    rintro e w2 ⟨rfl, hb⟩
    rw [HV.out]
    have K2 := K1.mem hb
    clear K1 hb
    have c0 := K2.b0.cells; have f0 := K2.b0.free; have l0 := K2.b0.lt
    have c1 := K2.b1.cells; have f1 := K2.b1.free; have l1 := K2.b1.lt
    have c2 := K2.b2.cells; have f2 := K2.b2.free; have l2 := K2.b2.lt
    have c3 := K2.b3.cells; have f3 := K2.b3.free; have l3 := K2.b3.lt
    go_wp2_with fail
    refine (skipSpec _ _ _ _ _ _ _ _ _ _ K2.row HH.out.1 HH.out.2 HB.out.1 HB.out.2.1 HB.out.2.2.1 HB.out.2.2.2.1 HB.out.2.2.2.2).mono ?_
    rintro e w3 ⟨rfl, hb⟩
    have K3 := K2.mem hb
    clear hb
    clear K2 c0 c1 c2 c3 f0 f1 f2 f3 l0 l1 l2 l3
    have c0 := K3.b0.cells; have f0 := K3.b0.free; have l0 := K3.b0.lt
    have c1 := K3.b1.cells; have f1 := K3.b1.free; have l1 := K3.b1.lt
    go_wp2_with fail
    refine bodyPost_ret (by simp [results, Try.results15, go_sem, c0, l0, c1, l1]; try rfl) rfl ?_
    rw [HT.out]
    refine ⟨rfl, ?_⟩
    have L9 := K3.below
    repeat' (first | (with_reducible exact L9) | (with_reducible refine Fr.alloc ?_ _) | (with_reducible refine Below.setCell ?_ ?_ _) | (simp; omega) | (simp; done))
  · have HT := Lib.hid (takeF_end (wt := wt) hv h1 h2)
    clear hv hr hnx hlo hcn hlen0 hpv hlen
    subst h2
    go_enter Try.func15, Try.ntmps15
    go_wp2_with fail
    refine (rdSpec _ _ _ _ _ _ _ _ _ K1.row HH.out.1 HH.out.2).mono ?_
    rintro e w2 ⟨rfl, hb⟩
    rw [HV.out]
    have K2 := K1.mem hb
    clear K1 hb
    have c0 := K2.b0.cells; have f0 := K2.b0.free; have l0 := K2.b0.lt
    have c1 := K2.b1.cells; have f1 := K2.b1.free; have l1 := K2.b1.lt
    have c2 := K2.b2.cells; have f2 := K2.b2.free; have l2 := K2.b2.lt
    have c3 := K2.b3.cells; have f3 := K2.b3.free; have l3 := K2.b3.lt
    go_wp2_with fail
    refine bodyPost_ret (by simp [results, Try.results15, go_sem, c0, l0, c1, l1]; try rfl) rfl ?_
    rw [HT.out]
    refine ⟨rfl, ?_⟩
    have L9 := K2.below
    repeat' (first | (with_reducible exact L9) | (with_reducible refine Fr.alloc ?_ _) | (with_reducible refine Below.setCell ?_ ?_ _) | (simp; omega) | (simp; done))
  have hw2 : IntKind.i64.wrap (nx - (count - (ps.length : Int))) = (i : Int) := by rw [IntWalk.i64_in _ (by omega)]; omega
  have hn1 : ¬ nx < count - (ps.length : Int) := by omega
  have hi0 : (0 : Int) ≤ (i : Int) := by omega
  have hi1 : (i : Int) < (ps.length : Int) := by omega
  have hpos : 0 < ps.length := by omega
  have HP := Lib.hid hpi
  have hw3 : IntKind.i64.wrap (nx + 1) = nx + 1 := IntWalk.i64_in _ (by omega)
  have h2' : (nx == count) = false := by simp [h2]
  rcases hk with ⟨rfl, hk⟩ | hk
  · have HT := Lib.hid (takeF_skip hv h1 h2 hpi hk)
    clear hv hr hnx hlo hcn hlen0 hpv hlen h1 h2 hpi hi
    go_enter Try.func15, Try.ntmps15
    go_wp2_with fail
    refine (rdSpec _ _ _ _ _ _ _ _ _ K1.row HH.out.1 HH.out.2).mono ?_
    rintro e w2 ⟨rfl, hb⟩
    rw [HV.out]
    have K2 := K1.mem hb
    clear K1 hb
    have c0 := K2.b0.cells; have f0 := K2.b0.free; have l0 := K2.b0.lt
    have c1 := K2.b1.cells; have f1 := K2.b1.free; have l1 := K2.b1.lt
    have c2 := K2.b2.cells; have f2 := K2.b2.free; have l2 := K2.b2.lt
    have c3 := K2.b3.cells; have f3 := K2.b3.free; have l3 := K2.b3.lt
    obtain ⟨b, off, rfl, hbB, hrow⟩ := K2.row hpos
    obtain ⟨x0, x1, x2, x3, x4, x5⟩ := hrow i p HP.out
    clear hrow
    rw [hk] at x4
    go_wp2_with fail
    have K2' := K2.push 31 #[.int .i64 p.wd, .int .i64 p.tm, .int .i64 p.ly, .int .i64 p.sz, .bool false, .bool p.l] rfl
    clear K2 x0 x1 x2 x3 x4 x5
    refine (skipSpec _ _ _ _ _ _ _ _ _ _ K2'.row HH.out.1 HH.out.2 HB.out.1 HB.out.2.1 HB.out.2.2.1 HB.out.2.2.2.1 HB.out.2.2.2.2).mono ?_
    rintro e w3 ⟨rfl, hb⟩
    have K3 := K2'.mem hb
    clear hb
    clear K2' c0 c1 c2 c3 f0 f1 f2 f3 l0 l1 l2 l3
    have c1 := K3.b1.cells; have f1 := K3.b1.free; have l1 := K3.b1.lt
    have c2 := K3.b2.cells; have f2 := K3.b2.free; have l2 := K3.b2.lt
    go_wp2_with fail
    refine bodyPost_ret (by simp [results, Try.results15, go_sem, c1, l1, c2, l2]; try rfl) rfl ?_
    rw [HT.out]
    refine ⟨rfl, ?_⟩
    have L9 := K3.below
    repeat' (first | (with_reducible exact L9) | (with_reducible refine Fr.alloc ?_ _) | (with_reducible refine Below.setCell ?_ ?_ _) | (simp; omega) | (simp; done))
  have HT := Lib.hid (takeF_got hv h1 h2 hpi (hk.imp id And.right))
  clear hv hr hnx hlo hcn hlen0 hpv hlen h1 h2 hpi hi
  rcases hk with rfl | ⟨rfl, hk⟩
  · go_enter Try.func15, Try.ntmps15
    go_wp2_with fail
    refine (rdSpec _ _ _ _ _ _ _ _ _ K1.row HH.out.1 HH.out.2).mono ?_
    rintro e w2 ⟨rfl, hb⟩
    rw [HV.out]
    have K2 := K1.mem hb
    clear K1 hb
    have c0 := K2.b0.cells; have f0 := K2.b0.free; have l0 := K2.b0.lt
    have c1 := K2.b1.cells; have f1 := K2.b1.free; have l1 := K2.b1.lt
    have c2 := K2.b2.cells; have f2 := K2.b2.free; have l2 := K2.b2.lt
    have c3 := K2.b3.cells; have f3 := K2.b3.free; have l3 := K2.b3.lt
    obtain ⟨b, off, rfl, hbB, hrow⟩ := K2.row hpos
    obtain ⟨x0, x1, x2, x3, x4, x5⟩ := hrow i p HP.out
    clear hrow
    go_wp2_with fail
    have K3 := K2.push 31 #[.int .i64 p.wd, .int .i64 p.tm, .int .i64 p.ly, .int .i64 p.sz, .bool p.k, .bool p.l] rfl
    have TW : Two w (w2.alloc (.cells #[.int .i64 p.wd, .int .i64 p.tm, .int .i64 p.ly, .int .i64 p.sz, .bool p.k, .bool p.l] 31)) (w.heap.size + 1 + 1) (w.heap.size + 1 + 1 + 1) [(w2.heap.size, 31, #[.int .i64 p.wd, .int .i64 p.tm, .int .i64 p.ly, .int .i64 p.sz, .bool p.k, .bool p.l]), (w.heap.size + 1, 27, #[.int .i64 nx, .int .i64 lost, .bool false])] :=
      ⟨K3.below, by omega, by omega, by omega, ⟨_, _, _, K3.b2⟩, ⟨_, _, _, _, _, _, K3.b1⟩, fun b T cs hm => by
        simp only [List.mem_cons, List.not_mem_nil, or_false] at hm
        rcases hm with e | e
        · cases e; exact ⟨by omega, by omega, K3.b0⟩
        · cases e; exact ⟨by omega, by omega, K3.b3⟩⟩
    clear K2 K3 c0 c1 c2 c3 f0 f1 f2 f3 l0 l1 l2 l3 x0 x1 x2 x3 x4 x5
    refine wp_region_facts 9 [58, 59, 60, 61, 62, 63, 64] (VGotS (w.heap.size + 1) (w.heap.size + 1 + 1) (w.heap.size + 1 + 1 + 1) nx lost p p.k) (fun _ W => Two w W (w.heap.size + 1 + 1) (w.heap.size + 1 + 1 + 1) [(w2.heap.size, 31, #[.int .i64 p.wd, .int .i64 p.tm, .int .i64 p.ly, .int .i64 p.sz, .bool p.k, .bool p.l]), (w.heap.size + 1, 27, #[.int .i64 nx, .int .i64 lost, .bool false])]) (RGotS (w.heap.size + 1 + 1) (w.heap.size + 1 + 1 + 1) nx lost p p.k) (by kernel_rfl) (by kernel_rfl) (by rfl) ?hI VGotS_keep ?hob ?hend
    case hI => exact TW.drew
    case hob =>
      simp only [List.take_succ_cons, List.take_zero, Obs, and_true]
      refine ⟨?_, ?_, ?_, ?_, ?_, ?_, ?_, ?_, ?_⟩
      · intro k' x W hkn hI hd K hK0
        have hK := hK0.out
        simp only [setAll, Act.put, List.foldl_cons, List.foldl_nil, List.setIfInBounds_toArray, List.set_cons_succ, List.set_cons_zero] at hK ⊢
        have HK := Lib.hid hK
        clear hK hK0
        rw [if_pos (by rfl)]
        clear hd
        go_simp
        exact HK.out _ _ hI ⟨hI.ne, .inl rfl⟩ ⟨rfl, fun h => by cases h⟩
      · intro k' x W hkn hI hd K hK0
        have hK := hK0.out
        simp only [setAll, Act.put, List.foldl_cons, List.foldl_nil, List.setIfInBounds_toArray, List.set_cons_succ, List.set_cons_zero] at hK ⊢
        have HK := Lib.hid hK
        clear hK hK0
        rw [if_pos (by rfl)]
        obtain e58 : x 58 = .pointer (some ⟨w.heap.size + 1, 0, none⟩) := hd 0 _ rfl (by kernel_rfl)
        rw [e58] at HK ⊢
        clear e58
        clear hd
        have cx := (hI.blks _ _ _ (.tail _ (.head _))).2.2.cells
        go_simp
        exact HK.out _ _ hI ⟨hI.ne, .inl rfl⟩ ⟨rfl, fun h => by cases h⟩
      · intro k' x W hkn hI hd K hK0
        have hK := hK0.out
        simp only [setAll, Act.put, List.foldl_cons, List.foldl_nil, List.setIfInBounds_toArray, List.set_cons_succ, List.set_cons_zero] at hK ⊢
        have HK := Lib.hid hK
        clear hK hK0
        rw [if_pos (by rfl)]
        obtain e59 : x 59 = .int .i64 nx := hd 1 _ rfl (by kernel_rfl)
        rw [e59] at HK ⊢
        clear e59
        clear hd
        go_simp
        exact HK.out _ _ hI ⟨hI.ne, .inl rfl⟩ ⟨rfl, fun h => by cases h⟩
      · intro k' x W hkn hI hd K hK0
        have hK := hK0.out
        simp only [setAll, Act.put, List.foldl_cons, List.foldl_nil, List.setIfInBounds_toArray, List.set_cons_succ, List.set_cons_zero] at hK ⊢
        have HK := Lib.hid hK
        clear hK hK0
        rw [if_pos (by rfl)]
        clear hd
        go_simp
        exact HK.out _ _ hI ⟨hI.ne, .inl rfl⟩ ⟨rfl, fun h => by cases h⟩
      · intro k' x W hkn hI hd K hK0
        have hK := hK0.out
        simp only [setAll, Act.put, List.foldl_cons, List.foldl_nil, List.setIfInBounds_toArray, List.set_cons_succ, List.set_cons_zero] at hK ⊢
        have HK := Lib.hid hK
        clear hK hK0
        rw [if_pos (by rfl)]
        obtain e61 : x 61 = .pointer (some ⟨w.heap.size + 1, 1, none⟩) := hd 3 _ rfl (by kernel_rfl)
        rw [e61] at HK ⊢
        clear e61
        clear hd
        have cx := (hI.blks _ _ _ (.tail _ (.head _))).2.2.cells
        go_simp
        exact HK.out _ _ hI ⟨hI.ne, .inl rfl⟩ ⟨rfl, fun h => by cases h⟩
      · intro k' x W hkn hI hd K hK0
        have hK := hK0.out
        simp only [setAll, Act.put, List.foldl_cons, List.foldl_nil, List.setIfInBounds_toArray, List.set_cons_succ, List.set_cons_zero] at hK ⊢
        have HK := Lib.hid hK
        clear hK hK0
        rw [if_pos (by rfl)]
        obtain e60 : x 60 = .int .i64 (nx + 1) := hd 2 _ rfl (by kernel_rfl)
        obtain e62 : x 62 = .int .i64 lost := hd 4 _ rfl (by kernel_rfl)
        rw [e60, e62] at HK ⊢
        clear e60 e62
        clear hd
        go_simp
        exact HK.out _ _ hI ⟨hI.ne, .inl rfl⟩ ⟨rfl, fun h => by cases h⟩
      · intro k' x W hkn hI hd K hK0
        have hK := hK0.out
        simp only [setAll, Act.put, List.foldl_cons, List.foldl_nil, List.setIfInBounds_toArray, List.set_cons_succ, List.set_cons_zero] at hK ⊢
        have HK := Lib.hid hK
        clear hK hK0
        rw [if_pos (by rfl)]
        clear hd
        have cx := (hI.blks _ _ _ (.head _)).2.2.cells
        go_simp
        exact HK.out _ _ hI ⟨hI.ne, .inl rfl⟩ ⟨rfl, fun h => by cases h⟩
      · intro k' x W hkn hI hd K hK0
        have hK := hK0.out
        simp only [setAll, Act.put, List.foldl_cons, List.foldl_nil, List.setIfInBounds_toArray, List.set_cons_succ, List.set_cons_zero] at hK ⊢
        have HK := Lib.hid hK
        clear hK hK0
        rw [if_pos (by rfl)]
        obtain e63 : x 63 = .agg #[.int .i64 (nx + 1), .int .i64 lost, .bool false] := hd 5 _ rfl (by kernel_rfl)
        rw [e63] at HK ⊢
        clear e63
        clear hd
        obtain ⟨_, _, _, ha⟩ := hI.a
        have fa := ha.free
        have ca := ha.cells
        go_simp
        exact HK.out undef _ (hI.set4 _ _ _) ⟨hI.ne, .inr (.inl rfl)⟩ ⟨ha.set3 _ _ _, fun _ => ha.set3 _ _ _⟩
      · intro k' x W hkn hI hd K hK0
        have hK := hK0.out
        simp only [setAll, Act.put, List.foldl_cons, List.foldl_nil, List.setIfInBounds_toArray, List.set_cons_succ, List.set_cons_zero] at hK ⊢
        have HK := Lib.hid hK
        clear hK hK0
        rw [if_pos (by rfl)]
        obtain e64 : x 64 = .agg #[.int .i64 p.wd, .int .i64 p.tm, .int .i64 p.ly, .int .i64 p.sz, .bool p.k, .bool p.l] := hd 6 _ rfl (by kernel_rfl)
        rw [e64] at HK ⊢
        clear e64
        clear hd
        obtain ⟨_, _, _, _, _, _, ha⟩ := hI.b
        have fa := ha.free
        have ca := ha.cells
        go_simp
        exact HK.out undef _ (hI.set5 _ _ _ _ _ _) ⟨hI.ne, .inr (.inr rfl)⟩ ⟨ha.set6 _ _ _ _ _ _, fun _ => ha.set6 _ _ _ _ _ _⟩
    case hend =>
      intro x W hI hV
      have h4 : Blk W (w.heap.size + 1 + 1) 27 #[.int .i64 (nx + 1), .int .i64 lost, .bool false] := hV 7 _ (by omega) rfl
      have h5 : Blk W (w.heap.size + 1 + 1 + 1) 31 #[.int .i64 p.wd, .int .i64 p.tm, .int .i64 p.ly, .int .i64 p.sz, .bool p.k, .bool p.l] := hV 8 _ (by omega) rfl
      clear hV
      simp only [setAll, Act.put, List.foldl_cons, List.foldl_nil, List.setIfInBounds_toArray, List.set_cons_succ, List.set_cons_zero, List.drop_succ_cons, List.drop_zero]
      have c4 := h4.cells; have c5 := h5.cells; have L9 := hI.below
      clear hI h4 h5
      go_wp2_with fail
      refine bodyPost_ret (by simp [results, Try.results15, go_sem, c4, c5]; try rfl) rfl ?_
      rw [HT.out]
      exact ⟨by simp [tkV], L9⟩
  · have HKp := Lib.hid hk
    go_enter Try.func15, Try.ntmps15
    go_wp2_with fail
    refine (rdSpec _ _ _ _ _ _ _ _ _ K1.row HH.out.1 HH.out.2).mono ?_
    rintro e w2 ⟨rfl, hb⟩
    rw [HV.out]
    have K2 := K1.mem hb
    clear K1 hb
    have c0 := K2.b0.cells; have f0 := K2.b0.free; have l0 := K2.b0.lt
    have c1 := K2.b1.cells; have f1 := K2.b1.free; have l1 := K2.b1.lt
    have c2 := K2.b2.cells; have f2 := K2.b2.free; have l2 := K2.b2.lt
    have c3 := K2.b3.cells; have f3 := K2.b3.free; have l3 := K2.b3.lt
    obtain ⟨b, off, rfl, hbB, hrow⟩ := K2.row hpos
    obtain ⟨x0, x1, x2, x3, x4, x5⟩ := hrow i p HP.out
    clear hrow
    rw [hk] at x4
    clear hk
    go_wp2_with fail
    have K3 := K2.push 31 #[.int .i64 p.wd, .int .i64 p.tm, .int .i64 p.ly, .int .i64 p.sz, .bool true, .bool p.l] rfl
    have TW : Two w (w2.alloc (.cells #[.int .i64 p.wd, .int .i64 p.tm, .int .i64 p.ly, .int .i64 p.sz, .bool true, .bool p.l] 31)) (w.heap.size + 1 + 1) (w.heap.size + 1 + 1 + 1) [(w2.heap.size, 31, #[.int .i64 p.wd, .int .i64 p.tm, .int .i64 p.ly, .int .i64 p.sz, .bool true, .bool p.l]), (w.heap.size + 1, 27, #[.int .i64 nx, .int .i64 lost, .bool true])] :=
      ⟨K3.below, by omega, by omega, by omega, ⟨_, _, _, K3.b2⟩, ⟨_, _, _, _, _, _, K3.b1⟩, fun b T cs hm => by
        simp only [List.mem_cons, List.not_mem_nil, or_false] at hm
        rcases hm with e | e
        · cases e; exact ⟨by omega, by omega, K3.b0⟩
        · cases e; exact ⟨by omega, by omega, K3.b3⟩⟩
    clear K2 K3 c0 c1 c2 c3 f0 f1 f2 f3 l0 l1 l2 l3 x0 x1 x2 x3 x4 x5
    refine wp_region_facts 9 [58, 59, 60, 61, 62, 63, 64] (VGotS (w.heap.size + 1) (w.heap.size + 1 + 1) (w.heap.size + 1 + 1 + 1) nx lost p true) (fun _ W => Two w W (w.heap.size + 1 + 1) (w.heap.size + 1 + 1 + 1) [(w2.heap.size, 31, #[.int .i64 p.wd, .int .i64 p.tm, .int .i64 p.ly, .int .i64 p.sz, .bool true, .bool p.l]), (w.heap.size + 1, 27, #[.int .i64 nx, .int .i64 lost, .bool true])]) (RGotS (w.heap.size + 1 + 1) (w.heap.size + 1 + 1 + 1) nx lost p true) (by kernel_rfl) (by kernel_rfl) (by rfl) ?hI VGotS_keep ?hob ?hend
    case hI => exact TW.drew
    case hob =>
      simp only [List.take_succ_cons, List.take_zero, Obs, and_true]
      refine ⟨?_, ?_, ?_, ?_, ?_, ?_, ?_, ?_, ?_⟩
      · intro k' x W hkn hI hd K hK0
        have hK := hK0.out
        simp only [setAll, Act.put, List.foldl_cons, List.foldl_nil, List.setIfInBounds_toArray, List.set_cons_succ, List.set_cons_zero] at hK ⊢
        have HK := Lib.hid hK
        clear hK hK0
        rw [if_pos (by rfl)]
        clear hd
        go_simp
        exact HK.out _ _ hI ⟨hI.ne, .inl rfl⟩ ⟨rfl, fun h => by cases h⟩
      · intro k' x W hkn hI hd K hK0
        have hK := hK0.out
        simp only [setAll, Act.put, List.foldl_cons, List.foldl_nil, List.setIfInBounds_toArray, List.set_cons_succ, List.set_cons_zero] at hK ⊢
        have HK := Lib.hid hK
        clear hK hK0
        rw [if_pos (by rfl)]
        obtain e58 : x 58 = .pointer (some ⟨w.heap.size + 1, 0, none⟩) := hd 0 _ rfl (by kernel_rfl)
        rw [e58] at HK ⊢
        clear e58
        clear hd
        have cx := (hI.blks _ _ _ (.tail _ (.head _))).2.2.cells
        go_simp
        exact HK.out _ _ hI ⟨hI.ne, .inl rfl⟩ ⟨rfl, fun h => by cases h⟩
      · intro k' x W hkn hI hd K hK0
        have hK := hK0.out
        simp only [setAll, Act.put, List.foldl_cons, List.foldl_nil, List.setIfInBounds_toArray, List.set_cons_succ, List.set_cons_zero] at hK ⊢
        have HK := Lib.hid hK
        clear hK hK0
        rw [if_pos (by rfl)]
        obtain e59 : x 59 = .int .i64 nx := hd 1 _ rfl (by kernel_rfl)
        rw [e59] at HK ⊢
        clear e59
        clear hd
        go_simp
        exact HK.out _ _ hI ⟨hI.ne, .inl rfl⟩ ⟨rfl, fun h => by cases h⟩
      · intro k' x W hkn hI hd K hK0
        have hK := hK0.out
        simp only [setAll, Act.put, List.foldl_cons, List.foldl_nil, List.setIfInBounds_toArray, List.set_cons_succ, List.set_cons_zero] at hK ⊢
        have HK := Lib.hid hK
        clear hK hK0
        rw [if_pos (by rfl)]
        clear hd
        go_simp
        exact HK.out _ _ hI ⟨hI.ne, .inl rfl⟩ ⟨rfl, fun h => by cases h⟩
      · intro k' x W hkn hI hd K hK0
        have hK := hK0.out
        simp only [setAll, Act.put, List.foldl_cons, List.foldl_nil, List.setIfInBounds_toArray, List.set_cons_succ, List.set_cons_zero] at hK ⊢
        have HK := Lib.hid hK
        clear hK hK0
        rw [if_pos (by rfl)]
        obtain e61 : x 61 = .pointer (some ⟨w.heap.size + 1, 1, none⟩) := hd 3 _ rfl (by kernel_rfl)
        rw [e61] at HK ⊢
        clear e61
        clear hd
        have cx := (hI.blks _ _ _ (.tail _ (.head _))).2.2.cells
        go_simp
        exact HK.out _ _ hI ⟨hI.ne, .inl rfl⟩ ⟨rfl, fun h => by cases h⟩
      · intro k' x W hkn hI hd K hK0
        have hK := hK0.out
        simp only [setAll, Act.put, List.foldl_cons, List.foldl_nil, List.setIfInBounds_toArray, List.set_cons_succ, List.set_cons_zero] at hK ⊢
        have HK := Lib.hid hK
        clear hK hK0
        rw [if_pos (by rfl)]
        obtain e60 : x 60 = .int .i64 (nx + 1) := hd 2 _ rfl (by kernel_rfl)
        obtain e62 : x 62 = .int .i64 lost := hd 4 _ rfl (by kernel_rfl)
        rw [e60, e62] at HK ⊢
        clear e60 e62
        clear hd
        go_simp
        exact HK.out _ _ hI ⟨hI.ne, .inl rfl⟩ ⟨rfl, fun h => by cases h⟩
      · intro k' x W hkn hI hd K hK0
        have hK := hK0.out
        simp only [setAll, Act.put, List.foldl_cons, List.foldl_nil, List.setIfInBounds_toArray, List.set_cons_succ, List.set_cons_zero] at hK ⊢
        have HK := Lib.hid hK
        clear hK hK0
        rw [if_pos (by rfl)]
        clear hd
        have cx := (hI.blks _ _ _ (.head _)).2.2.cells
        go_simp
        exact HK.out _ _ hI ⟨hI.ne, .inl rfl⟩ ⟨rfl, fun h => by cases h⟩
      · intro k' x W hkn hI hd K hK0
        have hK := hK0.out
        simp only [setAll, Act.put, List.foldl_cons, List.foldl_nil, List.setIfInBounds_toArray, List.set_cons_succ, List.set_cons_zero] at hK ⊢
        have HK := Lib.hid hK
        clear hK hK0
        rw [if_pos (by rfl)]
        obtain e63 : x 63 = .agg #[.int .i64 (nx + 1), .int .i64 lost, .bool false] := hd 5 _ rfl (by kernel_rfl)
        rw [e63] at HK ⊢
        clear e63
        clear hd
        obtain ⟨_, _, _, ha⟩ := hI.a
        have fa := ha.free
        have ca := ha.cells
        go_simp
        exact HK.out undef _ (hI.set4 _ _ _) ⟨hI.ne, .inr (.inl rfl)⟩ ⟨ha.set3 _ _ _, fun _ => ha.set3 _ _ _⟩
      · intro k' x W hkn hI hd K hK0
        have hK := hK0.out
        simp only [setAll, Act.put, List.foldl_cons, List.foldl_nil, List.setIfInBounds_toArray, List.set_cons_succ, List.set_cons_zero] at hK ⊢
        have HK := Lib.hid hK
        clear hK hK0
        rw [if_pos (by rfl)]
        obtain e64 : x 64 = .agg #[.int .i64 p.wd, .int .i64 p.tm, .int .i64 p.ly, .int .i64 p.sz, .bool true, .bool p.l] := hd 6 _ rfl (by kernel_rfl)
        rw [e64] at HK ⊢
        clear e64
        clear hd
        obtain ⟨_, _, _, _, _, _, ha⟩ := hI.b
        have fa := ha.free
        have ca := ha.cells
        go_simp
        exact HK.out undef _ (hI.set5 _ _ _ _ _ _) ⟨hI.ne, .inr (.inr rfl)⟩ ⟨ha.set6 _ _ _ _ _ _, fun _ => ha.set6 _ _ _ _ _ _⟩
    case hend =>
      intro x W hI hV
      have h4 : Blk W (w.heap.size + 1 + 1) 27 #[.int .i64 (nx + 1), .int .i64 lost, .bool false] := hV 7 _ (by omega) rfl
      have h5 : Blk W (w.heap.size + 1 + 1 + 1) 31 #[.int .i64 p.wd, .int .i64 p.tm, .int .i64 p.ly, .int .i64 p.sz, .bool true, .bool p.l] := hV 8 _ (by omega) rfl
      clear hV
      simp only [setAll, Act.put, List.foldl_cons, List.foldl_nil, List.setIfInBounds_toArray, List.set_cons_succ, List.set_cons_zero, List.drop_succ_cons, List.drop_zero]
      have c4 := h4.cells; have c5 := h5.cells; have L9 := hI.below
      clear hI h4 h5
      go_wp2_with fail
      refine bodyPost_ret (by simp [results, Try.results15, go_sem, c4, c5]; try rfl) rfl ?_
      rw [HT.out]
      exact ⟨by simp [tkV, HKp.out], L9⟩

end Go.Proofs.Ytlnhnljckceeaaa
