/-
  The law on RingValid: a ring has as much as it can.
-/
import Derived.Test.YtaghejdanjenaaaDrawRings
namespace Go.Proofs.Ytaghejdanjenaaa
open Go.RowKit
set_option linter.unusedSimpArgs false
set_option linter.unusedVariables false

theorem ring_less {room count : Int} {ps : List Pk} (h : ringB room count ps = true) (h0 : 0 < ps.length) : ringB room count (ps.drop 1) = false := by
  cases h9 : ringB room count (ps.drop 1)
  · rfl
  · have a := (ringB_iff.1 h).2.2.1
    have b := (ringB_iff.1 h9).2.2.1
    rw [List.length_drop] at b
    omega
theorem ring_next {room count : Int} {ps : List Pk} (h : ringB room count ps = true) : ringB room (count + 1) ps = (decide ((ps.length : Int) = room) && decide (count < 999999)) := by
  obtain ⟨a, b, c, d⟩ := ringB_iff.1 h
  rw [Bool.eq_iff_iff, ringB_iff]
  simp only [Bool.and_eq_true, decide_eq_true_eq]
  unfold minI at *
  constructor
  · rintro ⟨_, b', c', _⟩
    split at c <;> split at c' <;> omega
  · rintro ⟨e1, e2⟩
    refine ⟨a, by omega, ?_, d⟩
    split at c <;> split <;> omega

set_option maxHeartbeats 2000000 in
theorem lawRingPart (A : Option Addr) (len cap : Nat) (w : World) (hl : len ≤ cap) (hm : cap ≤ maxLen) (hc : Code w w.heap.size A len) :
    Calls Try.prog 3 #[.slice A len cap] w fun e w' => e = .returned (.bool true) ∧ Below w.heap.size w w' := by
  have HC := Lib.hid hc
  clear hc
  have hm' : cap ≤ 9223372036854775807 := by unfold maxLen at hm; omega
  by_cases hbig : (1048576 : Int) < (len : Int)
  · go_enter Try.func3, Try.ntmps3
    go_wp2_with fail
    go_ret
    exact ⟨rfl, Below.refl _ _⟩
  go_enter Try.func3, Try.ntmps3
  go_wp2_with fail
  refine (drawRingValid_any A len cap w hl hm HC.out).mono ?_
  rintro e w1 ⟨room, count, A', cap', ps, rfl, hp, h1, h2, h3, h4, B1⟩
  clear HC hl hm hm' hbig
  have K1 := (Sk.nil hp B1).push 25 #[.int .i64 room, .int .i64 count, .slice A' ps.length cap'] rfl
  clear hp B1
  go_wp2_with fail
  refine (ringImpl _ _ _ _ _ _ K1.row h1 h2).mono ?_
  rintro e w2 ⟨rfl, hb⟩
  have K2 := K1.mem hb
  clear K1 hb
  have c0 := K2.b0.cells; have f0 := K2.b0.free; have l0 := K2.b0.lt
  go_wp2_with fail
  clear c0 f0 l0
  refine (ringSpec _ _ _ _ _ _ K2.row h1 h2).mono ?_
  rintro e w3 ⟨rfl, hb⟩
  have K3 := K2.mem hb
  clear K2 hb
  have c0 := K3.b0.cells; have f0 := K3.b0.free; have l0 := K3.b0.lt
  cases hv : ringB room count ps
  · go_wp2_with fail
    go_ret
    exact ⟨rfl, K3.below⟩
  by_cases hn0 : ps.length = 0
  · have hz : ((ps.length : Int) == 0) = true := by simp [hn0]
    clear hn0
    go_wp2_with fail
    go_ret
    exact ⟨rfl, K3.below⟩
  have hpos : 0 < ps.length := by omega
  have hz : ((ps.length : Int) == 0) = false := by simp [hn0]
  obtain ⟨b, off, rfl, hbB, hrow⟩ := K3.row hpos
  have HXv := Lib.hid (ring_less hv hpos)
  have HYv := Lib.hid (ring_next hv)
  have q1 : (1 : Int) ≤ (ps.length : Int) := by omega
  have q2 : (1 : Int) ≤ (cap' : Int) := by omega
  have q3 : (ps.length : Int) ≤ (cap' : Int) := by omega
  obtain ⟨o2, ho2, hr2⟩ : ∃ o2, (if cap' = 1 then (some ⟨b, off, none⟩ : Option Addr) else some ⟨b, off + 6, none⟩) = some ⟨b, o2, none⟩ ∧ (∀ (j : Nat) (p : Pk), (ps.drop 1)[j]? = some p → Six w3 b (o2 + j * 6) p) := by
    by_cases hcc : cap' = 1
    · exact ⟨off, if_pos hcc, fun j p hj => by rw [List.getElem?_drop, List.getElem?_eq_none (by omega)] at hj; cases hj⟩
    · refine ⟨off + 6, if_neg hcc, fun j p hj => ?_⟩
      rw [List.getElem?_drop] at hj
      have := hrow _ p hj
      rwa [show off + (1 + j) * 6 = off + 6 + j * 6 by omega] at this
  have PX : PkRow w3 w3.heap.size (some ⟨b, o2, none⟩) (ps.drop 1) := fun _ => ⟨b, o2, rfl, hbB, hr2⟩
  have hw : IntKind.i64.wrap (count + 1) = count + 1 := IntWalk.i64_in _ (by omega)
  have hPX := Lib.hid PX
  have hLn := Lib.hid (List.length_drop (i := 1) (l := ps))
  have hH := Lib.hid (And.intro h1 h2)
  have hl0 : w1.heap.size + 1 ≤ w3.heap.size := l0
  clear hv hn0 hpos hrow hr2 PX
  go_upto_region 12 with fail
  have K5 := (K3.push 25 #[.int .i64 room, .int .i64 count, .slice (some ⟨b, o2, none⟩) (ps.length - 1) (cap' - 1)] rfl).push 25 #[.int .i64 room, .int .i64 (count + 1), .slice (some ⟨b, off, none⟩) ps.length cap'] rfl
  have hb35 : Below w3.heap.size w3 ((w3.alloc (.cells #[.int .i64 room, .int .i64 count, .slice (some ⟨b, o2, none⟩) (ps.length - 1) (cap' - 1)] 25)).alloc (.cells #[.int .i64 room, .int .i64 (count + 1), .slice (some ⟨b, off, none⟩) ps.length cap'] 25)) := Fr.alloc2 (Below.refl _ _) _ _
  have es : (w3.alloc (.cells #[.int .i64 room, .int .i64 count, .slice (some ⟨b, o2, none⟩) (ps.length - 1) (cap' - 1)] 25)).heap.size = w3.heap.size + 1 := World.size_alloc _ _
  rw [es] at K5
  clear es
  have P5 := hPX.out.mem hb35
  clear hb35 c0 f0 l0 K3
  obtain ⟨W4, hW4⟩ : ∃ W4, W4 = (w3.alloc (.cells #[.int .i64 room, .int .i64 count, .slice (some ⟨b, o2, none⟩) (ps.length - 1) (cap' - 1)] 25)).alloc (.cells #[.int .i64 room, .int .i64 (count + 1), .slice (some ⟨b, off, none⟩) ps.length cap'] 25) := ⟨_, rfl⟩
  rw [← hW4] at K5 P5 ⊢
  clear hW4
  have c0 := K5.b0.cells
  have c1 := K5.b1.cells
  have c2 := K5.b2.cells
  have l0 : w3.heap.size + 1 + 1 ≤ W4.heap.size := K5.b0.lt
  have l1 : w3.heap.size + 1 ≤ W4.heap.size := K5.b1.lt
  have l2 : w1.heap.size + 1 ≤ W4.heap.size := K5.b2.lt
  have HX : Hid (∀ x : In (Mem W4), Calls Try.prog 15 #[.agg #[.int .i64 room, .int .i64 count, .slice (some ⟨b, o2, none⟩) (ps.length - 1) (cap' - 1)]] x.val fun e w' => e = .returned (.bool false) ∧ Below x.val.heap.size x.val w') := fun x => by
    have := ringImpl room count (some ⟨b, o2, none⟩) (ps.drop 1) (cap' - 1) x.val (P5.mem x.ok) (by rw [hLn.out]; have := hH.out.1; omega) (by have := hH.out.2; omega)
    rwa [HXv.out, hLn.out] at this
  have HYv' := Lib.hid HYv.out
  by_cases e1 : (ps.length : Int) = room
  · by_cases e2 : count < 999999
    · have ed : ((ps.length : Int) == room) = true := by simp [e1]
      have HY : Hid (∀ x : In (Mem W4), Calls Try.prog 15 #[.agg #[.int .i64 room, .int .i64 (count + 1), .slice (some ⟨b, off, none⟩) ps.length cap']] x.val fun e w' => e = .returned (.bool true) ∧ Below x.val.heap.size x.val w') := fun x => by
        have := ringImpl room (count + 1) (some ⟨b, off, none⟩) ps cap' x.val (K5.row.mem x.ok) hH.out.1 hH.out.2
        rwa [HYv'.out, decide_eq_true e1, decide_eq_true e2, Bool.and_true] at this
      clear e1
      refine wp_region_in (Mem W4) (by kernel_rfl) (by kernel_rfl) (Mem.drew W4) ?_
      intro hne
      repeat (go_big_quiet_step ((first | (go_at_call 15; with_reducible exact Calls.in_mem _ (HX.out _)) | (go_at_call 15; with_reducible exact Calls.in_mem _ (HY.out _)))))
      refine wpQuiet_nil ?_
      rintro ⟨w5, ok5⟩
      have K6 := K5.mem ok5
      clear hne
      go_wp2_with fail
      go_ret
      exact ⟨rfl, K6.below⟩
    · have ed : ((ps.length : Int) == room) = true := by simp [e1]
      have HY : Hid (∀ x : In (Mem W4), Calls Try.prog 15 #[.agg #[.int .i64 room, .int .i64 (count + 1), .slice (some ⟨b, off, none⟩) ps.length cap']] x.val fun e w' => e = .returned (.bool false) ∧ Below x.val.heap.size x.val w') := fun x => by
        have := ringImpl room (count + 1) (some ⟨b, off, none⟩) ps cap' x.val (K5.row.mem x.ok) hH.out.1 hH.out.2
        rwa [HYv'.out, decide_eq_false e2, Bool.and_false] at this
      clear e1
      refine wp_region_in (Mem W4) (by kernel_rfl) (by kernel_rfl) (Mem.drew W4) ?_
      intro hne
      repeat (go_big_quiet_step ((first | (go_at_call 15; with_reducible exact Calls.in_mem _ (HX.out _)) | (go_at_call 15; with_reducible exact Calls.in_mem _ (HY.out _)))))
      refine wpQuiet_nil ?_
      rintro ⟨w5, ok5⟩
      have K6 := K5.mem ok5
      clear hne
      go_wp2_with fail
      go_ret
      exact ⟨rfl, K6.below⟩
  · have ed : ((ps.length : Int) == room) = false := by simp [e1]
    have HY : Hid (∀ x : In (Mem W4), Calls Try.prog 15 #[.agg #[.int .i64 room, .int .i64 (count + 1), .slice (some ⟨b, off, none⟩) ps.length cap']] x.val fun e w' => e = .returned (.bool false) ∧ Below x.val.heap.size x.val w') := fun x => by
      have := ringImpl room (count + 1) (some ⟨b, off, none⟩) ps cap' x.val (K5.row.mem x.ok) hH.out.1 hH.out.2
      rwa [HYv'.out, decide_eq_false e1, Bool.false_and] at this
    clear e1
    refine wp_region_in (Mem W4) (by kernel_rfl) (by kernel_rfl) (Mem.drew W4) ?_
    intro hne
    repeat (go_big_quiet_step ((first | (go_at_call 15; with_reducible exact Calls.in_mem _ (HX.out _)) | (go_at_call 15; with_reducible exact Calls.in_mem _ (HY.out _)))))
    refine wpQuiet_nil ?_
    rintro ⟨w5, ok5⟩
    have K6 := K5.mem ok5
    clear hne
    go_wp2_with fail
    go_ret
    exact ⟨rfl, K6.below⟩

end Go.Proofs.Ytaghejdanjenaaa
