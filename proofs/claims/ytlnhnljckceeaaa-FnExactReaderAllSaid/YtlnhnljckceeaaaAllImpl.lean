/-
  ReaderAll of the program.
-/
import Derived.Test.YtlnhnljckceeaaaAllF
import Derived.Test.YtlnhnljckceeaaaTakeImpl
namespace Go.Proofs.Ytlnhnljckceeaaa
open Go.RowKit
set_option linter.unusedSimpArgs false
set_option linter.unusedVariables false

set_option maxRecDepth 100000 in
set_option maxHeartbeats 4000000 in
theorem allImpl (room count : Int) (A : Option Addr) (ps : List Pk) (cap : Nat) (nx lost : Int) (wt : Bool) (w : World) (hp : PkRow w w.heap.size A ps) (hl : ps.length ≤ cap) (hm : cap ≤ 9223372036854775807) :
    Calls Try.prog 25 #[.agg #[.int .i64 room, .int .i64 count, .slice A ps.length cap], .agg #[.int .i64 nx, .int .i64 lost, .bool wt]] w (AllPost room count ps nx lost wt w) := by
  have K1 := ((Sk.nil hp (Below.refl _ _)).push (b := w.heap.size) 25 #[.int .i64 room, .int .i64 count, .slice A ps.length cap] rfl |>.push (b := w.heap.size + 1) 27 #[.int .i64 nx, .int .i64 lost, .bool wt] (by simp)).push (b := w.heap.size + 1 + 1) 27 #[.int .i64 0, .int .i64 0, .bool false] (by simp)
  have HH := Lib.hid (And.intro hl hm)
  obtain ⟨i0, hi, hz0, hz1, hz2⟩ := info_parts pkInfo_
  have HI := Lib.hid (And.intro hi (And.intro hz0 (And.intro hz1 hz2)))
  clear hp hi hz0 hz1 hz2
  go_enter Try.func25, Try.ntmps25
  go_wp2_with fail
  refine (rdImpl _ _ _ _ _ _ _ _ _ K1.row HH.out.1 HH.out.2).mono ?_
  rintro e w2 ⟨rfl, hb⟩
  have K2 := K1.mem hb
  clear K1 hb
  have c0 := K2.b0.cells; have f0 := K2.b0.free; have l0 := K2.b0.lt
  have c1 := K2.b1.cells; have f1 := K2.b1.free; have l1 := K2.b1.lt
  have c2 := K2.b2.cells; have f2 := K2.b2.free; have l2 := K2.b2.lt
  cases hv : readerB room count ps nx lost
  · have HV := Lib.hid hv
    clear hv
    go_wp2_with fail
    refine bodyPost_ret (by simp [results, Try.results25, go_sem, c0, l0]; try rfl) rfl ?_
    refine ⟨some ⟨_, 0, none⟩, 0, 0, 0, false, [], by rw [HV.out]; rfl, by rw [HV.out]; rfl, PkRow.nil _ _ _, Nat.le_refl _, Nat.zero_le _, ?_, ?_⟩
    have L9 := K2.below
    · repeat' (first | (with_reducible exact L9) | (with_reducible refine Fr.alloc ?_ _) | (with_reducible refine Below.setCell ?_ ?_ _) | (simp; omega) | (simp; done))
    · exact Own.empty (Blk.new _ _ _ (by simp)) (by have := K2.below.size; omega)
  have HV := Lib.hid hv
  obtain ⟨hr, hnx, hlo⟩ := readerB_iff.1 hv
  have hcn := (ringB_iff.1 hr).2.1
  have hlen : (ps.length : Int) ≤ 8 := by have := (ringB_iff.1 hr).2.2.1; have := (ringB_iff.1 hr).1; have := minI_le room count; omega
  have hlc : (ps.length : Int) ≤ count := by have := (ringB_iff.1 hr).2.2.1; have := minI_le room count; omega
  clear hr
  have S3 : Sa w (w2.alloc (.cells #[] 31)) [(w.heap.size + 1, 27, #[.int .i64 nx, .int .i64 lost, .bool wt]), (w.heap.size + 1 + 1, 27, #[.int .i64 0, .int .i64 0, .bool false]), (w.heap.size, 25, #[.int .i64 room, .int .i64 count, .slice A ps.length cap])] w2.heap.size A ps (.slice (some ⟨w2.heap.size, 0, none⟩) 0 0) [] :=
    ⟨Fr.alloc K2.below _, fun b T cs hm => by
    simp only [List.mem_cons, List.not_mem_nil, or_false] at hm
    rcases hm with e | e | e
    · cases e; exact K2.b1.alloc _
    · cases e; exact K2.b0.alloc _
    · cases e; exact K2.b2.alloc _, K2.row.below (Below.alloc (Below.refl _ _) (Nat.le_refl _) _), World.ownsRow_lit w2 #[] 0 (Nat.le_refl _) (Nat.zero_le _) rfl, fun x hx => by
    simp only [List.mem_cons, List.not_mem_nil, or_false] at hx
    rcases hx with rfl | rfl | rfl
    · show w.heap.size + 1 < _; omega
    · show w.heap.size + 1 + 1 < _; omega
    · show w.heap.size < _; omega, by omega, by simp⟩
  have HN : Hid (0 ≤ nx ∧ nx ≤ count) := hnx
  clear K2 c0 f0 l0 c1 f1 l1 c2 f2 l2 hv hnx hlo
  go_wp2_with fail
  go_loopw [7] (fun c7 wr => AllRel room count ps A cap nx lost wt w w2.heap.size c7 wr) (fun _ wr => (count - intOf ((wr.cell? ⟨w.heap.size + 1, 0, none⟩).getD undef)).toNat)
  case atStart => exact ⟨nx, lost, wt, [], S3, HV.out, rfl, HN.out.1⟩
  case round =>
    clear S3
    obtain ⟨a, b, c, acc, S4, hv4, hfin, hacc⟩ := hrel
    have HM := Lib.hid (S4.b0.cells 0)
    obtain ⟨v, rfl⟩ : ∃ v, v = u7 := ⟨_, rfl⟩
    obtain ⟨-, han, hbl⟩ := readerB_iff.1 hv4
    have HF := Lib.hid (And.intro hv4 (And.intro hfin hacc))
    have hbs := S4.bs
    have hwb := S4.wb
    have hlb := S4.lb _ (.tail _ (.head _))
    have c0 := S4.b0.cells; have f0 := S4.b0.free; have l0 := S4.b0.lt
    have c2 := S4.b2.cells; have f2 := S4.b2.free; have l2 := S4.b2.lt
    by_cases hlt : a < count
    · have HC := Lib.hid (take_codes (wt := c) hv4 hlt)
      clear hv4 hfin hacc
      go_wp2_with fail
      refine (takeImpl _ _ _ _ _ _ _ _ _ S4.rowx HH.out.1 HH.out.2).mono ?_
      rintro e w5 ⟨rfl, hb⟩
      have S5 := S4.mem hb
      clear c0 f0 l0 c2 f2 l2 S4 hb hbs
      obtain ⟨a', b', c', p, n, hT⟩ : ∃ a' b' c' p n, takeF room count ps a b c = ⟨a', b', c', p, n⟩ := ⟨_, _, _, _, _, rfl⟩
      have hn := HC.out
      rw [hT] at hn
      rw [show tkV (takeF room count ps a b c) = .tuple #[.agg #[.int .i64 a', .int .i64 b', .bool c'], .agg #[.int .i64 p.wd, .int .i64 p.tm, .int .i64 p.ly, .int .i64 p.sz, .bool p.k, .bool p.l], .int .i64 n] by rw [hT]; rfl]
      have hn' : n = 0 ∨ n = 2 := hn
      clear hn
      have S6 := (S5.alloc (.cells #[.int .i64 a', .int .i64 b', .bool c'] 27)).alloc (.cells #[.int .i64 p.wd, .int .i64 p.tm, .int .i64 p.ly, .int .i64 p.sz, .bool p.k, .bool p.l] 31)
      have B8 := (Blk.new w5 27 #[.int .i64 a', .int .i64 b', .bool c'] rfl).alloc (.cells #[.int .i64 p.wd, .int .i64 p.tm, .int .i64 p.ly, .int .i64 p.sz, .bool p.k, .bool p.l] 31)
      have B9 : Blk ((w5.alloc (.cells #[.int .i64 a', .int .i64 b', .bool c'] 27)).alloc (.cells #[.int .i64 p.wd, .int .i64 p.tm, .int .i64 p.ly, .int .i64 p.sz, .bool p.k, .bool p.l] 31)) (w5.heap.size + 1) 31 #[.int .i64 p.wd, .int .i64 p.tm, .int .i64 p.ly, .int .i64 p.sz, .bool p.k, .bool p.l] := Blk.new _ _ _ (by simp)
      have hbs5 := S5.bs
      have hol := World.ownsRow.lt S5.own
      clear S5
      have hL3 : ∀ T1 cs1 T2 cs2, ∀ y ∈ ([(w.heap.size + 1 + 1, T1, cs1), (w.heap.size, T2, cs2)] : List (Nat × TypeId × Array Value)), y.1 ≠ w.heap.size + 1 := fun T1 cs1 T2 cs2 y hy => by
        simp only [List.mem_cons, List.not_mem_nil, or_false] at hy
        rcases hy with rfl | rfl
        · show w.heap.size + 1 + 1 ≠ w.heap.size + 1; omega
        · show w.heap.size ≠ w.heap.size + 1; omega
      rcases hn' with rfl | rfl
      · obtain ⟨hv6, hlt6, hf6⟩ := fin_step0 (acc := acc) hT
        have ha6 : (acc.length : Int) + 1 ≤ a' := by have := HF.out.2.2; omega
        have hac : acc.length ≤ 1000000 := by have := HF.out.2.2; omega
        go_upto_region 7 with fail
        obtain ⟨w7, hw7⟩ : ∃ w7, w7 = (w5.alloc (.cells #[.int .i64 a', .int .i64 b', .bool c'] 27)).alloc (.cells #[.int .i64 p.wd, .int .i64 p.tm, .int .i64 p.ly, .int .i64 p.sz, .bool p.k, .bool p.l] 31) := ⟨_, rfl⟩
        rw [← hw7] at S6 B8 B9 ⊢
        have hw5 : w5.heap.size + 1 + 1 = w7.heap.size := by rw [hw7]; simp
        clear hw7
        have c9 := B9.cells; have l9 := B9.lt
        have hown := World.ownsRow.alloc S6.own (.cells #[.int .i64 p.wd, .int .i64 p.tm, .int .i64 p.ly, .int .i64 p.sz, .bool p.k, .bool p.l] 31)
        have hbs := S6.bs
        have HS6 := Lib.hid (And.intro S6 B8)
        have HFF := Lib.hid (And.intro hv6 (And.intro hlt6 (And.intro hf6 ha6)))
        clear S6 B8 B9 hf6 hv6 hT
        go_upto_region 8 with (at_builtin; refine wpList_append_lies _ rfl (.tmp 32) (.tmp 34) _ rfl w2.heap.size 31 i0 _ 6 40 Try.underlying23 HI.out.1 HI.out.2.1 HI.out.2.2.1 HI.out.2.2.2 rfl (by omega) v acc.length (pkcs acc) rfl hown ⟨w7.heap.size, 0, none⟩ 1 1 (pkc p) rfl rfl (World.news_of_block (heap_alloc_new w7 _)) (by intro u hu; simp [pkc] at hu; rcases hu with rfl | rfl | rfl | rfl | rfl | rfl <;> rfl) (by omega) (by unfold maxLen; omega) (by omega) (by simp; omega) _ rfl ?_; intro g' cap' w8 hown8 hgrow hat hlt8)
        have S8 := HS6.out.1.app (p := p) hgrow hown8
        have B8' : Blk w8 w5.heap.size 27 #[.int .i64 a', .int .i64 b', .bool c'] := (hgrow.block w5.heap.size (by simp; omega) (fun e => by have := (hol _ e.symm).2; omega)).trans (HS6.out.2.alloc _)
        have c8 := B8'.cells; have l8 := B8'.lt
        have c0 := S8.b0.cells; have f0 := S8.b0.free; have l0 := S8.b0.lt
        have HS9 := Lib.hid (S8.head3 (by omega) (hL3 _ _ _ _) (.int .i64 a') (.int .i64 b') (.bool c'))
        clear S8 B8' hown hgrow hown8 hat c9 l9 hol
        go_wp2_with fail
        go_roundw
        case rel => first | exact ⟨a', b', c', acc ++ [p], HS9.out, HFF.out.1, HFF.out.2.2.1.trans HF.out.2.1, by have := HFF.out.2.2.2; simp; omega⟩ | ((repeat apply Exists.intro); exact ⟨⟨a', b', c', acc ++ [p], HS9.out, HFF.out.1, HFF.out.2.2.1.trans HF.out.2.1, by have := HFF.out.2.2.2; simp; omega⟩, rfl⟩)
        case measure =>
          have m1 := HM.out
          have m2 := HS9.out.b0.cells 0
          have m3 := HFF.out.2.1
          simp at m1 m2
          simp only [wset3] at m2
          rw [m1, m2]
          simp [intOf]
          omega
      · obtain ⟨hv6, hlt6, hf6⟩ := fin_step2 (acc := acc) hlt hT
        have ha6 : (acc.length : Int) ≤ a' := by have := HF.out.2.2; omega
        go_upto_region 8 with fail
        obtain ⟨w7, hw7⟩ : ∃ w7, w7 = (w5.alloc (.cells #[.int .i64 a', .int .i64 b', .bool c'] 27)).alloc (.cells #[.int .i64 p.wd, .int .i64 p.tm, .int .i64 p.ly, .int .i64 p.sz, .bool p.k, .bool p.l] 31) := ⟨_, rfl⟩
        rw [← hw7] at S6 B8 B9 ⊢
        clear hw7
        have c8 := B8.cells; have l8 := B8.lt
        have c0 := S6.b0.cells; have f0 := S6.b0.free; have l0 := S6.b0.lt
        have HS9 := Lib.hid (S6.head3 (by omega) (hL3 _ _ _ _) (.int .i64 a') (.int .i64 b') (.bool c'))
        have HFF := Lib.hid (And.intro hv6 (And.intro hlt6 (And.intro hf6 ha6)))
        clear S6 B8 B9 hf6 hv6 hT hol
        go_wp2_with fail
        go_roundw
        case rel => first | exact ⟨a', b', c', acc, HS9.out, HFF.out.1, HFF.out.2.2.1.trans HF.out.2.1, HFF.out.2.2.2⟩ | ((repeat apply Exists.intro); exact ⟨⟨a', b', c', acc, HS9.out, HFF.out.1, HFF.out.2.2.1.trans HF.out.2.1, HFF.out.2.2.2⟩, rfl⟩)
        case measure =>
          have m1 := HM.out
          have m2 := HS9.out.b0.cells 0
          have m3 := HFF.out.2.1
          simp at m1 m2
          simp only [wset3] at m2
          rw [m1, m2]
          simp [intOf]
          omega
    · have HE := Lib.hid (fin_end (lost := b) (wt := c) (ps := ps) (room := room) (acc := acc) hlt)
      obtain ⟨A', cap', rfl, k1, k2, k3⟩ := Own.row S4.own
      unfold maxLen at k2
      have B4 := S4.b1
      have k4 := k3.set3 B4 (.int .i64 a) (.int .i64 b) (.bool c)
      have k5 := S4.own.set3_ hlb (.int .i64 a) (.int .i64 b) (.bool c)
      have c1 := B4.cells; have f1 := B4.free; have l1 := B4.lt
      have L9 := S4.below
      clear hv4 hfin hacc S4 B4 k3
      go_wp2_with fail
      refine bodyPost_ret (by simp [results, Try.results25, go_sem, c1, l1]; try rfl) rfl ?_
      refine ⟨A', cap', a, b, c, acc, by rw [HV.out], by rw [HV.out, if_pos rfl, ← HF.out.2.1, HE.out], k4.more (by simp), k1, by omega, ?_, Own.mono_ k5 (by omega)⟩
      repeat' (first | (with_reducible exact L9) | (with_reducible refine Fr.alloc ?_ _) | (with_reducible refine Below.setCell ?_ ?_ _) | (simp; omega) | (simp; done))

end Go.Proofs.Ytlnhnljckceeaaa
