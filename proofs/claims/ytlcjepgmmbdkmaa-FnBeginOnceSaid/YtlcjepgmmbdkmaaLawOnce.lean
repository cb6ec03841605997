/-
  FnBeginOnce, beside leavers.
-/
import Derived.Test.YtlcjepgmmbdkmaaLawBegin
import Derived.Test.YtlcjepgmmbdkmaaEnd
namespace Go.Proofs.Ytlcjepgmmbdkmaa
open Go.Br Go.Conc Go.RowKit
open Go.Proofs.Ytlcjepgmmbdkmaa.Ph (plainF plainF_ok NewAt kh_newSlot)
open Go.ConcM (OsLater)
set_option linter.unusedSimpArgs false
set_option linter.unusedVariables false

set_option maxRecDepth 100000 in
set_option maxHeartbeats 8000000 in
theorem lawOnce (A : Option Addr) (len cap : Nat) (W : World) (hl : len ≤ cap) (hm : cap ≤ maxLen) (hc : Code W W.heap.size A len) :
    Fin_ Try.prog (YesP W) (solo (G (Frame.enter Try.prog 7 #[.slice A len cap] .normal) []) W) #[] := by
  refine kh_start (X := fun _ => False) fun T d => ?_
  have hC := code_start hc T d
  obtain ⟨u, hu⟩ : ∃ u, u = pos (hid (fun _ => false) W) T d := ⟨_, rfl⟩
  rw [← hu] at hC ⊢
  have hz : u.heap.size = W.heap.size := by rw [hu, pos_heap, hid_size]
  clear hu hc T d
  rw [enter_at _ Try.func7 rfl]
  simp only [Try.ntmps7, List.size_toArray, List.length_cons, List.length_nil, Nat.reduceAdd, Nat.reduceSub, Array.replicate_succ, Array.replicate_zero, List.push_toArray, List.append_toArray, List.nil_append, List.cons_append]
  refine kh_seq (kh_piece plainF_ok rfl ⟨_, Try.func7⟩ (by kernel_rfl) rfl fun v0 hv0 => ?_)
  have C0 := Lib.hid (hv0.code hC)
  have z0 := Lib.hid (hv0.size.trans hz)
  go_wp2_with fail
  refine ⟨fun _ _ => rfl, ?_⟩
  refine kh_seq (kh_piece plainF_ok rfl ⟨_, Try.func7⟩ (by kernel_rfl) rfl fun v1 hv1 => ?_)
  have C1 := Lib.hid (hv1.code C0.out)
  have z1 := Lib.hid (hv1.size.trans z0.out)
  by_cases hbig : (1048576 : Int) < (len : Int)
  · go_wp2_with fail
    refine ⟨fun _ _ => rfl, fun todo => ?_⟩
    exact kh_end Try.func7 rfl rfl rfl (by kernel_rfl) (x := .bool true) (fun T d => by simp [results, Try.results7, go_sem, Frame.at]) fun w hA => ⟨rfl, Since.of hA⟩
  go_wp2_with fail
  refine ⟨fun _ _ => rfl, ?_⟩
  clear hbig
  refine kh_seq (kh_piece plainF_ok rfl ⟨_, Try.func7⟩ (by kernel_rfl) rfl fun v2 hv2 => ?_)
  have C2 := hv2.code C1.out
  have z2 := hv2.size.trans z1.out
  clear C0 C1 z0 z1 hv1 hv0 hC hz
  rw [← z2] at C2
  go_wp2_with fail
  refine (drawBegin_any A len cap v2 hl hm C2).mono ?_
  rintro e w1 ⟨ver, A', cap', xs, rfl, hp, h1, h2, B1⟩
  clear C2 hl hm hv2
  go_wp2_with fail
  obtain ⟨u2, hu2⟩ : ∃ u2, u2 = w1.alloc (.cells #[.int .i64 ver, .slice A' xs.length cap'] 26) := ⟨_, rfl⟩
  obtain ⟨N, hN⟩ : ∃ N, N = w1.heap.size := ⟨_, rfl⟩
  rw [← hu2, ← hN]
  have ss0 : Blk u2 N 26 #[.int .i64 ver, .slice A' xs.length cap'] := by rw [hu2, hN]; exact Blk.new _ _ _ rfl
  have pa0 : IntRow u2 u2.heap.size A' xs := by rw [hu2]; exact hp.alloc _
  have L2 : Low W.heap.size v2 u2 := by rw [hu2, ← z2]; exact (Fr.alloc B1 _).low
  have zs : W.heap.size ≤ N := by rw [hN, ← z2]; exact B1.size
  refine ⟨L2, ?_⟩
  clear L2 hu2 hN hp B1 z2 v2
  clear w1
  refine kh_seq (kh_region ?_)
  refine kh_list plainF_ok rfl ⟨_, Try.func7⟩ 0 1 (rest := [1, 2, 3, 4, 5, 6, 7]) rfl (by decide) (by kernel_rfl) rfl fun v1a hv1a => ?_
  simp only [List.drop_succ_cons, List.drop_zero, List.take_succ_cons, List.take_zero]
  have ca0 := (hv1a.blk ss0).cells 0
  have cb0 := (hv1a.blk ss0).cells 1
  simp at ca0 cb0
  go_wp2_with fail
  refine ⟨fun _ _ => rfl, ?_⟩
  have ss1 := hv1a.blk ss0
  have pa1 := hv1a.ints pa0
  rw [← hv1a.size] at pa1
  clear ss0 pa0
  clear ca0 cb0 hv1a
  refine kh_call (c := Try.f21.body.getD .skip) rfl rfl (by simp [base]) rfl Try.func21 (by kernel_rfl) rfl ?_
  simp only [Try.ntmps21, List.size_toArray, List.length_cons, List.length_nil, Nat.reduceAdd, Nat.reduceSub, Array.replicate_succ, Array.replicate_zero, List.push_toArray, List.append_toArray, List.nil_append, List.cons_append, List.map_toArray, List.map_cons, List.map_nil, Array.size_map]
  walk_nrm
  have zz := ss1.lt
  refine kh_begin (W0 := W) (Post := YesP W) (ver := ver) (A := A') (xs := xs) (cap := cap') pa1 h1 h2 (by omega) (fun S1 u1b x1 hR => ?_)
  rw [Frame.finish_at]
  walk_nrm
  clear zz
  have ss2 := hR.low.blk ss1 ss1.lt
  have pa2 := (hR.low.ints pa1).more hR.size
  clear ss1 pa1
  cases hB : beginB ver xs
  · obtain rfl := hR.no hB
    have HB := Lib.hid hB
    clear hR hB
    refine kh_list plainF_ok rfl ⟨_, Try.func7⟩ 2 6 (rest := []) rfl (by decide) (by kernel_rfl) rfl fun v1c hv1c => ?_
    simp only [List.drop_succ_cons, List.drop_zero, List.take_succ_cons, List.take_zero]
    go_wp2_with fail
    have zz := ss2.lt
    have zv := hv1c.size
    refine ⟨fun b hb => by rw [Below.heap_alloc _ _ _ (by omega)], kh_region_end ?_⟩
    clear zz zv
    have ss3 := hv1c.blk ss2
    have pa3 := hv1c.ints pa2
    rw [← hv1c.size] at pa3
    clear ss2 pa2
    obtain ⟨y2o, hy2o⟩ : ∃ y, y = v1c.alloc (.cells #[.int .i64 0, .slice none 0 0] 26) := ⟨_, rfl⟩
    obtain ⟨Mo, hMo⟩ : ∃ M, M = v1c.heap.size := ⟨_, rfl⟩
    rw [← hy2o, ← hMo]
    have zo : W.heap.size ≤ Mo := by rw [hMo]; have := ss3.lt; omega
    have ss4 := ss3.alloc (.cells #[.int .i64 0, .slice none 0 0] 26)
    have pa4 := pa3.alloc (.cells #[.int .i64 0, .slice none 0 0] 26)
    clear ss3 pa3
    have so4 : Blk y2o Mo 26 #[.int .i64 0, .slice none 0 0] := by rw [hy2o, hMo]; exact Blk.new _ _ _ rfl
    rw [← hy2o] at ss4
    rw [← hy2o] at pa4
    clear hy2o hMo
    clear hv1c
    refine kh_seq (kh_piece plainF_ok rfl ⟨_, Try.func7⟩ (by kernel_rfl) rfl fun v6 hv6 => ?_)
    have ss5 := hv6.blk ss4
    have so5 := hv6.blk so4
    have pa5 := hv6.ints pa4
    rw [← hv6.size] at pa5
    clear ss4 so4 pa4
    have ca0 := ss5.cells 0
    have cb0 := ss5.cells 1
    have ca1 := so5.cells 0
    have cb1 := so5.cells 1
    simp at ca0 cb0 ca1 cb1
    go_wp2_with fail
    refine (specBegin ver A' xs cap' v6 pa5 h1 h2).mono ?_
    rintro e w2 ⟨v', A2, c2, rfl, hb, hy, hn⟩
    obtain rfl := hn HB.out
    rw [HB.out]
    have zW : W.heap.size ≤ v6.heap.size := by have := ss5.lt; omega
    clear hy hn ca0 cb0 ca1 cb1
    have ss6 := ss5.below hb ss5.lt
    have so6 := so5.below hb so5.lt
    have pa6 := pa5.mem hb
    clear ss5 so5 pa5
    have L7 : Below W.heap.size v6 w2 := hb.mono zW
    clear hb
    have ca0 := ss6.cells 0
    have cb0 := ss6.cells 1
    have ca1 := so6.cells 0
    have cb1 := so6.cells 1
    simp at ca0 cb0 ca1 cb1
    go_wp2_with fail
    clear ca0 cb0 ca1 cb1
    refine ⟨(allocB L7 zW _).low, ?_⟩
    clear L7 zW hv6
    obtain ⟨y2t, hy2t⟩ : ∃ y, y = w2.alloc (.cells #[.int .i64 0, .slice none 0 0] 26) := ⟨_, rfl⟩
    obtain ⟨Mt, hMt⟩ : ∃ M, M = w2.heap.size := ⟨_, rfl⟩
    rw [← hy2t, ← hMt]
    have zt : W.heap.size ≤ Mt := by rw [hMt]; have := ss6.lt; omega
    have ss7 := ss6.alloc (.cells #[.int .i64 0, .slice none 0 0] 26)
    have so7 := so6.alloc (.cells #[.int .i64 0, .slice none 0 0] 26)
    have pa7 := pa6.alloc (.cells #[.int .i64 0, .slice none 0 0] 26)
    clear ss6 so6 pa6
    have st7 : Blk y2t Mt 26 #[.int .i64 0, .slice none 0 0] := by rw [hy2t, hMt]; exact Blk.new _ _ _ rfl
    rw [← hy2t] at ss7
    rw [← hy2t] at so7
    rw [← hy2t] at pa7
    clear hy2t hMt
    refine kh_seq (kh_piece plainF_ok rfl ⟨_, Try.func7⟩ (by kernel_rfl) rfl fun v8 hv8 => ?_)
    have ss8 := hv8.blk ss7
    have so8 := hv8.blk so7
    have st8 := hv8.blk st7
    have pa8 := hv8.ints pa7
    rw [← hv8.size] at pa8
    clear ss7 so7 st7 pa7
    have ca0 := ss8.cells 0
    have cb0 := ss8.cells 1
    have ca1 := so8.cells 0
    have cb1 := so8.cells 1
    have ca2 := st8.cells 0
    have cb2 := st8.cells 1
    simp at ca0 cb0 ca1 cb1 ca2 cb2
    have zW : W.heap.size ≤ v8.heap.size := by have := ss8.lt; omega
    have q0 := ss8.lt
    have q1 := so8.lt
    have q2 := st8.lt
    go_wp2_with (go_at_call 25; refine (sameSlot_same 0 none none [] 0 0 _ (IntRow.nil _ _ _) (IntRow.nil _ _ _) (Nat.le_refl _) (by omega)).mono ?_; rintro e w' ⟨rfl, hbx⟩; obtain ⟨dl, dk, rfl⟩ := more_of hbx; clear hbx)
    refine ⟨(show Below W.heap.size v8 _ by repeat' (first | (with_reducible exact Below.refl _ _) | (with_reducible refine moreB ?_ (by omega) _ _) | (with_reducible refine Below.setCell ?_ ?_ _) | (with_reducible refine Fr.alloc ?_ _) | (with_reducible refine allocB ?_ (by omega) _) | (simp; done) | (simp; omega))).low, fun todo => ?_⟩
    exact kh_end Try.func7 rfl rfl rfl (by kernel_rfl) (x := .bool true) (fun T d => by simp [results, Try.results7, go_sem, Frame.at]) fun w hA => ⟨rfl, Since.of hA⟩
  obtain ⟨R, hR1, rfl, hrow⟩ := hR.yes hB
  have pb2 : IntRow u1b u1b.heap.size (some ⟨R, 0, none⟩) xs := IntRow.of_blk (show Blk u1b R 3 (xs.map iv).toArray from hrow)
  have HB := Lib.hid hB
  clear hR hB hR1 hrow
  refine kh_list plainF_ok rfl ⟨_, Try.func7⟩ 2 6 (rest := []) rfl (by decide) (by kernel_rfl) rfl fun v1d hv1d => ?_
  simp only [List.drop_succ_cons, List.drop_zero, List.take_succ_cons, List.take_zero]
  go_wp2_with fail
  have zz := ss2.lt
  have zv := hv1d.size
  refine ⟨fun b hb => by rw [Below.heap_alloc _ _ _ (by omega)], kh_region_end ?_⟩
  clear zz zv
  have ss3 := hv1d.blk ss2
  have pa3 := hv1d.ints pa2
  rw [← hv1d.size] at pa3
  have pb3 := hv1d.ints pb2
  rw [← hv1d.size] at pb3
  clear ss2 pa2 pb2
  obtain ⟨y1, hy1⟩ : ∃ y, y = v1d.alloc (.cells #[.int .i64 (ver + 1), .slice (some ⟨R, 0, none⟩) xs.length xs.length] 26) := ⟨_, rfl⟩
  obtain ⟨Mo, hMo⟩ : ∃ M, M = v1d.heap.size := ⟨_, rfl⟩
  rw [← hy1, ← hMo]
  have zo : W.heap.size ≤ Mo := by rw [hMo]; have := ss3.lt; omega
  have ss4 := ss3.alloc (.cells #[.int .i64 (ver + 1), .slice (some ⟨R, 0, none⟩) xs.length xs.length] 26)
  have pa4 := pa3.alloc (.cells #[.int .i64 (ver + 1), .slice (some ⟨R, 0, none⟩) xs.length xs.length] 26)
  have pb4 := pb3.alloc (.cells #[.int .i64 (ver + 1), .slice (some ⟨R, 0, none⟩) xs.length xs.length] 26)
  clear ss3 pa3 pb3
  have so4 : Blk y1 Mo 26 #[.int .i64 (ver + 1), .slice (some ⟨R, 0, none⟩) xs.length xs.length] := by rw [hy1, hMo]; exact Blk.new _ _ _ rfl
  rw [← hy1] at ss4
  rw [← hy1] at pa4
  rw [← hy1] at pb4
  clear hy1 hMo
  clear hv1d
  refine kh_seq (kh_piece plainF_ok rfl ⟨_, Try.func7⟩ (by kernel_rfl) rfl fun v6 hv6 => ?_)
  have ss5 := hv6.blk ss4
  have so5 := hv6.blk so4
  have pa5 := hv6.ints pa4
  rw [← hv6.size] at pa5
  have pb5 := hv6.ints pb4
  rw [← hv6.size] at pb5
  clear ss4 so4 pa4 pb4
  have ca0 := ss5.cells 0
  have cb0 := ss5.cells 1
  have ca1 := so5.cells 0
  have cb1 := so5.cells 1
  simp at ca0 cb0 ca1 cb1
  go_wp2_with fail
  refine (specBegin ver A' xs cap' v6 pa5 h1 h2).mono ?_
  rintro e w2 ⟨v', A2, c2, rfl, hb, hy, hn⟩
  obtain ⟨rfl, a1, a2, a3⟩ := hy HB.out
  rw [HB.out]
  have zW : W.heap.size ≤ v6.heap.size := by have := ss5.lt; omega
  clear hn hy ca0 cb0 ca1 cb1
  have ss6 := ss5.below hb ss5.lt
  have so6 := so5.below hb so5.lt
  have pa6 := pa5.mem hb
  have pb6 := pb5.mem hb
  clear ss5 so5 pa5 pb5
  have pc6 := a1.row
  have L7 : Below W.heap.size v6 w2 := hb.mono zW
  clear hb a1
  have ca0 := ss6.cells 0
  have cb0 := ss6.cells 1
  have ca1 := so6.cells 0
  have cb1 := so6.cells 1
  simp at ca0 cb0 ca1 cb1
  go_wp2_with fail
  clear ca0 cb0 ca1 cb1
  refine ⟨(allocB L7 zW _).low, ?_⟩
  clear L7 zW hv6
  obtain ⟨y2, hy2⟩ : ∃ y, y = w2.alloc (.cells #[.int .i64 (ver + 1), .slice A2 xs.length c2] 26) := ⟨_, rfl⟩
  obtain ⟨Mt, hMt⟩ : ∃ M, M = w2.heap.size := ⟨_, rfl⟩
  rw [← hy2, ← hMt]
  have zt : W.heap.size ≤ Mt := by rw [hMt]; have := ss6.lt; omega
  have ss7 := ss6.alloc (.cells #[.int .i64 (ver + 1), .slice A2 xs.length c2] 26)
  have so7 := so6.alloc (.cells #[.int .i64 (ver + 1), .slice A2 xs.length c2] 26)
  have pa7 := pa6.alloc (.cells #[.int .i64 (ver + 1), .slice A2 xs.length c2] 26)
  have pb7 := pb6.alloc (.cells #[.int .i64 (ver + 1), .slice A2 xs.length c2] 26)
  have pc7 := pc6.alloc (.cells #[.int .i64 (ver + 1), .slice A2 xs.length c2] 26)
  clear ss6 so6 pa6 pb6 pc6
  have st7 : Blk y2 Mt 26 #[.int .i64 (ver + 1), .slice A2 xs.length c2] := by rw [hy2, hMt]; exact Blk.new _ _ _ rfl
  rw [← hy2] at ss7
  rw [← hy2] at so7
  rw [← hy2] at pa7
  rw [← hy2] at pb7
  rw [← hy2] at pc7
  clear hy2 hMt
  refine kh_seq (kh_piece plainF_ok rfl ⟨_, Try.func7⟩ (by kernel_rfl) rfl fun v8 hv8 => ?_)
  have ss8 := hv8.blk ss7
  have so8 := hv8.blk so7
  have st8 := hv8.blk st7
  have pa8 := hv8.ints pa7
  rw [← hv8.size] at pa8
  have pb8 := hv8.ints pb7
  rw [← hv8.size] at pb8
  have pc8 := hv8.ints pc7
  rw [← hv8.size] at pc8
  clear ss7 so7 st7 pa7 pb7 pc7
  have ca0 := ss8.cells 0
  have cb0 := ss8.cells 1
  have ca1 := so8.cells 0
  have cb1 := so8.cells 1
  have ca2 := st8.cells 0
  have cb2 := st8.cells 1
  simp at ca0 cb0 ca1 cb1 ca2 cb2
  have zW : W.heap.size ≤ v8.heap.size := by have := ss8.lt; omega
  have q0 := ss8.lt
  have q1 := so8.lt
  have q2 := st8.lt
  go_wp2_with fail
  refine (sameSlot_same (ver + 1) (some ⟨R, 0, none⟩) A2 xs xs.length c2 _ pb8 pc8 (Nat.le_refl _) (by omega)).mono ?_
  rintro e w9 ⟨rfl, hb⟩
  clear ca0 cb0 ca1 cb1 ca2 cb2
  have ss9 := ss8.below hb ss8.lt
  have so9 := so8.below hb so8.lt
  have st9 := st8.below hb st8.lt
  have pa9 := pa8.mem hb
  have pb9 := pb8.mem hb
  have pc9 := pc8.mem hb
  clear ss8 so8 st8 pa8 pb8 pc8
  have L9 : Below W.heap.size v8 w9 := hb.mono zW
  clear hb q0 q1 q2
  have ca0 := ss9.cells 0
  have cb0 := ss9.cells 1
  have ca1 := so9.cells 0
  have cb1 := so9.cells 1
  have ca2 := st9.cells 0
  have cb2 := st9.cells 1
  simp at ca0 cb0 ca1 cb1 ca2 cb2
  have q0 := ss9.lt
  have q1 := so9.lt
  have q2 := st9.lt
  by_cases hbig : (999990 : Int) < ver
  · go_wp2_with (go_at_call 25; refine (sameSlot_same (ver + 1) (some ⟨R, 0, none⟩) A2 xs xs.length c2 _ pb9 pc9 (Nat.le_refl _) (by omega)).mono ?_; rintro e w' ⟨rfl, hbx⟩; obtain ⟨dl, dk, rfl⟩ := more_of hbx; clear hbx)
    refine ⟨(show Below W.heap.size v8 _ by repeat' (first | (with_reducible exact L9) | (with_reducible refine moreB ?_ (by omega) _ _) | (with_reducible refine Below.setCell ?_ ?_ _) | (with_reducible refine Fr.alloc ?_ _) | (with_reducible refine allocB ?_ (by omega) _) | (simp; done) | (simp; omega))).low, fun todo => ?_⟩
    exact kh_end Try.func7 rfl rfl rfl (by kernel_rfl) (x := .bool true) (fun T d => by simp [results, Try.results7, go_sem, Frame.at]) fun w hA => ⟨rfl, Since.of hA⟩
  go_wp2_with fail
  clear ca0 cb0 ca1 cb1 ca2 cb2 q0 q1 q2
  refine ⟨L9.low, ?_⟩
  clear L9 hv8 zW v8
  have hB := HB.out
  have hS : slotB ver xs = true ∧ writtenB ver = false ∧ inB (ver + 1) 0 999999 = true := by
    unfold beginB at hB
    simpa using hB
  obtain ⟨⟨v0, v1⟩, n1, n6⟩ := slotB_cases hS.1
  have o1 : writtenB (ver + 1) = true := by rw [← odd_of (by omega)]; exact odd_next v0 hS.2.1
  have o2 : writtenB (ver + 1 + 1) = false := by
    rw [← odd_of (by omega)]
    have := odd_of v0 ▸ hS.2.1
    simp at this ⊢
    omega
  have i2 : inB (ver + 1 + 1) 0 999999 = true := inB_iff.2 (by omega)
  have i3 : inB (ver + 1 + 1 + 1) 0 999999 = true := inB_iff.2 (by omega)
  have g1 : slotB (ver + 1) xs = true := by rw [slotB_next hS.1]; exact hS.2.2
  have g2 : slotB (ver + 1 + 1) xs = true := by rw [slotB_next g1]; exact i2
  have B1 := Lib.hid (show beginB (ver + 1) xs = false by unfold beginB; rw [g1, o1]; rfl)
  have B2 := Lib.hid (show endB (ver + 1) xs = true by unfold endB; rw [g1, o1, i2]; rfl)
  have B3 := Lib.hid (show beginB (ver + 1 + 1) xs = true by unfold beginB; rw [g2, o2, i3]; rfl)
  have hxl : xs.length ≤ 9223372036854775807 := by omega
  clear hB hS v0 v1 n1 n6 o1 o2 i2 i3 g1 g2 hbig
  refine kh_seq (kh_region ?_)
  refine kh_list plainF_ok rfl ⟨_, Try.func7⟩ 0 1 (rest := [1, 2, 3, 4, 5, 6, 7]) rfl (by decide) (by kernel_rfl) rfl fun v3a hv3a => ?_
  simp only [List.drop_succ_cons, List.drop_zero, List.take_succ_cons, List.take_zero]
  have ca0 := (hv3a.blk so9).cells 0
  have cb0 := (hv3a.blk so9).cells 1
  simp at ca0 cb0
  go_wp2_with fail
  refine ⟨fun _ _ => rfl, ?_⟩
  have ss10 := hv3a.blk ss9
  have so10 := hv3a.blk so9
  have st10 := hv3a.blk st9
  have pa10 := hv3a.ints pa9
  rw [← hv3a.size] at pa10
  have pb10 := hv3a.ints pb9
  rw [← hv3a.size] at pb10
  have pc10 := hv3a.ints pc9
  rw [← hv3a.size] at pc10
  clear ss9 so9 st9 pa9 pb9 pc9
  clear ca0 cb0 hv3a
  refine kh_call (c := Try.f21.body.getD .skip) rfl rfl (by simp [base]) rfl Try.func21 (by kernel_rfl) rfl ?_
  simp only [Try.ntmps21, List.size_toArray, List.length_cons, List.length_nil, Nat.reduceAdd, Nat.reduceSub, Array.replicate_succ, Array.replicate_zero, List.push_toArray, List.append_toArray, List.nil_append, List.cons_append, List.map_toArray, List.map_cons, List.map_nil, Array.size_map]
  walk_nrm
  have zz := ss10.lt
  refine kh_begin (W0 := W) (Post := YesP W) (ver := ver + 1) (A := (some ⟨R, 0, none⟩)) (xs := xs) (cap := xs.length) pb10 (Nat.le_refl _) hxl (by omega) (fun S3 u3b x3 hR => ?_)
  rw [Frame.finish_at]
  walk_nrm
  clear zz
  have ss11 := hR.low.blk ss10 ss10.lt
  have so11 := hR.low.blk so10 so10.lt
  have st11 := hR.low.blk st10 st10.lt
  have pa11 := (hR.low.ints pa10).more hR.size
  have pb11 := (hR.low.ints pb10).more hR.size
  have pc11 := (hR.low.ints pc10).more hR.size
  clear ss10 so10 st10 pa10 pb10 pc10
  obtain rfl := hR.no B1.out
  clear hR
  refine kh_list plainF_ok rfl ⟨_, Try.func7⟩ 2 6 (rest := []) rfl (by decide) (by kernel_rfl) rfl fun v3e hv3e => ?_
  simp only [List.drop_succ_cons, List.drop_zero, List.take_succ_cons, List.take_zero]
  go_wp2_with fail
  have zz := ss11.lt
  have zv := hv3e.size
  refine ⟨fun b hb => by rw [Below.heap_alloc _ _ _ (by omega)], kh_region_end ?_⟩
  clear zz zv
  have ss12 := hv3e.blk ss11
  have so12 := hv3e.blk so11
  have st12 := hv3e.blk st11
  have pa12 := hv3e.ints pa11
  rw [← hv3e.size] at pa12
  have pb12 := hv3e.ints pb11
  rw [← hv3e.size] at pb12
  have pc12 := hv3e.ints pc11
  rw [← hv3e.size] at pc12
  clear ss11 so11 st11 pa11 pb11 pc11
  obtain ⟨y4, hy4⟩ : ∃ y, y = v3e.alloc (.cells #[.int .i64 0, .slice none 0 0] 26) := ⟨_, rfl⟩
  rw [← hy4]
  have ss13 := ss12.alloc (.cells #[.int .i64 0, .slice none 0 0] 26)
  have so13 := so12.alloc (.cells #[.int .i64 0, .slice none 0 0] 26)
  have st13 := st12.alloc (.cells #[.int .i64 0, .slice none 0 0] 26)
  have pa13 := pa12.alloc (.cells #[.int .i64 0, .slice none 0 0] 26)
  have pb13 := pb12.alloc (.cells #[.int .i64 0, .slice none 0 0] 26)
  have pc13 := pc12.alloc (.cells #[.int .i64 0, .slice none 0 0] 26)
  clear ss12 so12 st12 pa12 pb12 pc12
  rw [← hy4] at ss13
  rw [← hy4] at so13
  rw [← hy4] at st13
  rw [← hy4] at pa13
  rw [← hy4] at pb13
  rw [← hy4] at pc13
  clear hy4 hv3e
  refine kh_seq (kh_region ?_)
  refine kh_list plainF_ok rfl ⟨_, Try.func7⟩ 0 1 (rest := [1, 2, 3, 4, 5, 6, 7]) rfl (by decide) (by kernel_rfl) rfl fun v5a hv5a => ?_
  simp only [List.drop_succ_cons, List.drop_zero, List.take_succ_cons, List.take_zero]
  have ca0 := (hv5a.blk so13).cells 0
  have cb0 := (hv5a.blk so13).cells 1
  simp at ca0 cb0
  go_wp2_with fail
  refine ⟨fun _ _ => rfl, ?_⟩
  have ss14 := hv5a.blk ss13
  have so14 := hv5a.blk so13
  have st14 := hv5a.blk st13
  have pa14 := hv5a.ints pa13
  rw [← hv5a.size] at pa14
  have pb14 := hv5a.ints pb13
  rw [← hv5a.size] at pb14
  have pc14 := hv5a.ints pc13
  rw [← hv5a.size] at pc14
  clear ss13 so13 st13 pa13 pb13 pc13
  clear ca0 cb0 hv5a
  refine kh_call (c := Try.f23.body.getD .skip) rfl rfl (by simp [base]) rfl Try.func23 (by kernel_rfl) rfl ?_
  simp only [Try.ntmps23, List.size_toArray, List.length_cons, List.length_nil, Nat.reduceAdd, Nat.reduceSub, Array.replicate_succ, Array.replicate_zero, List.push_toArray, List.append_toArray, List.nil_append, List.cons_append, List.map_toArray, List.map_cons, List.map_nil, Array.size_map]
  walk_nrm
  have zz := ss14.lt
  refine kh_end_ (W0 := W) (Post := YesP W) (ver := ver + 1) (A := (some ⟨R, 0, none⟩)) (xs := xs) (cap := xs.length) pb14 (Nat.le_refl _) hxl (by omega) (fun S5 u5b x5 hR => ?_)
  rw [Frame.finish_at]
  walk_nrm
  clear zz
  have ss15 := hR.low.blk ss14 ss14.lt
  have so15 := hR.low.blk so14 so14.lt
  have st15 := hR.low.blk st14 st14.lt
  have pa15 := (hR.low.ints pa14).more hR.size
  have pb15 := (hR.low.ints pb14).more hR.size
  have pc15 := (hR.low.ints pc14).more hR.size
  clear ss14 so14 st14 pa14 pb14 pc14
  obtain ⟨Q, hR1, rfl, hrow⟩ := hR.yes B2.out
  have pd15 : IntRow u5b u5b.heap.size (some ⟨Q, 0, none⟩) xs := IntRow.of_blk (show Blk u5b Q 3 (xs.map iv).toArray from hrow)
  clear hR hR1 hrow
  refine kh_list plainF_ok rfl ⟨_, Try.func7⟩ 2 6 (rest := []) rfl (by decide) (by kernel_rfl) rfl fun v5e hv5e => ?_
  simp only [List.drop_succ_cons, List.drop_zero, List.take_succ_cons, List.take_zero]
  go_wp2_with fail
  have zz := ss15.lt
  have zv := hv5e.size
  refine ⟨fun b hb => by rw [Below.heap_alloc _ _ _ (by omega)], kh_region_end ?_⟩
  clear zz zv
  have ss16 := hv5e.blk ss15
  have so16 := hv5e.blk so15
  have st16 := hv5e.blk st15
  have pa16 := hv5e.ints pa15
  rw [← hv5e.size] at pa16
  have pb16 := hv5e.ints pb15
  rw [← hv5e.size] at pb16
  have pc16 := hv5e.ints pc15
  rw [← hv5e.size] at pc16
  have pd16 := hv5e.ints pd15
  rw [← hv5e.size] at pd16
  clear ss15 so15 st15 pa15 pb15 pc15 pd15
  obtain ⟨y5, hy5⟩ : ∃ y, y = v5e.alloc (.cells #[.int .i64 (ver + 1 + 1), .slice (some ⟨Q, 0, none⟩) xs.length xs.length] 26) := ⟨_, rfl⟩
  obtain ⟨Mx, hMx⟩ : ∃ M, M = v5e.heap.size := ⟨_, rfl⟩
  rw [← hy5, ← hMx]
  have zx : W.heap.size ≤ Mx := by rw [hMx]; have := ss16.lt; omega
  have ss17 := ss16.alloc (.cells #[.int .i64 (ver + 1 + 1), .slice (some ⟨Q, 0, none⟩) xs.length xs.length] 26)
  have so17 := so16.alloc (.cells #[.int .i64 (ver + 1 + 1), .slice (some ⟨Q, 0, none⟩) xs.length xs.length] 26)
  have st17 := st16.alloc (.cells #[.int .i64 (ver + 1 + 1), .slice (some ⟨Q, 0, none⟩) xs.length xs.length] 26)
  have pa17 := pa16.alloc (.cells #[.int .i64 (ver + 1 + 1), .slice (some ⟨Q, 0, none⟩) xs.length xs.length] 26)
  have pb17 := pb16.alloc (.cells #[.int .i64 (ver + 1 + 1), .slice (some ⟨Q, 0, none⟩) xs.length xs.length] 26)
  have pc17 := pc16.alloc (.cells #[.int .i64 (ver + 1 + 1), .slice (some ⟨Q, 0, none⟩) xs.length xs.length] 26)
  have pd17 := pd16.alloc (.cells #[.int .i64 (ver + 1 + 1), .slice (some ⟨Q, 0, none⟩) xs.length xs.length] 26)
  clear ss16 so16 st16 pa16 pb16 pc16 pd16
  have sx17 : Blk y5 Mx 26 #[.int .i64 (ver + 1 + 1), .slice (some ⟨Q, 0, none⟩) xs.length xs.length] := by rw [hy5, hMx]; exact Blk.new _ _ _ rfl
  rw [← hy5] at ss17
  rw [← hy5] at so17
  rw [← hy5] at st17
  rw [← hy5] at pa17
  rw [← hy5] at pb17
  rw [← hy5] at pc17
  rw [← hy5] at pd17
  clear hy5 hMx
  clear hv5e
  refine kh_seq (kh_region ?_)
  refine kh_list plainF_ok rfl ⟨_, Try.func7⟩ 0 1 (rest := [1, 2, 3, 4, 5, 6, 7]) rfl (by decide) (by kernel_rfl) rfl fun v6a hv6a => ?_
  simp only [List.drop_succ_cons, List.drop_zero, List.take_succ_cons, List.take_zero]
  have ca0 := (hv6a.blk sx17).cells 0
  have cb0 := (hv6a.blk sx17).cells 1
  simp at ca0 cb0
  go_wp2_with fail
  refine ⟨fun _ _ => rfl, ?_⟩
  have ss18 := hv6a.blk ss17
  have so18 := hv6a.blk so17
  have st18 := hv6a.blk st17
  have sx18 := hv6a.blk sx17
  have pa18 := hv6a.ints pa17
  rw [← hv6a.size] at pa18
  have pb18 := hv6a.ints pb17
  rw [← hv6a.size] at pb18
  have pc18 := hv6a.ints pc17
  rw [← hv6a.size] at pc18
  have pd18 := hv6a.ints pd17
  rw [← hv6a.size] at pd18
  clear ss17 so17 st17 sx17 pa17 pb17 pc17 pd17
  clear ca0 cb0 hv6a
  refine kh_call (c := Try.f21.body.getD .skip) rfl rfl (by simp [base]) rfl Try.func21 (by kernel_rfl) rfl ?_
  simp only [Try.ntmps21, List.size_toArray, List.length_cons, List.length_nil, Nat.reduceAdd, Nat.reduceSub, Array.replicate_succ, Array.replicate_zero, List.push_toArray, List.append_toArray, List.nil_append, List.cons_append, List.map_toArray, List.map_cons, List.map_nil, Array.size_map]
  walk_nrm
  have zz := ss18.lt
  refine kh_begin (W0 := W) (Post := YesP W) (ver := ver + 1 + 1) (A := (some ⟨Q, 0, none⟩)) (xs := xs) (cap := xs.length) pd18 (Nat.le_refl _) hxl (by omega) (fun S6 u6b x6 hR => ?_)
  rw [Frame.finish_at]
  walk_nrm
  clear zz
  have ss19 := hR.low.blk ss18 ss18.lt
  have so19 := hR.low.blk so18 so18.lt
  have st19 := hR.low.blk st18 st18.lt
  have sx19 := hR.low.blk sx18 sx18.lt
  have pa19 := (hR.low.ints pa18).more hR.size
  have pb19 := (hR.low.ints pb18).more hR.size
  have pc19 := (hR.low.ints pc18).more hR.size
  have pd19 := (hR.low.ints pd18).more hR.size
  clear ss18 so18 st18 sx18 pa18 pb18 pc18 pd18
  obtain ⟨Y, hR1, rfl, hrow⟩ := hR.yes B3.out
  clear hR hR1 hrow
  refine kh_list plainF_ok rfl ⟨_, Try.func7⟩ 2 6 (rest := []) rfl (by decide) (by kernel_rfl) rfl fun v6e hv6e => ?_
  simp only [List.drop_succ_cons, List.drop_zero, List.take_succ_cons, List.take_zero]
  go_wp2_with fail
  have zz := ss19.lt
  have zv := hv6e.size
  refine ⟨fun b hb => by rw [Below.heap_alloc _ _ _ (by omega)], kh_region_end ?_⟩
  refine kh_piece plainF_ok rfl ⟨_, Try.func7⟩ (by kernel_rfl) rfl fun v30 hv30 => ?_
  go_wp2_with fail
  refine ⟨fun _ _ => rfl, fun todo => ?_⟩
  exact kh_end Try.func7 rfl rfl rfl (by kernel_rfl) (x := .bool true) (fun T d => by simp [results, Try.results7, go_sem, Frame.at]) fun w hA => ⟨rfl, Since.of hA⟩
end Go.Proofs.Ytlcjepgmmbdkmaa
