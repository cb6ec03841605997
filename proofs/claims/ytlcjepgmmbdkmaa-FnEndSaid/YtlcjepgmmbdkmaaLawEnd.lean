/-
  FnEnd, beside leavers.
-/
import Derived.Test.YtlcjepgmmbdkmaaLawBegin
import Derived.Test.YtlcjepgmmbdkmaaEnd
import Derived.Test.YtlcjepgmmbdkmaaRead
namespace Go.Proofs.Ytlcjepgmmbdkmaa
open Go.Br Go.Conc Go.RowKit
open Go.Proofs.Ytlcjepgmmbdkmaa.Ph (plainF plainF_ok NewAt kh_newSlot)
open Go.ConcM (OsLater)
set_option linter.unusedSimpArgs false
set_option linter.unusedVariables false

set_option maxRecDepth 100000 in
set_option maxHeartbeats 8000000 in
theorem lawEnd (A : Option Addr) (len cap : Nat) (W : World) (hl : len ≤ cap) (hm : cap ≤ maxLen) (hc : Code W W.heap.size A len) :
    Fin_ Try.prog (YesP W) (solo (G (Frame.enter Try.prog 10 #[.slice A len cap] .normal) []) W) #[] := by
  refine kh_start (X := fun _ => False) fun T d => ?_
  have hC := code_start hc T d
  obtain ⟨u, hu⟩ : ∃ u, u = pos (hid (fun _ => false) W) T d := ⟨_, rfl⟩
  rw [← hu] at hC ⊢
  have hz : u.heap.size = W.heap.size := by rw [hu, pos_heap, hid_size]
  clear hu hc T d
  rw [enter_at _ Try.func10 rfl]
  simp only [Try.ntmps10, List.size_toArray, List.length_cons, List.length_nil, Nat.reduceAdd, Nat.reduceSub, Array.replicate_succ, Array.replicate_zero, List.push_toArray, List.append_toArray, List.nil_append, List.cons_append]
  refine kh_seq (kh_piece plainF_ok rfl ⟨_, Try.func10⟩ (by kernel_rfl) rfl fun v0 hv0 => ?_)
  have C0 := Lib.hid (hv0.code hC)
  have z0 := Lib.hid (hv0.size.trans hz)
  go_wp2_with fail
  refine ⟨fun _ _ => rfl, ?_⟩
  refine kh_seq (kh_piece plainF_ok rfl ⟨_, Try.func10⟩ (by kernel_rfl) rfl fun v1 hv1 => ?_)
  have C1 := Lib.hid (hv1.code C0.out)
  have z1 := Lib.hid (hv1.size.trans z0.out)
  by_cases hbig : (1048576 : Int) < (len : Int)
  · go_wp2_with fail
    refine ⟨fun _ _ => rfl, fun todo => ?_⟩
    exact kh_end Try.func10 rfl rfl rfl (by kernel_rfl) (x := .bool true) (fun T d => by simp [results, Try.results10, go_sem, Frame.at]) fun w hA => ⟨rfl, Since.of hA⟩
  go_wp2_with fail
  refine ⟨fun _ _ => rfl, ?_⟩
  clear hbig
  refine kh_seq (kh_piece plainF_ok rfl ⟨_, Try.func10⟩ (by kernel_rfl) rfl fun v2 hv2 => ?_)
  have C2 := hv2.code C1.out
  have z2 := hv2.size.trans z1.out
  clear C0 C1 z0 z1 hv1 hv0 hC hz
  rw [← z2] at C2
  go_wp2_with fail
  refine (drawEnd_any A len cap v2 hl hm C2).mono ?_
  rintro e w1 ⟨ver, A', cap', xs, rfl, hp, h1, h2, B1⟩
  clear C2 hl hm hv2
  go_wp2_with fail
  obtain ⟨u2, hu2⟩ : ∃ u2, u2 = w1.alloc (.cells #[.int .i64 ver, .slice A' xs.length cap'] 26) := ⟨_, rfl⟩
  obtain ⟨N, hN⟩ : ∃ N, N = w1.heap.size := ⟨_, rfl⟩
  rw [← hu2, ← hN]
  have ss0 : Blk u2 N 26 #[.int .i64 ver, .slice A' xs.length cap'] := by rw [hu2, hN]; exact Blk.new _ _ _ rfl
  have pa0 : IntRow u2 u2.heap.size A' xs := by rw [hu2]; exact hp.alloc _
  have L2 : Low W.heap.size v2 u2 := by rw [hu2, ← z2]; exact (Fr.alloc B1 _).low
  have zs : W.heap.size ≤ N := by rw [hN, ← z2]; exact B1.size
  refine ⟨L2, ?_⟩
  clear L2 hu2 hN hp B1 z2 v2
  clear w1
  refine kh_seq (kh_region ?_)
  refine kh_list plainF_ok rfl ⟨_, Try.func10⟩ 0 1 (rest := [1, 2, 3, 4, 5, 6, 7]) rfl (by decide) (by kernel_rfl) rfl fun v1a hv1a => ?_
  simp only [List.drop_succ_cons, List.drop_zero, List.take_succ_cons, List.take_zero]
  have ca0 := (hv1a.blk ss0).cells 0
  have cb0 := (hv1a.blk ss0).cells 1
  simp at ca0 cb0
  go_wp2_with fail
  refine ⟨fun _ _ => rfl, ?_⟩
  have ss1 := hv1a.blk ss0
  have pa1 := hv1a.ints pa0
  rw [← hv1a.size] at pa1
  clear ss0 pa0
  clear ca0 cb0 hv1a
  refine kh_call (c := Try.f23.body.getD .skip) rfl rfl (by simp [base]) rfl Try.func23 (by kernel_rfl) rfl ?_
  simp only [Try.ntmps23, List.size_toArray, List.length_cons, List.length_nil, Nat.reduceAdd, Nat.reduceSub, Array.replicate_succ, Array.replicate_zero, List.push_toArray, List.append_toArray, List.nil_append, List.cons_append, List.map_toArray, List.map_cons, List.map_nil, Array.size_map]
  walk_nrm
  have zz := ss1.lt
  refine kh_end_ (W0 := W) (Post := YesP W) (ver := ver) (A := A') (xs := xs) (cap := cap') pa1 h1 h2 (by omega) (fun S1 u1b x1 hR => ?_)
  rw [Frame.finish_at]
  walk_nrm
  clear zz
  have ss2 := hR.low.blk ss1 ss1.lt
  have pa2 := (hR.low.ints pa1).more hR.size
  clear ss1 pa1
  cases hB : endB ver xs
  · obtain rfl := hR.no hB
    have HB := Lib.hid hB
    clear hR hB
    refine kh_list plainF_ok rfl ⟨_, Try.func10⟩ 2 6 (rest := []) rfl (by decide) (by kernel_rfl) rfl fun v1c hv1c => ?_
    simp only [List.drop_succ_cons, List.drop_zero, List.take_succ_cons, List.take_zero]
    go_wp2_with fail
    have zz := ss2.lt
    have zv := hv1c.size
    refine ⟨fun b hb => by rw [Below.heap_alloc _ _ _ (by omega)], kh_region_end ?_⟩
    clear zz zv
    have ss3 := hv1c.blk ss2
    have pa3 := hv1c.ints pa2
    rw [← hv1c.size] at pa3
    clear ss2 pa2
    obtain ⟨y2o, hy2o⟩ : ∃ y, y = v1c.alloc (.cells #[.int .i64 0, .slice none 0 0] 26) := ⟨_, rfl⟩
    obtain ⟨Mo, hMo⟩ : ∃ M, M = v1c.heap.size := ⟨_, rfl⟩
    rw [← hy2o, ← hMo]
    have zo : W.heap.size ≤ Mo := by rw [hMo]; have := ss3.lt; omega
    have ss4 := ss3.alloc (.cells #[.int .i64 0, .slice none 0 0] 26)
    have pa4 := pa3.alloc (.cells #[.int .i64 0, .slice none 0 0] 26)
    clear ss3 pa3
    have so4 : Blk y2o Mo 26 #[.int .i64 0, .slice none 0 0] := by rw [hy2o, hMo]; exact Blk.new _ _ _ rfl
    rw [← hy2o] at ss4
    rw [← hy2o] at pa4
    clear hy2o hMo
    clear hv1c
    refine kh_seq (kh_piece plainF_ok rfl ⟨_, Try.func10⟩ (by kernel_rfl) rfl fun v6 hv6 => ?_)
    have ss5 := hv6.blk ss4
    have so5 := hv6.blk so4
    have pa5 := hv6.ints pa4
    rw [← hv6.size] at pa5
    clear ss4 so4 pa4
    have ca0 := ss5.cells 0
    have cb0 := ss5.cells 1
    have ca1 := so5.cells 0
    have cb1 := so5.cells 1
    simp at ca0 cb0 ca1 cb1
    go_wp2_with fail
    refine (specEnd ver A' xs cap' v6 pa5 h1 h2).mono ?_
    rintro e w2 ⟨v', A2, c2, rfl, hb, hy, hn⟩
    obtain rfl := hn HB.out
    rw [HB.out]
    have zW : W.heap.size ≤ v6.heap.size := by have := ss5.lt; omega
    clear hy hn ca0 cb0 ca1 cb1
    have ss6 := ss5.below hb ss5.lt
    have so6 := so5.below hb so5.lt
    have pa6 := pa5.mem hb
    clear ss5 so5 pa5
    have L7 : Below W.heap.size v6 w2 := hb.mono zW
    clear hb
    have ca0 := ss6.cells 0
    have cb0 := ss6.cells 1
    have ca1 := so6.cells 0
    have cb1 := so6.cells 1
    simp at ca0 cb0 ca1 cb1
    go_wp2_with fail
    clear ca0 cb0 ca1 cb1
    refine ⟨(allocB L7 zW _).low, ?_⟩
    clear L7 zW hv6
    obtain ⟨y2t, hy2t⟩ : ∃ y, y = w2.alloc (.cells #[.int .i64 0, .slice none 0 0] 26) := ⟨_, rfl⟩
    obtain ⟨Mt, hMt⟩ : ∃ M, M = w2.heap.size := ⟨_, rfl⟩
    rw [← hy2t, ← hMt]
    have zt : W.heap.size ≤ Mt := by rw [hMt]; have := ss6.lt; omega
    have ss7 := ss6.alloc (.cells #[.int .i64 0, .slice none 0 0] 26)
    have so7 := so6.alloc (.cells #[.int .i64 0, .slice none 0 0] 26)
    have pa7 := pa6.alloc (.cells #[.int .i64 0, .slice none 0 0] 26)
    clear ss6 so6 pa6
    have st7 : Blk y2t Mt 26 #[.int .i64 0, .slice none 0 0] := by rw [hy2t, hMt]; exact Blk.new _ _ _ rfl
    rw [← hy2t] at ss7
    rw [← hy2t] at so7
    rw [← hy2t] at pa7
    clear hy2t hMt
    refine kh_seq (kh_piece plainF_ok rfl ⟨_, Try.func10⟩ (by kernel_rfl) rfl fun v8 hv8 => ?_)
    have ss8 := hv8.blk ss7
    have so8 := hv8.blk so7
    have st8 := hv8.blk st7
    have pa8 := hv8.ints pa7
    rw [← hv8.size] at pa8
    clear ss7 so7 st7 pa7
    have ca0 := ss8.cells 0
    have cb0 := ss8.cells 1
    have ca1 := so8.cells 0
    have cb1 := so8.cells 1
    have ca2 := st8.cells 0
    have cb2 := st8.cells 1
    simp at ca0 cb0 ca1 cb1 ca2 cb2
    have zW : W.heap.size ≤ v8.heap.size := by have := ss8.lt; omega
    have q0 := ss8.lt
    have q1 := so8.lt
    have q2 := st8.lt
    go_wp2_with (go_at_call 25; refine (sameSlot_same 0 none none [] 0 0 _ (IntRow.nil _ _ _) (IntRow.nil _ _ _) (Nat.le_refl _) (by omega)).mono ?_; rintro e w' ⟨rfl, hbx⟩; obtain ⟨dl, dk, rfl⟩ := more_of hbx; clear hbx)
    refine ⟨(show Below W.heap.size v8 _ by repeat' (first | (with_reducible exact Below.refl _ _) | (with_reducible refine moreB ?_ (by omega) _ _) | (with_reducible refine Below.setCell ?_ ?_ _) | (with_reducible refine Fr.alloc ?_ _) | (with_reducible refine allocB ?_ (by omega) _) | (simp; done) | (simp; omega))).low, fun todo => ?_⟩
    exact kh_end Try.func10 rfl rfl rfl (by kernel_rfl) (x := .bool true) (fun T d => by simp [results, Try.results10, go_sem, Frame.at]) fun w hA => ⟨rfl, Since.of hA⟩
  obtain ⟨R, hR1, rfl, hrow⟩ := hR.yes hB
  have pb2 : IntRow u1b u1b.heap.size (some ⟨R, 0, none⟩) xs := IntRow.of_blk (show Blk u1b R 3 (xs.map iv).toArray from hrow)
  have HB := Lib.hid hB
  clear hR hB hR1 hrow
  refine kh_list plainF_ok rfl ⟨_, Try.func10⟩ 2 6 (rest := []) rfl (by decide) (by kernel_rfl) rfl fun v1d hv1d => ?_
  simp only [List.drop_succ_cons, List.drop_zero, List.take_succ_cons, List.take_zero]
  go_wp2_with fail
  have zz := ss2.lt
  have zv := hv1d.size
  refine ⟨fun b hb => by rw [Below.heap_alloc _ _ _ (by omega)], kh_region_end ?_⟩
  clear zz zv
  have ss3 := hv1d.blk ss2
  have pa3 := hv1d.ints pa2
  rw [← hv1d.size] at pa3
  have pb3 := hv1d.ints pb2
  rw [← hv1d.size] at pb3
  clear ss2 pa2 pb2
  obtain ⟨y1, hy1⟩ : ∃ y, y = v1d.alloc (.cells #[.int .i64 (ver + 1), .slice (some ⟨R, 0, none⟩) xs.length xs.length] 26) := ⟨_, rfl⟩
  obtain ⟨Mo, hMo⟩ : ∃ M, M = v1d.heap.size := ⟨_, rfl⟩
  rw [← hy1, ← hMo]
  have zo : W.heap.size ≤ Mo := by rw [hMo]; have := ss3.lt; omega
  have ss4 := ss3.alloc (.cells #[.int .i64 (ver + 1), .slice (some ⟨R, 0, none⟩) xs.length xs.length] 26)
  have pa4 := pa3.alloc (.cells #[.int .i64 (ver + 1), .slice (some ⟨R, 0, none⟩) xs.length xs.length] 26)
  have pb4 := pb3.alloc (.cells #[.int .i64 (ver + 1), .slice (some ⟨R, 0, none⟩) xs.length xs.length] 26)
  clear ss3 pa3 pb3
  have so4 : Blk y1 Mo 26 #[.int .i64 (ver + 1), .slice (some ⟨R, 0, none⟩) xs.length xs.length] := by rw [hy1, hMo]; exact Blk.new _ _ _ rfl
  rw [← hy1] at ss4
  rw [← hy1] at pa4
  rw [← hy1] at pb4
  clear hy1 hMo
  clear hv1d
  refine kh_seq (kh_piece plainF_ok rfl ⟨_, Try.func10⟩ (by kernel_rfl) rfl fun v6 hv6 => ?_)
  have ss5 := hv6.blk ss4
  have so5 := hv6.blk so4
  have pa5 := hv6.ints pa4
  rw [← hv6.size] at pa5
  have pb5 := hv6.ints pb4
  rw [← hv6.size] at pb5
  clear ss4 so4 pa4 pb4
  have ca0 := ss5.cells 0
  have cb0 := ss5.cells 1
  have ca1 := so5.cells 0
  have cb1 := so5.cells 1
  simp at ca0 cb0 ca1 cb1
  go_wp2_with fail
  refine (specEnd ver A' xs cap' v6 pa5 h1 h2).mono ?_
  rintro e w2 ⟨v', A2, c2, rfl, hb, hy, hn⟩
  obtain ⟨rfl, a1, a2, a3⟩ := hy HB.out
  rw [HB.out]
  have zW : W.heap.size ≤ v6.heap.size := by have := ss5.lt; omega
  clear hn hy ca0 cb0 ca1 cb1
  have ss6 := ss5.below hb ss5.lt
  have so6 := so5.below hb so5.lt
  have pa6 := pa5.mem hb
  have pb6 := pb5.mem hb
  clear ss5 so5 pa5 pb5
  have pc6 := a1.row
  have L7 : Below W.heap.size v6 w2 := hb.mono zW
  clear hb a1
  have ca0 := ss6.cells 0
  have cb0 := ss6.cells 1
  have ca1 := so6.cells 0
  have cb1 := so6.cells 1
  simp at ca0 cb0 ca1 cb1
  go_wp2_with fail
  clear ca0 cb0 ca1 cb1
  refine ⟨(allocB L7 zW _).low, ?_⟩
  clear L7 zW hv6
  obtain ⟨y2, hy2⟩ : ∃ y, y = w2.alloc (.cells #[.int .i64 (ver + 1), .slice A2 xs.length c2] 26) := ⟨_, rfl⟩
  obtain ⟨Mt, hMt⟩ : ∃ M, M = w2.heap.size := ⟨_, rfl⟩
  rw [← hy2, ← hMt]
  have zt : W.heap.size ≤ Mt := by rw [hMt]; have := ss6.lt; omega
  have ss7 := ss6.alloc (.cells #[.int .i64 (ver + 1), .slice A2 xs.length c2] 26)
  have so7 := so6.alloc (.cells #[.int .i64 (ver + 1), .slice A2 xs.length c2] 26)
  have pa7 := pa6.alloc (.cells #[.int .i64 (ver + 1), .slice A2 xs.length c2] 26)
  have pb7 := pb6.alloc (.cells #[.int .i64 (ver + 1), .slice A2 xs.length c2] 26)
  have pc7 := pc6.alloc (.cells #[.int .i64 (ver + 1), .slice A2 xs.length c2] 26)
  clear ss6 so6 pa6 pb6 pc6
  have st7 : Blk y2 Mt 26 #[.int .i64 (ver + 1), .slice A2 xs.length c2] := by rw [hy2, hMt]; exact Blk.new _ _ _ rfl
  rw [← hy2] at ss7
  rw [← hy2] at so7
  rw [← hy2] at pa7
  rw [← hy2] at pb7
  rw [← hy2] at pc7
  clear hy2 hMt
  refine kh_seq (kh_piece plainF_ok rfl ⟨_, Try.func10⟩ (by kernel_rfl) rfl fun v8 hv8 => ?_)
  have ss8 := hv8.blk ss7
  have so8 := hv8.blk so7
  have st8 := hv8.blk st7
  have pa8 := hv8.ints pa7
  rw [← hv8.size] at pa8
  have pb8 := hv8.ints pb7
  rw [← hv8.size] at pb8
  have pc8 := hv8.ints pc7
  rw [← hv8.size] at pc8
  clear ss7 so7 st7 pa7 pb7 pc7
  have ca0 := ss8.cells 0
  have cb0 := ss8.cells 1
  have ca1 := so8.cells 0
  have cb1 := so8.cells 1
  have ca2 := st8.cells 0
  have cb2 := st8.cells 1
  simp at ca0 cb0 ca1 cb1 ca2 cb2
  have zW : W.heap.size ≤ v8.heap.size := by have := ss8.lt; omega
  have q0 := ss8.lt
  have q1 := so8.lt
  have q2 := st8.lt
  go_wp2_with fail
  refine (sameSlot_same (ver + 1) (some ⟨R, 0, none⟩) A2 xs xs.length c2 _ pb8 pc8 (Nat.le_refl _) (by omega)).mono ?_
  rintro e w9 ⟨rfl, hb⟩
  clear ca0 cb0 ca1 cb1 ca2 cb2
  have ss9 := ss8.below hb ss8.lt
  have so9 := so8.below hb so8.lt
  have st9 := st8.below hb st8.lt
  have pa9 := pa8.mem hb
  have pb9 := pb8.mem hb
  have pc9 := pc8.mem hb
  clear ss8 so8 st8 pa8 pb8 pc8
  have L9 : Below W.heap.size v8 w9 := hb.mono zW
  clear hb q0 q1 q2
  have ca0 := ss9.cells 0
  have cb0 := ss9.cells 1
  have ca1 := so9.cells 0
  have cb1 := so9.cells 1
  have ca2 := st9.cells 0
  have cb2 := st9.cells 1
  simp at ca0 cb0 ca1 cb1 ca2 cb2
  have q0 := ss9.lt
  have q1 := so9.lt
  have q2 := st9.lt
  go_wp2_with fail
  clear ca0 cb0 ca1 cb1 ca2 cb2 q0 q1 q2
  refine ⟨L9.low, ?_⟩
  clear L9 hv8 zW v8
  have hB := HB.out
  have hS : slotB ver xs = true ∧ writtenB ver = true ∧ inB (ver + 1) 0 999999 = true := by
    unfold endB at hB
    simpa using hB
  obtain ⟨⟨v0, v1⟩, n1, n6⟩ := slotB_cases hS.1
  have hev : (ver + 1) % 2 = 0 := by
    have := odd_of v0 ▸ hS.2.1
    simp at this
    omega
  have o1 : writtenB (ver + 1) = false := by
    rw [← odd_of (by omega)]
    simp
    omega
  have g1 : slotB (ver + 1) xs = true := by rw [slotB_next hS.1]; exact hS.2.2
  have g3 : wordsB xs = true := by
    have := hS.1
    unfold slotB at this
    simp only [Bool.and_eq_true] at this
    exact this.2
  have B1 := Lib.hid (show readB (ver + 1) xs xs (ver + 1) xs = true by unfold readB; rw [g1, o1, g3]; simp)
  have hxl : xs.length ≤ 9223372036854775807 := by omega
  have hwr : IntKind.i64.wrap (ver + 1) = ver + 1 := IntWalk.i64_in _ (by omega)
  have HE := Lib.hid (And.intro hev hwr)
  have hodd : ((ver + 1) % 2 == 0) = true := by simpa using hev
  clear hB hS n1 n6 o1 g1 g3 hev hwr
  refine kh_seq (kh_region ?_)
  refine kh_list plainF_ok rfl ⟨_, Try.func10⟩ 0 4 (rest := [4, 5, 6, 7, 8, 9]) rfl (by decide) (by kernel_rfl) rfl fun v3a hv3a => ?_
  simp only [List.drop_succ_cons, List.drop_zero, List.take_succ_cons, List.take_zero]
  have ca0 := (hv3a.blk so9).cells 0
  have cb0 := (hv3a.blk so9).cells 1
  simp at ca0 cb0
  go_wp2_with fail
  refine ⟨fun _ _ => rfl, ?_⟩
  have ss10 := hv3a.blk ss9
  have so10 := hv3a.blk so9
  have st10 := hv3a.blk st9
  have pa10 := hv3a.ints pa9
  rw [← hv3a.size] at pa10
  have pb10 := hv3a.ints pb9
  rw [← hv3a.size] at pb10
  have pc10 := hv3a.ints pc9
  rw [← hv3a.size] at pc10
  clear ss9 so9 st9 pa9 pb9 pc9
  clear ca0 cb0 hv3a
  refine kh_call (c := Try.f30.body.getD .skip) rfl rfl (by simp [base]) rfl Try.func30 (by kernel_rfl) rfl ?_
  simp only [Try.ntmps30, List.size_toArray, List.length_cons, List.length_nil, Nat.reduceAdd, Nat.reduceSub, Array.replicate_succ, Array.replicate_zero, List.push_toArray, List.append_toArray, List.nil_append, List.cons_append, List.map_toArray, List.map_cons, List.map_nil, Array.size_map]
  walk_nrm
  have zz := ss10.lt
  refine kh_read (W0 := W) (Post := YesP W) (va := ver + 1) (vb := ver + 1) (xa := xs) (ws := xs) (xb := xs) (A := (some ⟨R, 0, none⟩)) (B := (some ⟨R, 0, none⟩)) (C := (some ⟨R, 0, none⟩)) (capa := xs.length) (capb := xs.length) (capw := xs.length) pb10 pb10 pb10 (Nat.le_refl _) hxl (Nat.le_refl _) hxl (Nat.le_refl _) hxl (by omega) (fun S3 u3b x3 hR => ?_)
  rw [Frame.finish_at]
  walk_nrm
  clear zz
  have ss11 := hR.low.blk ss10 ss10.lt
  have so11 := hR.low.blk so10 so10.lt
  have st11 := hR.low.blk st10 st10.lt
  have pa11 := (hR.low.ints pa10).more hR.size
  have pb11 := (hR.low.ints pb10).more hR.size
  have pc11 := (hR.low.ints pc10).more hR.size
  clear ss10 so10 st10 pa10 pb10 pc10
  obtain ⟨Q, hR1, rfl, hrow⟩ := hR.yes B1.out
  have pd11 : IntRow u3b u3b.heap.size (some ⟨Q, 0, none⟩) xs := IntRow.of_blk (show Blk u3b Q 3 (xs.map iv).toArray from hrow)
  clear hR hR1 hrow
  refine kh_list plainF_ok rfl ⟨_, Try.func10⟩ 5 5 (rest := []) rfl (by decide) (by kernel_rfl) rfl fun v3e hv3e => ?_
  simp only [List.drop_succ_cons, List.drop_zero, List.take_succ_cons, List.take_zero]
  go_wp2_with fail
  refine ⟨fun _ _ => rfl, kh_region_end ?_⟩
  have ss12 := hv3e.blk ss11
  have so12 := hv3e.blk so11
  have st12 := hv3e.blk st11
  have pa12 := hv3e.ints pa11
  rw [← hv3e.size] at pa12
  have pb12 := hv3e.ints pb11
  rw [← hv3e.size] at pb12
  have pc12 := hv3e.ints pc11
  rw [← hv3e.size] at pc12
  have pd12 := hv3e.ints pd11
  rw [← hv3e.size] at pd12
  clear ss11 so11 st11 pa11 pb11 pc11 pd11
  clear hv3e
  refine kh_piece plainF_ok rfl ⟨_, Try.func10⟩ (by kernel_rfl) rfl fun v30 hv30 => ?_
  have ss13 := hv30.blk ss12
  have so13 := hv30.blk so12
  have st13 := hv30.blk st12
  have pa13 := hv30.ints pa12
  rw [← hv30.size] at pa13
  have pb13 := hv30.ints pb12
  rw [← hv30.size] at pb13
  have pc13 := hv30.ints pc12
  rw [← hv30.size] at pc13
  have pd13 := hv30.ints pd12
  rw [← hv30.size] at pd13
  clear ss12 so12 st12 pa12 pb12 pc12 pd12
  have ca0 := ss13.cells 0
  have cb0 := ss13.cells 1
  have ca1 := so13.cells 0
  have cb1 := so13.cells 1
  simp at ca0 cb0 ca1 cb1
  have zW : W.heap.size ≤ v30.heap.size := by have := ss13.lt; omega
  have hwr := HE.out.2
  go_wp2_with fail
  refine (sameInts_same (some ⟨R, 0, none⟩) A' xs xs.length cap' v30 pb13 pa13 (Nat.le_refl _) (by omega)).mono ?_
  rintro e w31 ⟨rfl, hb⟩
  clear ca0 cb0 ca1 cb1
  have ss14 := ss13.below hb ss13.lt
  have so14 := so13.below hb so13.lt
  have st14 := st13.below hb st13.lt
  have pa14 := pa13.mem hb
  have pb14 := pb13.mem hb
  have pc14 := pc13.mem hb
  have pd14 := pd13.mem hb
  clear ss13 so13 st13 pa13 pb13 pc13 pd13
  have L31 : Below W.heap.size v30 w31 := hb.mono zW
  clear hb
  have ca0 := ss14.cells 0
  have cb0 := ss14.cells 1
  have ca1 := so14.cells 0
  have cb1 := so14.cells 1
  simp at ca0 cb0 ca1 cb1
  go_wp2_with fail
  refine (sameInts_same (some ⟨Q, 0, none⟩) (some ⟨R, 0, none⟩) xs xs.length xs.length w31 pd14 pb14 (Nat.le_refl _) (by omega)).mono ?_
  rintro e w32 ⟨rfl, hb⟩
  clear ca0 cb0 ca1 cb1
  have L32 : Below W.heap.size v30 w32 := L31.trans (hb.mono (Nat.le_trans zW L31.size))
  clear hb
  go_wp2_with fail
  refine ⟨L32.low, fun todo => ?_⟩
  exact kh_end Try.func10 rfl rfl rfl (by kernel_rfl) (x := .bool true) (fun T d => by simp [results, Try.results10, go_sem, Frame.at]) fun w hA => ⟨rfl, Since.of hA⟩
end Go.Proofs.Ytlcjepgmmbdkmaa
