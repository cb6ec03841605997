/-
  FnReadTorn, beside leavers.
-/
import Derived.Test.YtlcjepgmmbdkmaaLawBegin
import Derived.Test.YtlcjepgmmbdkmaaRead
import Derived.Test.YtlcjepgmmbdkmaaDr
namespace Go.Proofs.Ytlcjepgmmbdkmaa
open Go.Br Go.Conc Go.RowKit
open Go.Proofs.Ytlcjepgmmbdkmaa.Ph (plainF plainF_ok NewAt kh_newSlot)
open Go.ConcM (OsLater)
set_option linter.unusedSimpArgs false
set_option linter.unusedVariables false

set_option maxRecDepth 100000 in
set_option maxHeartbeats 8000000 in
theorem lawTorn (A : Option Addr) (len cap : Nat) (W : World) (hl : len ≤ cap) (hm : cap ≤ maxLen) (hc : Code W W.heap.size A len) :
    Fin_ Try.prog (YesP W) (solo (G (Frame.enter Try.prog 9 #[.slice A len cap] .normal) []) W) #[] := by
  refine kh_start (X := fun _ => False) fun T d => ?_
  have hC := code_start hc T d
  obtain ⟨u, hu⟩ : ∃ u, u = pos (hid (fun _ => false) W) T d := ⟨_, rfl⟩
  rw [← hu] at hC ⊢
  have hz : u.heap.size = W.heap.size := by rw [hu, pos_heap, hid_size]
  clear hu hc T d
  rw [enter_at _ Try.func9 rfl]
  simp only [Try.ntmps9, List.size_toArray, List.length_cons, List.length_nil, Nat.reduceAdd, Nat.reduceSub, Array.replicate_succ, Array.replicate_zero, List.push_toArray, List.append_toArray, List.nil_append, List.cons_append]
  refine kh_seq (kh_piece plainF_ok rfl ⟨_, Try.func9⟩ (by kernel_rfl) rfl fun v0 hv0 => ?_)
  have C0 := Lib.hid (hv0.code hC)
  have z0 := Lib.hid (hv0.size.trans hz)
  go_wp2_with fail
  refine ⟨fun _ _ => rfl, ?_⟩
  refine kh_seq (kh_piece plainF_ok rfl ⟨_, Try.func9⟩ (by kernel_rfl) rfl fun v1 hv1 => ?_)
  have C1 := Lib.hid (hv1.code C0.out)
  have z1 := Lib.hid (hv1.size.trans z0.out)
  by_cases hbig : (1048576 : Int) < (len : Int)
  · go_wp2_with fail
    refine ⟨fun _ _ => rfl, fun todo => ?_⟩
    exact kh_end Try.func9 rfl rfl rfl (by kernel_rfl) (x := .bool true) (fun T d => by simp [results, Try.results9, go_sem, Frame.at]) fun w hA => ⟨rfl, Since.of hA⟩
  go_wp2_with fail
  refine ⟨fun _ _ => rfl, ?_⟩
  clear hbig
  refine kh_seq (kh_piece plainF_ok rfl ⟨_, Try.func9⟩ (by kernel_rfl) rfl fun v2 hv2 => ?_)
  have C2 := hv2.code C1.out
  have z2 := hv2.size.trans z1.out
  clear C0 C1 z0 z1 hv1 hv0 hC hz
  rw [← z2] at C2
  go_wp2_with fail
  refine (drawRead_any A len cap v2 hl hm C2).mono ?_
  rintro e w1 ⟨va, A', capa, xa, C, capw, ws, vb, B, capb, xb, rfl, hp, hr, hq, la, ma, lw, mw, lb, mb, B1⟩
  clear C2 hl hm hv2
  go_wp2_with fail
  obtain ⟨u2, hu2⟩ : ∃ u2, u2 = (w1.alloc (.cells #[.int .i64 va, .slice A' xa.length capa] 26)).alloc (.cells #[.int .i64 vb, .slice B xb.length capb] 26) := ⟨_, rfl⟩
  obtain ⟨N, hN⟩ : ∃ N, N = w1.heap.size := ⟨_, rfl⟩
  rw [← hu2, ← hN]
  have ss0 : Blk u2 N 26 #[.int .i64 va, .slice A' xa.length capa] := by rw [hu2, hN]; exact (Blk.new _ _ _ rfl).alloc _
  have st0 : Blk u2 (N + 1) 26 #[.int .i64 vb, .slice B xb.length capb] := by rw [hu2, hN]; exact Blk.new _ _ _ (by simp)
  have pa0 : IntRow u2 u2.heap.size A' xa := by rw [hu2]; exact (hp.alloc _).alloc _
  have pb0 : IntRow u2 u2.heap.size B xb := by rw [hu2]; exact (hq.alloc _).alloc _
  have pc0 : IntRow u2 u2.heap.size C ws := by rw [hu2]; exact (hr.alloc _).alloc _
  have L2 : Low W.heap.size v2 u2 := by rw [hu2, ← z2]; exact (Fr.alloc2 B1 _ _).low
  have zs : W.heap.size ≤ N := by rw [hN, ← z2]; exact B1.size
  refine ⟨L2, ?_⟩
  clear L2 hu2 hN hp hq hr B1 z2 v2
  clear w1
  refine kh_seq (kh_region ?_)
  refine kh_list plainF_ok rfl ⟨_, Try.func9⟩ 0 3 (rest := [3, 4, 5, 6, 7, 8]) rfl (by decide) (by kernel_rfl) rfl fun v1a hv1a => ?_
  simp only [List.drop_succ_cons, List.drop_zero, List.take_succ_cons, List.take_zero]
  have ca0 := (hv1a.blk ss0).cells 0
  have cb0 := (hv1a.blk ss0).cells 1
  have ca1 := (hv1a.blk st0).cells 0
  have cb1 := (hv1a.blk st0).cells 1
  simp at ca0 cb0 ca1 cb1
  go_wp2_with fail
  refine ⟨fun _ _ => rfl, ?_⟩
  have ss1 := hv1a.blk ss0
  have st1 := hv1a.blk st0
  have pa1 := hv1a.ints pa0
  rw [← hv1a.size] at pa1
  have pb1 := hv1a.ints pb0
  rw [← hv1a.size] at pb1
  have pc1 := hv1a.ints pc0
  rw [← hv1a.size] at pc1
  clear ss0 st0 pa0 pb0 pc0
  clear ca0 cb0 ca1 cb1 hv1a
  refine kh_call (c := Try.f30.body.getD .skip) rfl rfl (by simp [base]) rfl Try.func30 (by kernel_rfl) rfl ?_
  simp only [Try.ntmps30, List.size_toArray, List.length_cons, List.length_nil, Nat.reduceAdd, Nat.reduceSub, Array.replicate_succ, Array.replicate_zero, List.push_toArray, List.append_toArray, List.nil_append, List.cons_append, List.map_toArray, List.map_cons, List.map_nil, Array.size_map]
  walk_nrm
  have zz := ss1.lt
  refine kh_read (W0 := W) (Post := YesP W) (va := va) (vb := vb) (A := A') (B := B) (C := C) (xa := xa) (ws := ws) (xb := xb) (capa := capa) (capw := capw) (capb := capb) pa1 pb1 pc1 la ma lb mb lw mw (by omega) (fun S1 u1b x1 hR => ?_)
  rw [Frame.finish_at]
  walk_nrm
  clear zz
  have ss2 := hR.low.blk ss1 ss1.lt
  have st2 := hR.low.blk st1 st1.lt
  have pa2 := (hR.low.ints pa1).more hR.size
  have pb2 := (hR.low.ints pb1).more hR.size
  have pc2 := (hR.low.ints pc1).more hR.size
  clear ss1 st1 pa1 pb1 pc1
  cases hB : readB va xa ws vb xb
  · obtain ⟨R, hR1, rfl⟩ := hR.no hB
    have HB := Lib.hid hB
    clear hR hB hR1
    refine kh_list plainF_ok rfl ⟨_, Try.func9⟩ 4 5 (rest := []) rfl (by decide) (by kernel_rfl) rfl fun v1c hv1c => ?_
    simp only [List.drop_succ_cons, List.drop_zero, List.take_succ_cons, List.take_zero]
    go_wp2_with fail
    refine ⟨fun _ _ => rfl, kh_region_end ?_⟩
    have ss3 := hv1c.blk ss2
    have st3 := hv1c.blk st2
    have pa3 := hv1c.ints pa2
    rw [← hv1c.size] at pa3
    have pb3 := hv1c.ints pb2
    rw [← hv1c.size] at pb3
    have pc3 := hv1c.ints pc2
    rw [← hv1c.size] at pc3
    clear ss2 st2 pa2 pb2 pc2
    clear hv1c
    refine kh_seq (kh_piece plainF_ok rfl ⟨_, Try.func9⟩ (by kernel_rfl) rfl fun v6 hv6 => ?_)
    have ss4 := hv6.blk ss3
    have st4 := hv6.blk st3
    have pa4 := hv6.ints pa3
    rw [← hv6.size] at pa4
    have pb4 := hv6.ints pb3
    rw [← hv6.size] at pb4
    have pc4 := hv6.ints pc3
    rw [← hv6.size] at pc4
    clear ss3 st3 pa3 pb3 pc3
    have ca0 := ss4.cells 0
    have cb0 := ss4.cells 1
    have ca1 := st4.cells 0
    have cb1 := st4.cells 1
    simp at ca0 cb0 ca1 cb1
    go_wp2_with fail
    refine (specRead va vb A' B C xa ws xb capa capw capb v6 pa4 pb4 pc4 la ma lb mb lw mw).mono ?_
    rintro e w2 ⟨v', A2, c2, rfl, hb, hy, hn⟩
    obtain ⟨Q, rfl⟩ := hn HB.out
    rw [HB.out]
    have zW : W.heap.size ≤ v6.heap.size := by have := ss4.lt; omega
    clear hy hn ca0 cb0 ca1 cb1
    have ss5 := ss4.below hb ss4.lt
    have st5 := st4.below hb st4.lt
    have pa5 := pa4.mem hb
    have pb5 := pb4.mem hb
    have pc5 := pc4.mem hb
    clear ss4 st4 pa4 pb4 pc4
    have L7 : Below W.heap.size v6 w2 := hb.mono zW
    clear hb
    go_wp2_with fail
    refine ⟨L7.low, ?_⟩
    clear L7 zW hv6
    refine kh_seq (kh_piece plainF_ok rfl ⟨_, Try.func9⟩ (by kernel_rfl) rfl fun v8 hv8 => ?_)
    have ss6 := hv8.blk ss5
    have st6 := hv8.blk st5
    have pa6 := hv8.ints pa5
    rw [← hv8.size] at pa6
    have pb6 := hv8.ints pb5
    rw [← hv8.size] at pb6
    have pc6 := hv8.ints pc5
    rw [← hv8.size] at pc6
    clear ss5 st5 pa5 pb5 pc5
    have ca0 := ss6.cells 0
    have cb0 := ss6.cells 1
    have ca1 := st6.cells 0
    have cb1 := st6.cells 1
    simp at ca0 cb0 ca1 cb1
    have zW : W.heap.size ≤ v8.heap.size := by have := ss6.lt; omega
    have q0 := ss6.lt
    have q1 := st6.lt
    go_wp2_with (go_at_call 27; refine (sameInts_same (some ⟨R, 0, none⟩) (some ⟨Q, 0, none⟩) [] 0 0 _ (IntRow.nil _ _ _) (IntRow.nil _ _ _) (Nat.le_refl _) (by omega)).mono ?_; rintro e w' ⟨rfl, hbx⟩; obtain ⟨dl, dk, rfl⟩ := more_of hbx; clear hbx)
    refine ⟨(show Below W.heap.size v8 _ by repeat' (first | (with_reducible exact Below.refl _ _) | (with_reducible refine moreB ?_ (by omega) _ _) | (simp; done) | (simp; omega))).low, fun todo => ?_⟩
    exact kh_end Try.func9 rfl rfl rfl (by kernel_rfl) (x := .bool true) (fun T d => by simp [results, Try.results9, go_sem, Frame.at]) fun w hA => ⟨rfl, Since.of hA⟩
  obtain ⟨R, hR1, rfl, hrow⟩ := hR.yes hB
  have pd2 : IntRow u1b u1b.heap.size (some ⟨R, 0, none⟩) ws := IntRow.of_blk (show Blk u1b R 3 (ws.map iv).toArray from hrow)
  have HB := Lib.hid hB
  clear hR hB hR1 hrow
  refine kh_list plainF_ok rfl ⟨_, Try.func9⟩ 4 5 (rest := []) rfl (by decide) (by kernel_rfl) rfl fun v1d hv1d => ?_
  simp only [List.drop_succ_cons, List.drop_zero, List.take_succ_cons, List.take_zero]
  go_wp2_with fail
  refine ⟨fun _ _ => rfl, kh_region_end ?_⟩
  have ss3 := hv1d.blk ss2
  have st3 := hv1d.blk st2
  have pa3 := hv1d.ints pa2
  rw [← hv1d.size] at pa3
  have pb3 := hv1d.ints pb2
  rw [← hv1d.size] at pb3
  have pc3 := hv1d.ints pc2
  rw [← hv1d.size] at pc3
  have pd3 := hv1d.ints pd2
  rw [← hv1d.size] at pd3
  clear ss2 st2 pa2 pb2 pc2 pd2
  clear hv1d
  refine kh_seq (kh_piece plainF_ok rfl ⟨_, Try.func9⟩ (by kernel_rfl) rfl fun v6 hv6 => ?_)
  have ss4 := hv6.blk ss3
  have st4 := hv6.blk st3
  have pa4 := hv6.ints pa3
  rw [← hv6.size] at pa4
  have pb4 := hv6.ints pb3
  rw [← hv6.size] at pb4
  have pc4 := hv6.ints pc3
  rw [← hv6.size] at pc4
  have pd4 := hv6.ints pd3
  rw [← hv6.size] at pd4
  clear ss3 st3 pa3 pb3 pc3 pd3
  have ca0 := ss4.cells 0
  have cb0 := ss4.cells 1
  have ca1 := st4.cells 0
  have cb1 := st4.cells 1
  simp at ca0 cb0 ca1 cb1
  go_wp2_with fail
  refine (specRead va vb A' B C xa ws xb capa capw capb v6 pa4 pb4 pc4 la ma lb mb lw mw).mono ?_
  rintro e w2 ⟨v', A2, c2, rfl, hb, hy, hn⟩
  obtain ⟨rfl, a1, a2, a3⟩ := hy HB.out
  rw [HB.out]
  have zW : W.heap.size ≤ v6.heap.size := by have := ss4.lt; omega
  clear hn hy ca0 cb0 ca1 cb1
  have ss5 := ss4.below hb ss4.lt
  have st5 := st4.below hb st4.lt
  have pa5 := pa4.mem hb
  have pb5 := pb4.mem hb
  have pc5 := pc4.mem hb
  have pd5 := pd4.mem hb
  clear ss4 st4 pa4 pb4 pc4 pd4
  have pe5 := a1.row
  have L7 : Below W.heap.size v6 w2 := hb.mono zW
  clear hb a1
  go_wp2_with fail
  refine ⟨L7.low, ?_⟩
  clear L7 zW hv6
  refine kh_seq (kh_piece plainF_ok rfl ⟨_, Try.func9⟩ (by kernel_rfl) rfl fun v8 hv8 => ?_)
  have ss6 := hv8.blk ss5
  have st6 := hv8.blk st5
  have pa6 := hv8.ints pa5
  rw [← hv8.size] at pa6
  have pb6 := hv8.ints pb5
  rw [← hv8.size] at pb6
  have pc6 := hv8.ints pc5
  rw [← hv8.size] at pc6
  have pd6 := hv8.ints pd5
  rw [← hv8.size] at pd6
  have pe6 := hv8.ints pe5
  rw [← hv8.size] at pe6
  clear ss5 st5 pa5 pb5 pc5 pd5 pe5
  have ca0 := ss6.cells 0
  have cb0 := ss6.cells 1
  have ca1 := st6.cells 0
  have cb1 := st6.cells 1
  simp at ca0 cb0 ca1 cb1
  have zW : W.heap.size ≤ v8.heap.size := by have := ss6.lt; omega
  have hwl : ws.length ≤ 9223372036854775807 := by omega
  go_wp2_with fail
  refine (sameInts_same (some ⟨R, 0, none⟩) A2 ws ws.length c2 _ pd6 pe6 (Nat.le_refl _) hwl).mono ?_
  rintro e w9 ⟨rfl, hb⟩
  clear ca0 cb0 ca1 cb1
  have ss7 := ss6.below hb ss6.lt
  have st7 := st6.below hb st6.lt
  have pa7 := pa6.mem hb
  have pb7 := pb6.mem hb
  have pc7 := pc6.mem hb
  have pd7 := pd6.mem hb
  have pe7 := pe6.mem hb
  clear ss6 st6 pa6 pb6 pc6 pd6 pe6
  have L9 : Below W.heap.size v8 w9 := hb.mono zW
  clear hb
  have ca0 := ss7.cells 0
  have cb0 := ss7.cells 1
  have ca1 := st7.cells 0
  have cb1 := st7.cells 1
  simp at ca0 cb0 ca1 cb1
  have q0 := ss7.lt
  have q1 := st7.lt
  by_cases hbig : (999990 : Int) < va
  · go_wp2_with (go_at_call 27; refine (sameInts_same (some ⟨R, 0, none⟩) A2 ws ws.length c2 _ pd7 pe7 (Nat.le_refl _) hwl).mono ?_; rintro e w' ⟨rfl, hbx⟩; obtain ⟨dl, dk, rfl⟩ := more_of hbx; clear hbx)
    refine ⟨(show Below W.heap.size v8 _ by repeat' (first | (with_reducible exact L9) | (with_reducible refine moreB ?_ (by omega) _ _) | (simp; done) | (simp; omega))).low, fun todo => ?_⟩
    exact kh_end Try.func9 rfl rfl rfl (by kernel_rfl) (x := .bool true) (fun T d => by simp [results, Try.results9, go_sem, Frame.at]) fun w hA => ⟨rfl, Since.of hA⟩
  go_wp2_with fail
  clear ca0 cb0 ca1 cb1 q0 q1
  refine ⟨L9.low, ?_⟩
  clear L9 hv8 zW v8
  have hB := HB.out
  have hS : slotB va xa = true ∧ slotB vb xb = true ∧ wordsB ws = true ∧ va = vb ∧ writtenB va = false := by
    unfold readB at hB
    simpa using hB
  obtain ⟨hS1, hS2, hS3, rfl, hS5⟩ := hS
  obtain ⟨⟨v0, v1⟩, -, -⟩ := slotB_cases hS1
  obtain ⟨-, n1, n6⟩ := slotB_cases hS2
  have o1 : writtenB (va + 1) = true := by rw [← odd_of (by omega)]; exact odd_next v0 hS5
  have i1 : inB (va + 1) 0 999999 = true := inB_iff.2 (by omega)
  have i2 : inB (va + 1 + 1) 0 999999 = true := inB_iff.2 (by omega)
  have g1 : slotB (va + 1) xb = true := by rw [slotB_next hS2]; exact i1
  have B1 := Lib.hid (show beginB va xb = true by unfold beginB; rw [hS2, hS5, i1]; rfl)
  have B2 := Lib.hid (show readB va xa ws (va + 1) xb = false by unfold readB; rw [show (va == va + 1) = false by simp; omega]; simp)
  have B3 := Lib.hid (show readB (va + 1) xb ws (va + 1) xb = false by unfold readB; rw [o1]; simp)
  have B4 := Lib.hid (show endB (va + 1) xb = true by unfold endB; rw [g1, o1, i2]; rfl)
  have B5 := Lib.hid (show readB va xa ws (va + 1 + 1) xb = false by unfold readB; rw [show (va == va + 1 + 1) = false by simp; omega]; simp)
  have hxl : xb.length ≤ 9223372036854775807 := by omega
  clear hB hS1 hS2 hS3 hS5 v0 v1 n1 n6 o1 i1 i2 g1 hbig
  refine kh_seq (kh_region ?_)
  refine kh_list plainF_ok rfl ⟨_, Try.func9⟩ 0 1 (rest := [1, 2, 3, 4, 5, 6, 7]) rfl (by decide) (by kernel_rfl) rfl fun v2a hv2a => ?_
  simp only [List.drop_succ_cons, List.drop_zero, List.take_succ_cons, List.take_zero]
  have ca0 := (hv2a.blk st7).cells 0
  have cb0 := (hv2a.blk st7).cells 1
  simp at ca0 cb0
  go_wp2_with fail
  refine ⟨fun _ _ => rfl, ?_⟩
  have ss8 := hv2a.blk ss7
  have st8 := hv2a.blk st7
  have pa8 := hv2a.ints pa7
  rw [← hv2a.size] at pa8
  have pb8 := hv2a.ints pb7
  rw [← hv2a.size] at pb8
  have pc8 := hv2a.ints pc7
  rw [← hv2a.size] at pc8
  have pd8 := hv2a.ints pd7
  rw [← hv2a.size] at pd8
  have pe8 := hv2a.ints pe7
  rw [← hv2a.size] at pe8
  clear ss7 st7 pa7 pb7 pc7 pd7 pe7
  clear ca0 cb0 hv2a
  refine kh_call (c := Try.f21.body.getD .skip) rfl rfl (by simp [base]) rfl Try.func21 (by kernel_rfl) rfl ?_
  simp only [Try.ntmps21, List.size_toArray, List.length_cons, List.length_nil, Nat.reduceAdd, Nat.reduceSub, Array.replicate_succ, Array.replicate_zero, List.push_toArray, List.append_toArray, List.nil_append, List.cons_append, List.map_toArray, List.map_cons, List.map_nil, Array.size_map]
  walk_nrm
  have zz := ss8.lt
  refine kh_begin (W0 := W) (Post := YesP W) (ver := va) (A := B) (xs := xb) (cap := capb) pb8 lb mb (by omega) (fun S2 u2b x2 hR => ?_)
  rw [Frame.finish_at]
  walk_nrm
  clear zz
  have ss9 := hR.low.blk ss8 ss8.lt
  have st9 := hR.low.blk st8 st8.lt
  have pa9 := (hR.low.ints pa8).more hR.size
  have pb9 := (hR.low.ints pb8).more hR.size
  have pc9 := (hR.low.ints pc8).more hR.size
  have pd9 := (hR.low.ints pd8).more hR.size
  have pe9 := (hR.low.ints pe8).more hR.size
  clear ss8 st8 pa8 pb8 pc8 pd8 pe8
  obtain ⟨Q, hR1, rfl, hrow⟩ := hR.yes B1.out
  have pf9 : IntRow u2b u2b.heap.size (some ⟨Q, 0, none⟩) xb := IntRow.of_blk (show Blk u2b Q 3 (xb.map iv).toArray from hrow)
  clear hR hR1 hrow
  refine kh_list plainF_ok rfl ⟨_, Try.func9⟩ 2 6 (rest := []) rfl (by decide) (by kernel_rfl) rfl fun v2e hv2e => ?_
  simp only [List.drop_succ_cons, List.drop_zero, List.take_succ_cons, List.take_zero]
  go_wp2_with fail
  have zz := ss9.lt
  have zv := hv2e.size
  refine ⟨fun b hb => by rw [Below.heap_alloc _ _ _ (by omega)], kh_region_end ?_⟩
  clear zz zv
  have ss10 := hv2e.blk ss9
  have st10 := hv2e.blk st9
  have pa10 := hv2e.ints pa9
  rw [← hv2e.size] at pa10
  have pb10 := hv2e.ints pb9
  rw [← hv2e.size] at pb10
  have pc10 := hv2e.ints pc9
  rw [← hv2e.size] at pc10
  have pd10 := hv2e.ints pd9
  rw [← hv2e.size] at pd10
  have pe10 := hv2e.ints pe9
  rw [← hv2e.size] at pe10
  have pf10 := hv2e.ints pf9
  rw [← hv2e.size] at pf10
  clear ss9 st9 pa9 pb9 pc9 pd9 pe9 pf9
  obtain ⟨y2, hy2⟩ : ∃ y, y = v2e.alloc (.cells #[.int .i64 (va + 1), .slice (some ⟨Q, 0, none⟩) xb.length xb.length] 26) := ⟨_, rfl⟩
  obtain ⟨Mx, hMx⟩ : ∃ M, M = v2e.heap.size := ⟨_, rfl⟩
  rw [← hy2, ← hMx]
  have zx : W.heap.size ≤ Mx := by rw [hMx]; have := ss10.lt; omega
  have ss11 := ss10.alloc (.cells #[.int .i64 (va + 1), .slice (some ⟨Q, 0, none⟩) xb.length xb.length] 26)
  have st11 := st10.alloc (.cells #[.int .i64 (va + 1), .slice (some ⟨Q, 0, none⟩) xb.length xb.length] 26)
  have pa11 := pa10.alloc (.cells #[.int .i64 (va + 1), .slice (some ⟨Q, 0, none⟩) xb.length xb.length] 26)
  have pb11 := pb10.alloc (.cells #[.int .i64 (va + 1), .slice (some ⟨Q, 0, none⟩) xb.length xb.length] 26)
  have pc11 := pc10.alloc (.cells #[.int .i64 (va + 1), .slice (some ⟨Q, 0, none⟩) xb.length xb.length] 26)
  have pd11 := pd10.alloc (.cells #[.int .i64 (va + 1), .slice (some ⟨Q, 0, none⟩) xb.length xb.length] 26)
  have pe11 := pe10.alloc (.cells #[.int .i64 (va + 1), .slice (some ⟨Q, 0, none⟩) xb.length xb.length] 26)
  have pf11 := pf10.alloc (.cells #[.int .i64 (va + 1), .slice (some ⟨Q, 0, none⟩) xb.length xb.length] 26)
  clear ss10 st10 pa10 pb10 pc10 pd10 pe10 pf10
  have sx11 : Blk y2 Mx 26 #[.int .i64 (va + 1), .slice (some ⟨Q, 0, none⟩) xb.length xb.length] := by rw [hy2, hMx]; exact Blk.new _ _ _ rfl
  rw [← hy2] at ss11
  rw [← hy2] at st11
  rw [← hy2] at pa11
  rw [← hy2] at pb11
  rw [← hy2] at pc11
  rw [← hy2] at pd11
  rw [← hy2] at pe11
  rw [← hy2] at pf11
  clear hy2 hMx
  clear hv2e
  refine kh_seq (kh_region ?_)
  refine kh_list plainF_ok rfl ⟨_, Try.func9⟩ 0 3 (rest := [3, 4, 5, 6, 7, 8]) rfl (by decide) (by kernel_rfl) rfl fun v3a hv3a => ?_
  simp only [List.drop_succ_cons, List.drop_zero, List.take_succ_cons, List.take_zero]
  have ca0 := (hv3a.blk ss11).cells 0
  have cb0 := (hv3a.blk ss11).cells 1
  have ca1 := (hv3a.blk sx11).cells 0
  have cb1 := (hv3a.blk sx11).cells 1
  simp at ca0 cb0 ca1 cb1
  go_wp2_with fail
  refine ⟨fun _ _ => rfl, ?_⟩
  have ss12 := hv3a.blk ss11
  have st12 := hv3a.blk st11
  have sx12 := hv3a.blk sx11
  have pa12 := hv3a.ints pa11
  rw [← hv3a.size] at pa12
  have pb12 := hv3a.ints pb11
  rw [← hv3a.size] at pb12
  have pc12 := hv3a.ints pc11
  rw [← hv3a.size] at pc12
  have pd12 := hv3a.ints pd11
  rw [← hv3a.size] at pd12
  have pe12 := hv3a.ints pe11
  rw [← hv3a.size] at pe12
  have pf12 := hv3a.ints pf11
  rw [← hv3a.size] at pf12
  clear ss11 st11 sx11 pa11 pb11 pc11 pd11 pe11 pf11
  clear ca0 cb0 ca1 cb1 hv3a
  refine kh_call (c := Try.f30.body.getD .skip) rfl rfl (by simp [base]) rfl Try.func30 (by kernel_rfl) rfl ?_
  simp only [Try.ntmps30, List.size_toArray, List.length_cons, List.length_nil, Nat.reduceAdd, Nat.reduceSub, Array.replicate_succ, Array.replicate_zero, List.push_toArray, List.append_toArray, List.nil_append, List.cons_append, List.map_toArray, List.map_cons, List.map_nil, Array.size_map]
  walk_nrm
  have zz := ss12.lt
  refine kh_read (W0 := W) (Post := YesP W) (va := va) (vb := (va + 1)) (A := A') (B := (some ⟨Q, 0, none⟩)) (C := C) (xa := xa) (ws := ws) (xb := xb) (capa := capa) (capw := capw) (capb := xb.length) pa12 pf12 pc12 la ma (Nat.le_refl _) hxl lw mw (by omega) (fun S3 u3b x3 hR => ?_)
  rw [Frame.finish_at]
  walk_nrm
  clear zz
  have ss13 := hR.low.blk ss12 ss12.lt
  have st13 := hR.low.blk st12 st12.lt
  have sx13 := hR.low.blk sx12 sx12.lt
  have pa13 := (hR.low.ints pa12).more hR.size
  have pb13 := (hR.low.ints pb12).more hR.size
  have pc13 := (hR.low.ints pc12).more hR.size
  have pd13 := (hR.low.ints pd12).more hR.size
  have pe13 := (hR.low.ints pe12).more hR.size
  have pf13 := (hR.low.ints pf12).more hR.size
  clear ss12 st12 sx12 pa12 pb12 pc12 pd12 pe12 pf12
  obtain ⟨R2, hR1, rfl⟩ := hR.no B2.out
  clear hR hR1
  refine kh_list plainF_ok rfl ⟨_, Try.func9⟩ 4 5 (rest := []) rfl (by decide) (by kernel_rfl) rfl fun v3e hv3e => ?_
  simp only [List.drop_succ_cons, List.drop_zero, List.take_succ_cons, List.take_zero]
  go_wp2_with fail
  refine ⟨fun _ _ => rfl, kh_region_end ?_⟩
  have ss14 := hv3e.blk ss13
  have st14 := hv3e.blk st13
  have sx14 := hv3e.blk sx13
  have pa14 := hv3e.ints pa13
  rw [← hv3e.size] at pa14
  have pb14 := hv3e.ints pb13
  rw [← hv3e.size] at pb14
  have pc14 := hv3e.ints pc13
  rw [← hv3e.size] at pc14
  have pd14 := hv3e.ints pd13
  rw [← hv3e.size] at pd14
  have pe14 := hv3e.ints pe13
  rw [← hv3e.size] at pe14
  have pf14 := hv3e.ints pf13
  rw [← hv3e.size] at pf14
  clear ss13 st13 sx13 pa13 pb13 pc13 pd13 pe13 pf13
  clear hv3e
  refine kh_seq (kh_region ?_)
  refine kh_list plainF_ok rfl ⟨_, Try.func9⟩ 0 3 (rest := [3, 4, 5, 6, 7, 8]) rfl (by decide) (by kernel_rfl) rfl fun v4a hv4a => ?_
  simp only [List.drop_succ_cons, List.drop_zero, List.take_succ_cons, List.take_zero]
  have ca0 := (hv4a.blk sx14).cells 0
  have cb0 := (hv4a.blk sx14).cells 1
  simp at ca0 cb0
  go_wp2_with fail
  refine ⟨fun _ _ => rfl, ?_⟩
  have ss15 := hv4a.blk ss14
  have st15 := hv4a.blk st14
  have sx15 := hv4a.blk sx14
  have pa15 := hv4a.ints pa14
  rw [← hv4a.size] at pa15
  have pb15 := hv4a.ints pb14
  rw [← hv4a.size] at pb15
  have pc15 := hv4a.ints pc14
  rw [← hv4a.size] at pc15
  have pd15 := hv4a.ints pd14
  rw [← hv4a.size] at pd15
  have pe15 := hv4a.ints pe14
  rw [← hv4a.size] at pe15
  have pf15 := hv4a.ints pf14
  rw [← hv4a.size] at pf15
  clear ss14 st14 sx14 pa14 pb14 pc14 pd14 pe14 pf14
  clear ca0 cb0 hv4a
  refine kh_call (c := Try.f30.body.getD .skip) rfl rfl (by simp [base]) rfl Try.func30 (by kernel_rfl) rfl ?_
  simp only [Try.ntmps30, List.size_toArray, List.length_cons, List.length_nil, Nat.reduceAdd, Nat.reduceSub, Array.replicate_succ, Array.replicate_zero, List.push_toArray, List.append_toArray, List.nil_append, List.cons_append, List.map_toArray, List.map_cons, List.map_nil, Array.size_map]
  walk_nrm
  have zz := ss15.lt
  refine kh_read (W0 := W) (Post := YesP W) (va := (va + 1)) (vb := (va + 1)) (A := (some ⟨Q, 0, none⟩)) (B := (some ⟨Q, 0, none⟩)) (C := C) (xa := xb) (ws := ws) (xb := xb) (capa := xb.length) (capw := capw) (capb := xb.length) pf15 pf15 pc15 (Nat.le_refl _) hxl (Nat.le_refl _) hxl lw mw (by omega) (fun S4 u4b x4 hR => ?_)
  rw [Frame.finish_at]
  walk_nrm
  clear zz
  have ss16 := hR.low.blk ss15 ss15.lt
  have st16 := hR.low.blk st15 st15.lt
  have sx16 := hR.low.blk sx15 sx15.lt
  have pa16 := (hR.low.ints pa15).more hR.size
  have pb16 := (hR.low.ints pb15).more hR.size
  have pc16 := (hR.low.ints pc15).more hR.size
  have pd16 := (hR.low.ints pd15).more hR.size
  have pe16 := (hR.low.ints pe15).more hR.size
  have pf16 := (hR.low.ints pf15).more hR.size
  clear ss15 st15 sx15 pa15 pb15 pc15 pd15 pe15 pf15
  obtain ⟨R3, hR1, rfl⟩ := hR.no B3.out
  clear hR hR1
  refine kh_list plainF_ok rfl ⟨_, Try.func9⟩ 4 5 (rest := []) rfl (by decide) (by kernel_rfl) rfl fun v4e hv4e => ?_
  simp only [List.drop_succ_cons, List.drop_zero, List.take_succ_cons, List.take_zero]
  go_wp2_with fail
  refine ⟨fun _ _ => rfl, kh_region_end ?_⟩
  have ss17 := hv4e.blk ss16
  have st17 := hv4e.blk st16
  have sx17 := hv4e.blk sx16
  have pa17 := hv4e.ints pa16
  rw [← hv4e.size] at pa17
  have pb17 := hv4e.ints pb16
  rw [← hv4e.size] at pb17
  have pc17 := hv4e.ints pc16
  rw [← hv4e.size] at pc17
  have pd17 := hv4e.ints pd16
  rw [← hv4e.size] at pd17
  have pe17 := hv4e.ints pe16
  rw [← hv4e.size] at pe17
  have pf17 := hv4e.ints pf16
  rw [← hv4e.size] at pf17
  clear ss16 st16 sx16 pa16 pb16 pc16 pd16 pe16 pf16
  clear hv4e
  refine kh_piece plainF_ok rfl ⟨_, Try.func9⟩ (by kernel_rfl) rfl fun v30 hv30 => ?_
  have ss18 := hv30.blk ss17
  have st18 := hv30.blk st17
  have sx18 := hv30.blk sx17
  have pa18 := hv30.ints pa17
  rw [← hv30.size] at pa18
  have pb18 := hv30.ints pb17
  rw [← hv30.size] at pb18
  have pc18 := hv30.ints pc17
  rw [← hv30.size] at pc18
  have pd18 := hv30.ints pd17
  rw [← hv30.size] at pd18
  have pe18 := hv30.ints pe17
  rw [← hv30.size] at pe18
  have pf18 := hv30.ints pf17
  rw [← hv30.size] at pf18
  clear ss17 st17 sx17 pa17 pb17 pc17 pd17 pe17 pf17
  have zW : W.heap.size ≤ v30.heap.size := by have := ss18.lt; omega
  go_wp2_with fail
  refine (sameInts_same (some ⟨R, 0, none⟩) C ws ws.length capw v30 pd18 pc18 (Nat.le_refl _) hwl).mono ?_
  rintro e w31 ⟨rfl, hb⟩
  have L31 : Below W.heap.size v30 w31 := hb.mono zW
  go_wp2_with fail
  refine ⟨L31.low, fun todo => ?_⟩
  exact kh_end Try.func9 rfl rfl rfl (by kernel_rfl) (x := .bool true) (fun T d => by simp [results, Try.results9, go_sem, Frame.at]) fun w hA => ⟨rfl, Since.of hA⟩
end Go.Proofs.Ytlcjepgmmbdkmaa
