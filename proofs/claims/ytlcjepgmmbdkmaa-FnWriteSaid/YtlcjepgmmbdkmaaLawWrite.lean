/-
  FnWrite, beside leavers.
-/
import Derived.Test.YtlcjepgmmbdkmaaLawBegin
import Derived.Test.YtlcjepgmmbdkmaaWrite
import Derived.Test.YtlcjepgmmbdkmaaDr
namespace Go.Proofs.Ytlcjepgmmbdkmaa
open Go.Br Go.Conc Go.RowKit
open Go.Proofs.Ytlcjepgmmbdkmaa.Ph (plainF plainF_ok NewAt kh_newSlot)
open Go.ConcM (OsLater)
set_option linter.unusedSimpArgs false
set_option linter.unusedVariables false

theorem slotB_set {ver : Int} {xs : List Int} {k : Nat} {word : Int} (h : slotB ver xs = true) (hw : inB word 0 999999 = true) : slotB ver (xs.set k word) = true := by
  unfold slotB wordsB at h ⊢
  simp only [Bool.and_eq_true, decide_eq_true_eq, List.all_eq_true, List.length_set] at h ⊢
  refine ⟨h.1, h.2.1, fun x hx => ?_⟩
  rcases List.mem_or_eq_of_mem_set hx with hm | rfl
  · exact h.2.2 x hm
  · exact hw

set_option maxRecDepth 100000 in
set_option maxHeartbeats 8000000 in
theorem lawWrite (A : Option Addr) (len cap : Nat) (W : World) (hl : len ≤ cap) (hm : cap ≤ maxLen) (hc : Code W W.heap.size A len) :
    Fin_ Try.prog (YesP W) (solo (G (Frame.enter Try.prog 8 #[.slice A len cap] .normal) []) W) #[] := by
  refine kh_start (X := fun _ => False) fun T d => ?_
  have hC := code_start hc T d
  obtain ⟨u, hu⟩ : ∃ u, u = pos (hid (fun _ => false) W) T d := ⟨_, rfl⟩
  rw [← hu] at hC ⊢
  have hz : u.heap.size = W.heap.size := by rw [hu, pos_heap, hid_size]
  clear hu hc T d
  rw [enter_at _ Try.func8 rfl]
  simp only [Try.ntmps8, List.size_toArray, List.length_cons, List.length_nil, Nat.reduceAdd, Nat.reduceSub, Array.replicate_succ, Array.replicate_zero, List.push_toArray, List.append_toArray, List.nil_append, List.cons_append]
  refine kh_seq (kh_piece plainF_ok rfl ⟨_, Try.func8⟩ (by kernel_rfl) rfl fun v0 hv0 => ?_)
  have C0 := Lib.hid (hv0.code hC)
  have z0 := Lib.hid (hv0.size.trans hz)
  go_wp2_with fail
  refine ⟨fun _ _ => rfl, ?_⟩
  refine kh_seq (kh_piece plainF_ok rfl ⟨_, Try.func8⟩ (by kernel_rfl) rfl fun v1 hv1 => ?_)
  have C1 := Lib.hid (hv1.code C0.out)
  have z1 := Lib.hid (hv1.size.trans z0.out)
  by_cases hbig : (1048576 : Int) < (len : Int)
  · go_wp2_with fail
    refine ⟨fun _ _ => rfl, fun todo => ?_⟩
    exact kh_end Try.func8 rfl rfl rfl (by kernel_rfl) (x := .bool true) (fun T d => by simp [results, Try.results8, go_sem, Frame.at]) fun w hA => ⟨rfl, Since.of hA⟩
  go_wp2_with fail
  refine ⟨fun _ _ => rfl, ?_⟩
  clear hbig
  refine kh_seq (kh_piece plainF_ok rfl ⟨_, Try.func8⟩ (by kernel_rfl) rfl fun v2 hv2 => ?_)
  have C2 := hv2.code C1.out
  have z2 := hv2.size.trans z1.out
  clear C0 C1 z0 z1 hv1 hv0 hC hz
  rw [← z2] at C2
  go_wp2_with fail
  refine (drawWrite_any A len cap v2 hl hm C2).mono ?_
  rintro e w1 ⟨ver, A', cap', xs, at_, word, rfl, hp, h1, h2, B1⟩
  clear C2 hl hm hv2
  go_wp2_with fail
  obtain ⟨u2, hu2⟩ : ∃ u2, u2 = w1.alloc (.cells #[.int .i64 ver, .slice A' xs.length cap'] 26) := ⟨_, rfl⟩
  obtain ⟨N, hN⟩ : ∃ N, N = w1.heap.size := ⟨_, rfl⟩
  rw [← hu2, ← hN]
  have ss0 : Blk u2 N 26 #[.int .i64 ver, .slice A' xs.length cap'] := by rw [hu2, hN]; exact Blk.new _ _ _ rfl
  have pa0 : IntRow u2 u2.heap.size A' xs := by rw [hu2]; exact hp.alloc _
  have L2 : Low W.heap.size v2 u2 := by rw [hu2, ← z2]; exact (Fr.alloc B1 _).low
  have zs : W.heap.size ≤ N := by rw [hN, ← z2]; exact B1.size
  refine ⟨L2, ?_⟩
  clear L2 hu2 hN hp B1 z2 v2
  clear w1
  refine kh_seq (kh_region ?_)
  refine kh_list plainF_ok rfl ⟨_, Try.func8⟩ 0 3 (rest := [3, 4, 5, 6, 7, 8, 9]) rfl (by decide) (by kernel_rfl) rfl fun v1a hv1a => ?_
  simp only [List.drop_succ_cons, List.drop_zero, List.take_succ_cons, List.take_zero]
  have ca0 := (hv1a.blk ss0).cells 0
  have cb0 := (hv1a.blk ss0).cells 1
  simp at ca0 cb0
  go_wp2_with fail
  refine ⟨fun _ _ => rfl, ?_⟩
  have ss1 := hv1a.blk ss0
  have pa1 := hv1a.ints pa0
  rw [← hv1a.size] at pa1
  clear ss0 pa0
  clear ca0 cb0 hv1a
  refine kh_call (c := Try.f16.body.getD .skip) rfl rfl (by simp [base]) rfl Try.func16 (by kernel_rfl) rfl ?_
  simp only [Try.ntmps16, List.size_toArray, List.length_cons, List.length_nil, Nat.reduceAdd, Nat.reduceSub, Array.replicate_succ, Array.replicate_zero, List.push_toArray, List.append_toArray, List.nil_append, List.cons_append, List.map_toArray, List.map_cons, List.map_nil, Array.size_map]
  walk_nrm
  have zz := ss1.lt
  refine kh_write (W0 := W) (Post := YesP W) (ver := ver) (A := A') (xs := xs) (cap := cap') (at_ := at_) (word := word) pa1 h1 h2 (by omega) (fun S1 u1b x1 hR => ?_)
  rw [Frame.finish_at]
  walk_nrm
  clear zz
  have ss2 := hR.low.blk ss1 ss1.lt
  have pa2 := (hR.low.ints pa1).more hR.size
  clear ss1 pa1
  obtain ⟨ys, hys⟩ : ∃ ys, ys = xs.set at_.toNat word := ⟨_, rfl⟩
  rw [← hys] at hR
  have HY := Lib.hid hys
  clear hys
  cases hB : writeB ver xs at_ word
  · obtain rfl := hR.no hB
    have HB := Lib.hid hB
    clear hR hB
    refine kh_list plainF_ok rfl ⟨_, Try.func8⟩ 4 6 (rest := []) rfl (by decide) (by kernel_rfl) rfl fun v1c hv1c => ?_
    simp only [List.drop_succ_cons, List.drop_zero, List.take_succ_cons, List.take_zero]
    go_wp2_with fail
    have zz := ss2.lt
    have zv := hv1c.size
    refine ⟨fun b hb => by rw [Below.heap_alloc _ _ _ (by omega)], kh_region_end ?_⟩
    clear zz zv
    have ss3 := hv1c.blk ss2
    have pa3 := hv1c.ints pa2
    rw [← hv1c.size] at pa3
    clear ss2 pa2
    obtain ⟨y2o, hy2o⟩ : ∃ y, y = v1c.alloc (.cells #[.int .i64 0, .slice none 0 0] 26) := ⟨_, rfl⟩
    obtain ⟨Mo, hMo⟩ : ∃ M, M = v1c.heap.size := ⟨_, rfl⟩
    rw [← hy2o, ← hMo]
    have zo : W.heap.size ≤ Mo := by rw [hMo]; have := ss3.lt; omega
    have ss4 := ss3.alloc (.cells #[.int .i64 0, .slice none 0 0] 26)
    have pa4 := pa3.alloc (.cells #[.int .i64 0, .slice none 0 0] 26)
    clear ss3 pa3
    have so4 : Blk y2o Mo 26 #[.int .i64 0, .slice none 0 0] := by rw [hy2o, hMo]; exact Blk.new _ _ _ rfl
    rw [← hy2o] at ss4
    rw [← hy2o] at pa4
    clear hy2o hMo
    clear hv1c
    refine kh_seq (kh_piece plainF_ok rfl ⟨_, Try.func8⟩ (by kernel_rfl) rfl fun v6 hv6 => ?_)
    have ss5 := hv6.blk ss4
    have so5 := hv6.blk so4
    have pa5 := hv6.ints pa4
    rw [← hv6.size] at pa5
    clear ss4 so4 pa4
    have ca0 := ss5.cells 0
    have cb0 := ss5.cells 1
    have ca1 := so5.cells 0
    have cb1 := so5.cells 1
    simp at ca0 cb0 ca1 cb1
    go_wp2_with fail
    refine (specWrite ver at_ word A' xs cap' v6 pa5 h1 h2).mono ?_
    rintro e w2 ⟨v', A2, c2, rfl, hb, hy, hn⟩
    obtain rfl := hn HB.out
    rw [HB.out]
    have zW : W.heap.size ≤ v6.heap.size := by have := ss5.lt; omega
    clear hy hn ca0 cb0 ca1 cb1
    have ss6 := ss5.below hb ss5.lt
    have so6 := so5.below hb so5.lt
    have pa6 := pa5.mem hb
    clear ss5 so5 pa5
    have L7 : Below W.heap.size v6 w2 := hb.mono zW
    clear hb
    have ca0 := ss6.cells 0
    have cb0 := ss6.cells 1
    have ca1 := so6.cells 0
    have cb1 := so6.cells 1
    simp at ca0 cb0 ca1 cb1
    go_wp2_with fail
    clear ca0 cb0 ca1 cb1
    refine ⟨(allocB L7 zW _).low, ?_⟩
    clear L7 zW hv6
    obtain ⟨y2t, hy2t⟩ : ∃ y, y = w2.alloc (.cells #[.int .i64 0, .slice none 0 0] 26) := ⟨_, rfl⟩
    obtain ⟨Mt, hMt⟩ : ∃ M, M = w2.heap.size := ⟨_, rfl⟩
    rw [← hy2t, ← hMt]
    have zt : W.heap.size ≤ Mt := by rw [hMt]; have := ss6.lt; omega
    have ss7 := ss6.alloc (.cells #[.int .i64 0, .slice none 0 0] 26)
    have so7 := so6.alloc (.cells #[.int .i64 0, .slice none 0 0] 26)
    have pa7 := pa6.alloc (.cells #[.int .i64 0, .slice none 0 0] 26)
    clear ss6 so6 pa6
    have st7 : Blk y2t Mt 26 #[.int .i64 0, .slice none 0 0] := by rw [hy2t, hMt]; exact Blk.new _ _ _ rfl
    rw [← hy2t] at ss7
    rw [← hy2t] at so7
    rw [← hy2t] at pa7
    clear hy2t hMt
    refine kh_seq (kh_piece plainF_ok rfl ⟨_, Try.func8⟩ (by kernel_rfl) rfl fun v8 hv8 => ?_)
    have ss8 := hv8.blk ss7
    have so8 := hv8.blk so7
    have st8 := hv8.blk st7
    have pa8 := hv8.ints pa7
    rw [← hv8.size] at pa8
    clear ss7 so7 st7 pa7
    have ca0 := ss8.cells 0
    have cb0 := ss8.cells 1
    have ca1 := so8.cells 0
    have cb1 := so8.cells 1
    have ca2 := st8.cells 0
    have cb2 := st8.cells 1
    simp at ca0 cb0 ca1 cb1 ca2 cb2
    have zW : W.heap.size ≤ v8.heap.size := by have := ss8.lt; omega
    have q0 := ss8.lt
    have q1 := so8.lt
    have q2 := st8.lt
    go_wp2_with (go_at_call 25; refine (sameSlot_same 0 none none [] 0 0 _ (IntRow.nil _ _ _) (IntRow.nil _ _ _) (Nat.le_refl _) (by omega)).mono ?_; rintro e w' ⟨rfl, hbx⟩; obtain ⟨dl, dk, rfl⟩ := more_of hbx; clear hbx)
    refine ⟨(show Below W.heap.size v8 _ by repeat' (first | (with_reducible exact Below.refl _ _) | (with_reducible refine moreB ?_ (by omega) _ _) | (with_reducible refine Below.setCell ?_ ?_ _) | (with_reducible refine Fr.alloc ?_ _) | (with_reducible refine allocB ?_ (by omega) _) | (simp; done) | (simp; omega))).low, fun todo => ?_⟩
    exact kh_end Try.func8 rfl rfl rfl (by kernel_rfl) (x := .bool true) (fun T d => by simp [results, Try.results8, go_sem, Frame.at]) fun w hA => ⟨rfl, Since.of hA⟩
  obtain ⟨R, hR1, rfl, hrow⟩ := hR.yes hB
  have pb2 : IntRow u1b u1b.heap.size (some ⟨R, 0, none⟩) ys := IntRow.of_blk (show Blk u1b R 3 (ys.map iv).toArray from hrow)
  have HB := Lib.hid hB
  clear hR hB hR1 hrow
  refine kh_list plainF_ok rfl ⟨_, Try.func8⟩ 4 6 (rest := []) rfl (by decide) (by kernel_rfl) rfl fun v1d hv1d => ?_
  simp only [List.drop_succ_cons, List.drop_zero, List.take_succ_cons, List.take_zero]
  go_wp2_with fail
  have zz := ss2.lt
  have zv := hv1d.size
  refine ⟨fun b hb => by rw [Below.heap_alloc _ _ _ (by omega)], kh_region_end ?_⟩
  clear zz zv
  have ss3 := hv1d.blk ss2
  have pa3 := hv1d.ints pa2
  rw [← hv1d.size] at pa3
  have pb3 := hv1d.ints pb2
  rw [← hv1d.size] at pb3
  clear ss2 pa2 pb2
  obtain ⟨y1, hy1⟩ : ∃ y, y = v1d.alloc (.cells #[.int .i64 ver, .slice (some ⟨R, 0, none⟩) ys.length ys.length] 26) := ⟨_, rfl⟩
  obtain ⟨Mo, hMo⟩ : ∃ M, M = v1d.heap.size := ⟨_, rfl⟩
  rw [← hy1, ← hMo]
  have zo : W.heap.size ≤ Mo := by rw [hMo]; have := ss3.lt; omega
  have ss4 := ss3.alloc (.cells #[.int .i64 ver, .slice (some ⟨R, 0, none⟩) ys.length ys.length] 26)
  have pa4 := pa3.alloc (.cells #[.int .i64 ver, .slice (some ⟨R, 0, none⟩) ys.length ys.length] 26)
  have pb4 := pb3.alloc (.cells #[.int .i64 ver, .slice (some ⟨R, 0, none⟩) ys.length ys.length] 26)
  clear ss3 pa3 pb3
  have so4 : Blk y1 Mo 26 #[.int .i64 (ver), .slice (some ⟨R, 0, none⟩) ys.length ys.length] := by rw [hy1, hMo]; exact Blk.new _ _ _ rfl
  rw [← hy1] at ss4
  rw [← hy1] at pa4
  rw [← hy1] at pb4
  clear hy1 hMo
  clear hv1d
  refine kh_seq (kh_piece plainF_ok rfl ⟨_, Try.func8⟩ (by kernel_rfl) rfl fun v6 hv6 => ?_)
  have ss5 := hv6.blk ss4
  have so5 := hv6.blk so4
  have pa5 := hv6.ints pa4
  rw [← hv6.size] at pa5
  have pb5 := hv6.ints pb4
  rw [← hv6.size] at pb5
  clear ss4 so4 pa4 pb4
  have ca0 := ss5.cells 0
  have cb0 := ss5.cells 1
  have ca1 := so5.cells 0
  have cb1 := so5.cells 1
  simp at ca0 cb0 ca1 cb1
  go_wp2_with fail
  refine (specWrite ver at_ word A' xs cap' v6 pa5 h1 h2).mono ?_
  rintro e w2 ⟨v', A2, c2, rfl, hb, hy, hn⟩
  rw [← HY.out] at hy
  obtain ⟨rfl, a1, a2, a3⟩ := hy HB.out
  rw [HB.out]
  have zW : W.heap.size ≤ v6.heap.size := by have := ss5.lt; omega
  clear hn hy ca0 cb0 ca1 cb1
  have ss6 := ss5.below hb ss5.lt
  have so6 := so5.below hb so5.lt
  have pa6 := pa5.mem hb
  have pb6 := pb5.mem hb
  clear ss5 so5 pa5 pb5
  have pc6 := a1.row
  have L7 : Below W.heap.size v6 w2 := hb.mono zW
  clear hb a1
  have ca0 := ss6.cells 0
  have cb0 := ss6.cells 1
  have ca1 := so6.cells 0
  have cb1 := so6.cells 1
  simp at ca0 cb0 ca1 cb1
  go_wp2_with fail
  clear ca0 cb0 ca1 cb1
  refine ⟨(allocB L7 zW _).low, ?_⟩
  clear L7 zW hv6
  obtain ⟨y2, hy2⟩ : ∃ y, y = w2.alloc (.cells #[.int .i64 ver, .slice A2 ys.length c2] 26) := ⟨_, rfl⟩
  obtain ⟨Mt, hMt⟩ : ∃ M, M = w2.heap.size := ⟨_, rfl⟩
  rw [← hy2, ← hMt]
  have zt : W.heap.size ≤ Mt := by rw [hMt]; have := ss6.lt; omega
  have ss7 := ss6.alloc (.cells #[.int .i64 ver, .slice A2 ys.length c2] 26)
  have so7 := so6.alloc (.cells #[.int .i64 ver, .slice A2 ys.length c2] 26)
  have pa7 := pa6.alloc (.cells #[.int .i64 ver, .slice A2 ys.length c2] 26)
  have pb7 := pb6.alloc (.cells #[.int .i64 ver, .slice A2 ys.length c2] 26)
  have pc7 := pc6.alloc (.cells #[.int .i64 ver, .slice A2 ys.length c2] 26)
  clear ss6 so6 pa6 pb6 pc6
  have st7 : Blk y2 Mt 26 #[.int .i64 (ver), .slice A2 ys.length c2] := by rw [hy2, hMt]; exact Blk.new _ _ _ rfl
  rw [← hy2] at ss7
  rw [← hy2] at so7
  rw [← hy2] at pa7
  rw [← hy2] at pb7
  rw [← hy2] at pc7
  clear hy2 hMt
  refine kh_seq (kh_piece plainF_ok rfl ⟨_, Try.func8⟩ (by kernel_rfl) rfl fun v8 hv8 => ?_)
  have ss8 := hv8.blk ss7
  have so8 := hv8.blk so7
  have st8 := hv8.blk st7
  have pa8 := hv8.ints pa7
  rw [← hv8.size] at pa8
  have pb8 := hv8.ints pb7
  rw [← hv8.size] at pb8
  have pc8 := hv8.ints pc7
  rw [← hv8.size] at pc8
  clear ss7 so7 st7 pa7 pb7 pc7
  have ca0 := ss8.cells 0
  have cb0 := ss8.cells 1
  have ca1 := so8.cells 0
  have cb1 := so8.cells 1
  have ca2 := st8.cells 0
  have cb2 := st8.cells 1
  simp at ca0 cb0 ca1 cb1 ca2 cb2
  have zW : W.heap.size ≤ v8.heap.size := by have := ss8.lt; omega
  have q0 := ss8.lt
  have q1 := so8.lt
  have q2 := st8.lt
  go_wp2_with fail
  refine (sameSlot_same (ver) (some ⟨R, 0, none⟩) A2 ys ys.length c2 _ pb8 pc8 (Nat.le_refl _) (by omega)).mono ?_
  rintro e w9 ⟨rfl, hb⟩
  clear ca0 cb0 ca1 cb1 ca2 cb2
  have ss9 := ss8.below hb ss8.lt
  have so9 := so8.below hb so8.lt
  have st9 := st8.below hb st8.lt
  have pa9 := pa8.mem hb
  have pb9 := pb8.mem hb
  have pc9 := pc8.mem hb
  clear ss8 so8 st8 pa8 pb8 pc8
  have L9 : Below W.heap.size v8 w9 := hb.mono zW
  clear hb q0 q1 q2
  have ca0 := ss9.cells 0
  have cb0 := ss9.cells 1
  have ca1 := so9.cells 0
  have cb1 := so9.cells 1
  have ca2 := st9.cells 0
  have cb2 := st9.cells 1
  simp at ca0 cb0 ca1 cb1 ca2 cb2
  have q0 := ss9.lt
  have q1 := so9.lt
  have q2 := st9.lt
  go_wp2_with fail
  clear ca0 cb0 ca1 cb1 ca2 cb2 q0 q1 q2
  refine ⟨L9.low, ?_⟩
  clear L9 hv8 zW v8
  have hB := HB.out
  have hS : slotB ver xs = true ∧ inB word 0 999999 = true ∧ 0 ≤ at_ ∧ at_ < (xs.length : Int) := by
    unfold writeB at hB
    simp at hB
    exact ⟨hB.1, hB.2.1, hB.2.2.1, hB.2.2.2.1⟩
  obtain ⟨k, rfl⟩ : ∃ k : Nat, at_ = (k : Int) := ⟨at_.toNat, by omega⟩
  have hk : k < xs.length := by omega
  have hyl : ys.length = xs.length := by rw [HY.out]; simp
  have HS := Lib.hid (show slotB ver ys = true by rw [HY.out]; exact slotB_set hS.1 hS.2.1)
  have HYK := Lib.hid (show ys[k]? = some word by rw [HY.out]; simp [hk])
  have HYN := Lib.hid (show ∀ i, i ≠ k → ys[i]? = xs[i]? from fun i hi => by rw [HY.out, show (k : Int).toNat = k from rfl, List.getElem?_set, if_neg (fun e => hi e.symm)])
  have hxl : xs.length ≤ 9223372036854775807 := by omega
  have Hyl := Lib.hid hyl
  clear hB hS HY hyl
  refine kh_piece plainF_ok rfl ⟨_, Try.func8⟩ (by kernel_rfl) rfl fun vL hvL => ?_
  have ss10 := hvL.blk ss9
  have so10 := hvL.blk so9
  have st10 := hvL.blk st9
  have pa10 := hvL.ints pa9
  rw [← hvL.size] at pa10
  have pb10 := hvL.ints pb9
  rw [← hvL.size] at pb10
  have pc10 := hvL.ints pc9
  rw [← hvL.size] at pc10
  clear ss9 so9 st9 pa9 pb9 pc9
  have ca0 := ss10.cells 0
  have cb0 := ss10.cells 1
  have ca1 := so10.cells 0
  have cb1 := so10.cells 1
  simp at ca0 cb0 ca1 cb1
  have zW : W.heap.size ≤ vL.heap.size := by have := ss10.lt; omega
  go_wp2_with fail
  clear ca0 cb0 ca1 cb1
  go_loopw [10] (fun c wr => ∃ i : Nat, i ≤ xs.length ∧ c = .int .i64 i ∧ Below vL.heap.size vL wr) (fun c _ => xs.length - (intOf c).toNat)
  case atStart => exact ⟨0, Nat.zero_le _, rfl, Below.refl _ _⟩
  case round =>
    obtain ⟨i, hi, rfl, hbel⟩ := hrel
    have ss11 := ss10.below hbel ss10.lt
    have so11 := so10.below hbel so10.lt
    have st11 := st10.below hbel st10.lt
    have pa11 := pa10.mem hbel
    have pb11 := pb10.mem hbel
    have pc11 := pc10.mem hbel
    have ca0 := ss11.cells 0
    have cb0 := ss11.cells 1
    have ca1 := so11.cells 0
    have cb1 := so11.cells 1
    simp at ca0 cb0 ca1 cb1
    have q0 := ss11.lt
    have q1 := so11.lt
    have qq0 : N + 1 ≤ wr.heap.size := ss11.lt
    have qq1 : Mo + 1 ≤ wr.heap.size := so11.lt
    by_cases hlt : i < xs.length
    · have i0 : (0 : Int) ≤ (i : Int) := by omega
      have i1 : (i : Int) < (xs.length : Int) := by omega
      have i2 : (i : Int) < (ys.length : Int) := by have := Hyl.out; omega
      obtain ⟨x, hx⟩ : ∃ x, xs[i]? = some x := ⟨xs[i], List.getElem?_eq_getElem hlt⟩
      obtain ⟨b1, off1, rfl, hb1, hrow1⟩ := pa11 (by omega)
      obtain ⟨b2, off2, hA2, hb2, hrow2⟩ := pb11 (by have := Hyl.out; omega)
      injection hA2 with hA2
      injection hA2 with e1 e2
      subst e1
      subst e2
      have r1 := hrow1 i x hx
      have hb1r : b1 + 1 ≤ wr.heap.size := hb1
      have hb2r : R + 1 ≤ wr.heap.size := hb2
      by_cases hik : i = k
      · have hne : ((i : Int) != (k : Int)) = false := by rw [hik]; simp
        clear r1 hrow1 hrow2
        go_wp2_with fail
        refine wp_region_in (Mem wr) (by kernel_rfl) (by kernel_rfl) (Mem.drew wr) ?_
        intro hne_
        repeat (go_big_quiet_step ((fail)))
        refine wpQuiet_nil ?_
        rintro ⟨w1, ok1⟩
        have B1 := Fr.step hbel ok1
        clear hne_
        go_wp2_with fail
        go_roundw
        case rel => first | exact ⟨i + 1, by omega, by go_num, B1⟩ | ((repeat apply Exists.intro); exact ⟨⟨i + 1, by omega, by go_num, B1⟩, rfl⟩)
        case measure => simp [intOf]; omega
      · have hne : ((i : Int) != (k : Int)) = true := by simp; omega
        have r2 := hrow2 i x (by rw [HYN.out i hik]; exact hx)
        rw [Nat.zero_add] at r2
        have hxx : (x != x) = false := by simp
        clear hrow1 hrow2
        go_wp2_with fail
        refine wp_region_in (Mem wr) (by kernel_rfl) (by kernel_rfl) (Mem.drew wr) ?_
        intro hne_
        repeat (go_big_quiet_step ((fail)))
        refine wpQuiet_nil ?_
        rintro ⟨w1, ok1⟩
        have B1 := Fr.step hbel ok1
        clear hne_
        go_wp2_with fail
        go_roundw
        case rel => first | exact ⟨i + 1, by omega, by go_num, B1⟩ | ((repeat apply Exists.intro); exact ⟨⟨i + 1, by omega, by go_num, B1⟩, rfl⟩)
        case measure => simp [intOf]; omega
    · obtain rfl : i = xs.length := by omega
      have LL : Below W.heap.size vL wr := hbel.mono zW
      go_wp2_with fail
      refine (slotImpl ver (some ⟨R, 0, none⟩) ys ys.length wr pb11 (Nat.le_refl _) (by have := Hyl.out; omega)).mono ?_
      rintro e w31 ⟨rfl, hb⟩
      rw [HS.out]
      clear ca0 cb0 ca1 cb1 q0 q1 qq0 qq1
      have ss12 := ss11.below hb ss11.lt
      have so12 := so11.below hb so11.lt
      have st12 := st11.below hb st11.lt
      have pa12 := pa11.mem hb
      have pb12 := pb11.mem hb
      have pc12 := pc11.mem hb
      have L31 : Below W.heap.size vL w31 := LL.trans (hb.mono (Nat.le_trans zW hbel.size))
      have ca0 := ss12.cells 0
      have cb0 := ss12.cells 1
      have ca1 := so12.cells 0
      have cb1 := so12.cells 1
      simp at ca0 cb0 ca1 cb1
      obtain ⟨b2, off2, hA2, hb2, hrow2⟩ := pb12 (by have := Hyl.out; omega)
      injection hA2 with hA2
      injection hA2 with e1 e2
      subst e1
      subst e2
      have r2 := hrow2 k word HYK.out
      rw [Nat.zero_add] at r2
      have i0 : (0 : Int) ≤ (k : Int) := by omega
      have i1 : (k : Int) < (ys.length : Int) := by have := Hyl.out; omega
      have hle : ((ys.length : Int) == (xs.length : Int)) = true := by rw [Hyl.out]; simp
      go_wp2_with fail
      refine ⟨L31.low, fun todo => ?_⟩
      exact kh_end Try.func8 rfl rfl rfl (by kernel_rfl) (x := .bool true) (fun T d => by simp [results, Try.results8, go_sem, Frame.at]) fun w hA => ⟨rfl, Since.of hA⟩
end Go.Proofs.Ytlcjepgmmbdkmaa
