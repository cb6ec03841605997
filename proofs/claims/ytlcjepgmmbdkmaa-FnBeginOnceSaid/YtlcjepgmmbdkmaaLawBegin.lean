/-
  FnBegin, beside leavers.
-/
import Derived.Test.YtlcjepgmmbdkmaaBegin
import Derived.Test.YtlcjepgmmbdkmaaSame
set_option linter.unusedVariables false
namespace Go.Br
open Go.Br Go.Conc Go.RowKit Go.Proofs.Ytlcjepgmmbdkmaa
theorem Re.code {u v : World} (h : Re u v) {B : Nat} {A : Option Addr} {len : Nat} (k : Go.Proofs.Ytlcjepgmmbdkmaa.Code u B A len) : Go.Proofs.Ytlcjepgmmbdkmaa.Code v B A len := k.keep fun b o _ => h.cell _
theorem Low.cell {B : Nat} {u u' : World} (h : Low B u u') {b o : Nat} (hb : b < B) : u'.cell? ⟨b, o, none⟩ = u.cell? ⟨b, o, none⟩ := by simp [World.cell?, h b hb]
theorem Low.blk {B : Nat} {u u' : World} (h : Low B u u') {b : Nat} {T : TypeId} {c : Array Value} (k : Blk u b T c) (hb : b < B) : Blk u' b T c := by
  unfold Blk at k ⊢; rw [h b hb]; exact k
theorem Low.ints {B : Nat} {u u' : World} (h : Low B u u') {A : Option Addr} {xs : List Int} (k : IntRow u B A xs) : IntRow u' B A xs := k.keep fun b o hb => h.cell hb
end Go.Br
namespace Go.Proofs.Ytlcjepgmmbdkmaa
open Go.Br Go.Conc Go.RowKit
open Go.Proofs.Ytlcjepgmmbdkmaa.Ph (plainF plainF_ok NewAt kh_newSlot)
open Go.ConcM (OsLater)
set_option linter.unusedSimpArgs false
set_option linter.unusedVariables false

/-- What was there stands; time has passed. -/
structure Since (W w : World) : Prop where
  size : W.heap.size ≤ w.heap.size
  old : ∀ b, b < W.heap.size → w.heap[b]? = W.heap[b]?
  out : w.output = W.output
  tape : w.tape = W.tape
  os : OsLater W.os w.os
theorem Since.of {W w u : World} {S : Nat → Bool} (h : At W S w u) : Since W w := ⟨h.size, h.old, h.out, h.tape, h.os⟩
def YesP (W : World) (v : Value) (w : World) : Prop := v = .bool true ∧ Since W w

theorem code_start {W : World} {B : Nat} {A : Option Addr} {len : Nat} (h : Code W B A len) (T : Nat → Question → Nat) (d : Nat) : Code (pos (hid (fun _ => false) W) T d) B A len :=
  h.keep fun b o _ => by rw [cell_pos, cell_hid]; rfl

theorem allocB {B : Nat} {w0 w : World} (h : Below B w0 w) (hB : B ≤ w0.heap.size) (o : Obj) : Below B w0 (w.alloc o) := h.trans ((Fr.alloc (Below.refl w.heap.size w) o).mono (Nat.le_trans hB h.size))
theorem odd_next {ver : Int} (h : 0 ≤ ver) (hw : writtenB ver = false) : ((ver + 1) % 2 == 1) = true := by
  rw [← odd_of h] at hw
  have : ver % 2 ≠ 1 := by simpa using hw
  have : (ver + 1) % 2 = 1 := by omega
  simp [this]
set_option maxRecDepth 100000 in
set_option maxHeartbeats 8000000 in
theorem lawBegin (A : Option Addr) (len cap : Nat) (W : World) (hl : len ≤ cap) (hm : cap ≤ maxLen) (hc : Code W W.heap.size A len) :
    Fin_ Try.prog (YesP W) (solo (G (Frame.enter Try.prog 6 #[.slice A len cap] .normal) []) W) #[] := by
  refine kh_start (X := fun _ => False) fun T d => ?_
  have hC := code_start hc T d
  obtain ⟨u, hu⟩ : ∃ u, u = pos (hid (fun _ => false) W) T d := ⟨_, rfl⟩
  rw [← hu] at hC ⊢
  have hz : u.heap.size = W.heap.size := by rw [hu, pos_heap, hid_size]
  clear hu hc T d
  rw [enter_at _ Try.func6 rfl]
  simp only [Try.ntmps6, List.size_toArray, List.length_cons, List.length_nil, Nat.reduceAdd, Nat.reduceSub, Array.replicate_succ, Array.replicate_zero, List.push_toArray, List.append_toArray, List.nil_append, List.cons_append]
  refine kh_seq (kh_piece plainF_ok rfl ⟨_, Try.func6⟩ (by kernel_rfl) rfl fun v0 hv0 => ?_)
  have C0 := Lib.hid (hv0.code hC)
  have z0 := Lib.hid (hv0.size.trans hz)
  go_wp2_with fail
  refine ⟨fun _ _ => rfl, ?_⟩
  refine kh_seq (kh_piece plainF_ok rfl ⟨_, Try.func6⟩ (by kernel_rfl) rfl fun v1 hv1 => ?_)
  have C1 := Lib.hid (hv1.code C0.out)
  have z1 := Lib.hid (hv1.size.trans z0.out)
  by_cases hbig : (1048576 : Int) < (len : Int)
  · go_wp2_with fail
    refine ⟨fun _ _ => rfl, fun todo => ?_⟩
    exact kh_end Try.func6 rfl rfl rfl (by kernel_rfl) (x := .bool true) (fun T d => by simp [results, Try.results6, go_sem, Frame.at]) fun w hA => ⟨rfl, Since.of hA⟩
  go_wp2_with fail
  refine ⟨fun _ _ => rfl, ?_⟩
  clear hbig
  refine kh_seq (kh_piece plainF_ok rfl ⟨_, Try.func6⟩ (by kernel_rfl) rfl fun v2 hv2 => ?_)
  have C2 := hv2.code C1.out
  have z2 := hv2.size.trans z1.out
  clear C0 C1 z0 z1 hv1 hv0 hC hz
  rw [← z2] at C2
  go_wp2_with fail
  refine (drawBegin_any A len cap v2 hl hm C2).mono ?_
  rintro e w1 ⟨ver, A', cap', xs, rfl, hp, h1, h2, B1⟩
  clear C2 hl hm hv2
  go_wp2_with fail
  obtain ⟨u2, hu2⟩ : ∃ u2, u2 = w1.alloc (.cells #[.int .i64 ver, .slice A' xs.length cap'] 26) := ⟨_, rfl⟩
  obtain ⟨N, hN⟩ : ∃ N, N = w1.heap.size := ⟨_, rfl⟩
  rw [← hu2, ← hN]
  have s2 : Blk u2 N 26 #[.int .i64 ver, .slice A' xs.length cap'] := by rw [hu2, hN]; exact Blk.new _ _ _ rfl
  have p2 : IntRow u2 u2.heap.size A' xs := by rw [hu2]; exact hp.alloc _
  have L2 : Low W.heap.size v2 u2 := by rw [hu2, ← z2]; exact (Fr.alloc B1 _).low
  have zN : W.heap.size ≤ N := by rw [hN, ← z2]; exact B1.size
  have zu : N < u2.heap.size := s2.lt
  refine ⟨L2, ?_⟩
  clear L2 hu2 hN hp B1 z2 v2
  clear w1
  refine kh_seq (kh_region ?_)
  refine kh_list plainF_ok rfl ⟨_, Try.func6⟩ 0 1 (rest := [1, 2, 3, 4, 5, 6, 7]) rfl (by decide) (by kernel_rfl) rfl fun v3 hv3 => ?_
  simp only [List.drop_succ_cons, List.drop_zero, List.take_succ_cons, List.take_zero]
  have c0 := (hv3.blk s2).cells 0
  have c1 := (hv3.blk s2).cells 1
  simp at c0 c1
  go_wp2_with fail
  refine ⟨fun _ _ => rfl, ?_⟩
  have s3 := hv3.blk s2
  have p3 := hv3.ints p2
  rw [← hv3.size] at p3 zu
  clear s2 p2 c0 c1 hv3 u2
  refine kh_call (c := Try.f21.body.getD .skip) rfl rfl (by simp [base]) rfl Try.func21 (by kernel_rfl) rfl ?_
  simp only [Try.ntmps21, List.size_toArray, List.length_cons, List.length_nil, Nat.reduceAdd, Nat.reduceSub, Array.replicate_succ, Array.replicate_zero, List.push_toArray, List.append_toArray, List.nil_append, List.cons_append, List.map_toArray, List.map_cons, List.map_nil, Array.size_map]
  walk_nrm
  refine kh_begin (W0 := W) (Post := YesP W) (S := fun _ => false) (ver := ver) (A := A') (xs := xs) (cap := cap') p3 h1 h2 (by omega) (fun S' u4 v hR => ?_)
  rw [Frame.finish_at]
  walk_nrm
  have zR := hR.size
  have lR := hR.low
  have s4 := lR.blk s3 zu
  have p4 := (lR.ints p3).more zR
  have zu4 : N < u4.heap.size := s4.lt
  have LL : ∀ b, b < W.heap.size → True := fun _ _ => trivial
  cases hB : beginB ver xs
  · obtain rfl := hR.no hB
    have HB := Lib.hid hB
    clear hR hB LL lR zR s3 p3 zu
    clear v3
    refine kh_list plainF_ok rfl ⟨_, Try.func6⟩ 2 6 (rest := []) rfl (by decide) (by kernel_rfl) rfl fun v5 hv5 => ?_
    simp only [List.drop_succ_cons, List.drop_zero, List.take_succ_cons, List.take_zero]
    go_wp2_with fail
    have z5 := hv5.size
    refine ⟨fun b hb => by rw [Below.heap_alloc _ _ _ (by rw [z5]; omega)], kh_region_end ?_⟩
    have s5 := (hv5.blk s4).alloc (.cells #[.int .i64 0, .slice none 0 0] 26)
    have p5 := (hv5.ints p4)
    rw [← hv5.size] at p5
    replace p5 := p5.alloc (.cells #[.int .i64 0, .slice none 0 0] 26)
    have o5 : Blk (v5.alloc (.cells #[.int .i64 0, .slice none 0 0] 26)) v5.heap.size 26 #[.int .i64 0, .slice none 0 0] := Blk.new _ _ _ rfl
    obtain ⟨M, hM⟩ : ∃ M, M = v5.heap.size := ⟨_, rfl⟩
    rw [← z5] at zu4
    obtain ⟨u5, hu5⟩ : ∃ u5, u5 = v5.alloc (.cells #[.int .i64 0, .slice none 0 0] 26) := ⟨_, rfl⟩
    rw [← hu5] at s5 p5 o5 ⊢
    rw [← hM] at o5 zu4 ⊢
    clear hu5 hM z5 hv5 s4 p4
    clear v5 u4
    refine kh_piece plainF_ok rfl ⟨_, Try.func6⟩ (by kernel_rfl) rfl fun v6 hv6 => ?_
    have s6 := hv6.blk s5
    have o6 := hv6.blk o5
    have p6 := hv6.ints p5
    rw [← hv6.size] at p6
    clear s5 o5 p5 hv6
    clear u5
    have c0 := s6.cells 0; have c1 := s6.cells 1
    have d0 := o6.cells 0; have d1 := o6.cells 1
    simp at c0 c1 d0 d1
    go_wp2_with fail
    refine (specBegin ver A' xs cap' v6 p6 h1 h2).mono ?_
    rintro e w2 ⟨v', A2, c2, rfl, hb, hy, hn⟩
    obtain rfl := hn HB.out
    rw [HB.out]
    have q1 : M + 1 ≤ w2.heap.size := by have := (o6.below hb o6.lt).lt; omega
    have q2 : N + 1 ≤ w2.heap.size := by omega
    have q3 : M < w2.heap.size := by omega
    have q4 : N < w2.heap.size := by omega
    have d0 := (o6.below hb o6.lt).cells 0; have d1 := (o6.below hb o6.lt).cells 1
    simp at d0 d1
    have zW : W.heap.size ≤ v6.heap.size := by have := o6.lt; omega
    clear hy hn c0 c1 s6 p6 o6
    go_wp2_with (go_at_call 25; refine (sameSlot_same 0 none none [] 0 0 _ (IntRow.nil _ _ _) (IntRow.nil _ _ _) (Nat.le_refl _) (by omega)).mono ?_; rintro e w' ⟨rfl, hbx⟩; obtain ⟨dl, dk, rfl⟩ := more_of hbx; clear hbx)
    refine ⟨(show Below W.heap.size v6 _ by repeat' (first | (with_reducible exact Below.refl _ _) | (with_reducible exact hb.mono zW) | (with_reducible refine moreB ?_ (by omega) _ _) | (with_reducible refine Below.setCell ?_ ?_ _) | (with_reducible refine Fr.alloc ?_ _) | (with_reducible refine allocB ?_ (by omega) _) | (simp; done) | (simp; omega))).low, fun todo => ?_⟩
    exact kh_end Try.func6 rfl rfl rfl (by kernel_rfl) (x := .bool true) (fun T d => by simp [results, Try.results6, go_sem, Frame.at]) fun w hA => ⟨rfl, Since.of hA⟩
  · obtain ⟨R, hR1, rfl, hrow⟩ := hR.yes hB
    have hpar : slotB ver xs = true ∧ writtenB ver = false ∧ inB (ver + 1) 0 999999 = true := by
      unfold beginB at hB
      simpa using hB
    have rR : Blk u4 R 3 (xs.map iv).toArray := hrow
    have rI : IntRow u4 u4.heap.size (some ⟨R, 0, none⟩) xs := IntRow.of_blk rR
    have HB := Lib.hid hB
    have HP := Lib.hid hpar
    clear hR hB LL lR zR s3 p3 zu hpar hR1 hrow rR
    clear v3
    refine kh_list plainF_ok rfl ⟨_, Try.func6⟩ 2 6 (rest := []) rfl (by decide) (by kernel_rfl) rfl fun v5 hv5 => ?_
    simp only [List.drop_succ_cons, List.drop_zero, List.take_succ_cons, List.take_zero]
    go_wp2_with fail
    have z5 := hv5.size
    refine ⟨fun b hb => by rw [Below.heap_alloc _ _ _ (by rw [z5]; omega)], kh_region_end ?_⟩
    obtain ⟨u5, hu5⟩ : ∃ u5, u5 = v5.alloc (.cells #[.int .i64 (ver + 1), .slice (some ⟨R, 0, none⟩) xs.length xs.length] 26) := ⟨_, rfl⟩
    obtain ⟨M, hM⟩ : ∃ M, M = v5.heap.size := ⟨_, rfl⟩
    rw [← hu5, ← hM]
    have s5 : Blk u5 N 26 #[.int .i64 ver, .slice A' xs.length cap'] := by rw [hu5]; exact (hv5.blk s4).alloc _
    have p5 : IntRow u5 u5.heap.size A' xs := by
      have := hv5.ints p4
      rw [← hv5.size] at this
      rw [hu5]; exact this.alloc _
    have r5 : IntRow u5 u5.heap.size (some ⟨R, 0, none⟩) xs := by
      have := hv5.ints rI
      rw [← hv5.size] at this
      rw [hu5]; exact this.alloc _
    have o5 : Blk u5 M 26 #[.int .i64 (ver + 1), .slice (some ⟨R, 0, none⟩) xs.length xs.length] := by rw [hu5, hM]; exact Blk.new _ _ _ rfl
    rw [← z5, ← hM] at zu4
    clear hu5 hM z5 hv5 s4 p4 rI
    clear v5 u4
    refine kh_piece plainF_ok rfl ⟨_, Try.func6⟩ (by kernel_rfl) rfl fun v6 hv6 => ?_
    have s6 := hv6.blk s5
    have o6 := hv6.blk o5
    have p6 := hv6.ints p5
    have r6 := hv6.ints r5
    rw [← hv6.size] at p6 r6
    clear s5 o5 p5 r5 hv6
    clear u5
    have c0 := s6.cells 0; have c1 := s6.cells 1
    have d0 := o6.cells 0; have d1 := o6.cells 1
    simp at c0 c1 d0 d1
    go_wp2_with fail
    refine (specBegin ver A' xs cap' v6 p6 h1 h2).mono ?_
    rintro e w2 ⟨v', A2, c2, rfl, hb, hy, hn⟩
    obtain ⟨rfl, a1, a2, a3⟩ := hy HB.out
    rw [HB.out]
    have zW : W.heap.size ≤ v6.heap.size := by have := o6.lt; omega
    have s7 := (s6.below hb s6.lt).alloc (.cells #[.int .i64 (ver + 1), .slice A2 xs.length c2] 26)
    have o7 := (o6.below hb o6.lt).alloc (.cells #[.int .i64 (ver + 1), .slice A2 xs.length c2] 26)
    have t7 : Blk (w2.alloc (.cells #[.int .i64 (ver + 1), .slice A2 xs.length c2] 26)) w2.heap.size 26 #[.int .i64 (ver + 1), .slice A2 xs.length c2] := Blk.new _ _ _ rfl
    have p7 := (p6.mem hb).alloc (.cells #[.int .i64 (ver + 1), .slice A2 xs.length c2] 26)
    have r7 := (r6.mem hb).alloc (.cells #[.int .i64 (ver + 1), .slice A2 xs.length c2] 26)
    have a7 := a1.row.alloc (.cells #[.int .i64 (ver + 1), .slice A2 xs.length c2] 26)
    have L7 : Below W.heap.size v6 (w2.alloc (.cells #[.int .i64 (ver + 1), .slice A2 xs.length c2] 26)) := allocB (hb.mono zW) zW _
    have q1 := (o6.below hb o6.lt).lt
    have q2 := (s6.below hb s6.lt).lt
    have d0 := (o6.below hb o6.lt).cells 0; have d1 := (o6.below hb o6.lt).cells 1
    simp at d0 d1
    clear hy hn c0 c1 s6 p6 o6 r6 a1
    go_wp2_with fail
    refine (sameSlot_same (ver + 1) (some ⟨R, 0, none⟩) A2 xs xs.length c2 _ r7 a7 (Nat.le_refl _) (by omega)).mono ?_
    rintro e w8 ⟨rfl, hb8⟩
    have s8 := s7.below hb8 s7.lt
    have o8 := o7.below hb8 o7.lt
    have p8 := p7.mem hb8
    have r8 := r7.mem hb8
    have L8 : Below W.heap.size v6 w8 := L7.trans (hb8.mono (Nat.le_trans zW L7.size))
    clear s7 o7 t7 p7 r7 a7 L7 hb8 q1 q2 d0 d1 hb a2 a3
    have c0 := s8.cells 0; have c1 := s8.cells 1
    have d0 := o8.cells 0; have d1 := o8.cells 1
    simp at c0 c1 d0 d1
    go_wp2_with fail
    refine (slotImpl (ver + 1) (some ⟨R, 0, none⟩) xs xs.length w8 r8 (Nat.le_refl _) (by omega)).mono ?_
    rintro e w9 ⟨rfl, hb9⟩
    obtain ⟨hP1, hP2, hP3⟩ := HP.out
    obtain ⟨⟨v0', v1'⟩, n1, n6⟩ := slotB_cases hP1
    have hodd := odd_next v0' hP2
    have hnn : (0 : Int) ≤ ver + 1 := by omega
    have hwr : IntKind.i64.wrap (ver + 1) = ver + 1 := IntWalk.i64_in _ (by omega)
    rw [show slotB (ver + 1) xs = true by rw [slotB_next hP1]; exact hP3]
    have s9 := s8.below hb9 s8.lt
    have o9 := o8.below hb9 o8.lt
    have p9 := p8.mem hb9
    have r9 := r8.mem hb9
    have L9 : Below W.heap.size v6 w9 := L8.trans (hb9.mono (Nat.le_trans zW L8.size))
    clear s8 o8 p8 r8 L8 hb9 c0 c1 d0 d1 hP1 hP2 hP3
    have c0 := s9.cells 0; have c1 := s9.cells 1
    have d0 := o9.cells 0; have d1 := o9.cells 1
    simp at c0 c1 d0 d1
    go_wp2_with fail
    refine (sameInts_same (some ⟨R, 0, none⟩) A' xs xs.length cap' w9 r9 p9 (Nat.le_refl _) (by omega)).mono ?_
    rintro e w10 ⟨rfl, hb10⟩
    have L10 : Below W.heap.size v6 w10 := L9.trans (hb10.mono (Nat.le_trans zW L9.size))
    clear s9 o9 p9 r9 L9 hb10 c0 c1 d0 d1
    go_wp2_with fail
    refine ⟨L10.low, fun todo => ?_⟩
    exact kh_end Try.func6 rfl rfl rfl (by kernel_rfl) (x := .bool true) (fun T d => by simp [results, Try.results6, go_sem, Frame.at]) fun w hA => ⟨rfl, Since.of hA⟩
end Go.Proofs.Ytlcjepgmmbdkmaa
