/-
  SlotBegin, called beside leavers.
-/
import Derived.Test.YtlcjepgmmbdkmaaSlk
namespace Go.Proofs.Ytlcjepgmmbdkmaa
open Go.Br Go.Conc Go.RowKit
open Go.Proofs.Ytlcjepgmmbdkmaa.Ph (plainF plainF_ok NewAt kh_newSlot)
set_option linter.unusedSimpArgs false
set_option linter.unusedVariables false
section
variable {W0 : World} {Post : Value → World → Prop} {S : Nat → Bool} {X : Addr → Prop} {ver : Int} {xs : List Int} {A : Option Addr} {cap : Nat} {caller : Frame} {cs : List Frame}

set_option maxRecDepth 100000 in
set_option maxHeartbeats 4000000 in
theorem kh_begin {u : World} (hp : IntRow u u.heap.size A xs) (hl : xs.length ≤ cap) (hm : cap ≤ 9223372036854775807) (hW : W0.heap.size ≤ u.heap.size)
    (h : ∀ S' u' v, ResI (beginB ver xs) (ver + 1) xs u u' v → Kh Try.prog W0 Post S' (fun _ => False) (G (caller.finish v) cs) u') :
    Kh Try.prog W0 Post S X (G ((base 21).at ⟨#[.agg #[.int .i64 ver, .slice A xs.length cap], undef, undef, undef, undef, undef, undef, undef, undef, undef, undef, undef, undef, undef, undef, undef, undef, undef, undef, undef, undef, undef, undef, undef, undef], []⟩ [.code (Try.f21.body.getD .skip)]) (caller :: cs)) u := by
  refine kh_forget ?_
  simp only [Try.f21, Option.getD_some]
  refine kh_seq (kh_piece plainF_ok rfl ⟨_, Try.func21⟩ (by kernel_rfl) rfl fun v hv => ?_)
  have e0 := hv.heap
  have p0 := hv.ints hp
  go_wp2_with fail
  obtain ⟨N, hN⟩ : ∃ N, N = u.heap.size := ⟨_, rfl⟩
  rw [← hN] at p0 hW ⊢
  have hz0 : v.heap.size = N := by rw [e0, hN]
  obtain ⟨u1, hu1⟩ : ∃ u1, u1 = (v.alloc (.cells #[.int .i64 ver, .slice A xs.length cap] 26)).alloc (.cells #[.int .i64 0, .slice none 0 0] 26) := ⟨_, rfl⟩
  rw [← hu1]
  have l1 : Low N v u1 := fun b hb => by
    rw [hu1, Below.heap_alloc _ _ _ (by simp; omega), Below.heap_alloc _ _ _ (by omega)]
  have b1 : Blk u1 N 26 #[.int .i64 ver, .slice A xs.length cap] := by rw [hu1]; exact (Blk.new _ _ _ hz0.symm).alloc _
  have b2 : Blk u1 (N + 1) 26 #[.int .i64 0, .slice none 0 0] := by rw [hu1]; exact Blk.new _ _ _ (by simp [hz0])
  have z1 : u1.heap.size = N + 2 := by rw [hu1]; simp [hz0]
  have p1 : IntRow u1 u1.heap.size A xs := by
    rw [hu1]; rw [← hz0] at p0; exact (p0.alloc _).alloc _
  refine ⟨l1.less hW, ?_⟩
  have l0 : Low N u u1 := Low.comp (show Low N u v from hN ▸ hv.below) l1
  have HN := Lib.hid hN
  clear hN
  clear hu1 e0 l1 p0 hv hz0 v hp
  have k1 : N + 1 ≤ u1.heap.size := by omega
  refine kh_seq (kh_piece plainF_ok rfl ⟨_, Try.func21⟩ (by kernel_rfl) rfl fun v hv => ?_)
  have p2 := hv.ints p1
  rw [← hv.size] at p2
  have c1 := (hv.blk b1).cells 0
  have c2 := (hv.blk b1).cells 1
  have c3 := (hv.blk b2).cells 0
  have c4 := (hv.blk b2).cells 1
  have c5 := (hv.blk b2).free
  have zv : v.heap.size = N + 2 := by rw [hv.size, z1]
  simp at c1 c2 c3 c4
  have q1 : N + 1 ≤ v.heap.size := by omega
  have q2 : N + 1 + 1 ≤ v.heap.size := by omega
  cases h1 : slotB ver xs
  · have H := Lib.hid (show beginB ver xs = false by unfold beginB; rw [h1]; rfl)
    have H1 := Lib.hid h1
    clear h1
    go_wp2_with (go_at_call 26; refine (slotImpl _ _ _ _ _ p2 hl hm).mono ?_; rintro e w' ⟨rfl, hb⟩; obtain ⟨dl, dk, rfl⟩ := more_of hb; clear hb; rw [H1.out])
    refine slotOut (N := N) (v := v) (R := N + 1) (x := .int .i64 0) (y := .slice none 0 0) (t := false) (fun _ => Try.func21) (fun _ => rfl) (fun _ => rfl) (fun _ => rfl) rfl (fun _ => rfl) (fun _ => rfl) ?_ ?_ hW (h S _ _ (ResI.none HN.out l0 hv (by omega) ?_ H.out))
    · repeat' (first | (with_reducible exact Below.refl _ _) | (with_reducible refine moreB ?_ (by omega) _ _) | (with_reducible refine Below.setCell ?_ ?_ _) | (with_reducible refine Fr.alloc ?_ _) | (simp; done) | (simp; omega))
    · repeat' (first | exact (((hv.blk b2).set_ 0 _).set_ 1 _) | (refine Blk.below ?_ more_below (by simp; omega)))
    · repeat' (first | (with_reducible exact Below.refl _ _) | (with_reducible refine moreB ?_ (by omega) _ _) | (with_reducible refine Below.setCell ?_ ?_ _) | (with_reducible refine Fr.alloc ?_ _) | (simp; done) | (simp; omega))
  obtain ⟨⟨v0, v1⟩, n1, n6⟩ := slotB_cases h1
  cases h2 : writtenB ver
  · cases h3 : inB (ver + 1) 0 999999
    · have H := Lib.hid (show beginB ver xs = false by unfold beginB; rw [h1, h2, h3]; rfl)
      have H1 := Lib.hid h1
      have H2 := Lib.hid h2
      have H3 := Lib.hid h3
      clear h1 h2 h3
      have hwr : IntKind.i64.wrap (ver + 1) = ver + 1 := (by refine IntWalk.i64_in _ ?_; omega)
      go_wp2_with (first | (go_at_call 26; refine (slotImpl _ _ _ _ _ p2 hl hm).mono ?_; rintro e w' ⟨rfl, hb⟩; obtain ⟨dl, dk, rfl⟩ := more_of hb; clear hb; rw [H1.out]) | (go_at_call 41; refine (written_any _ _ _).mono ?_; rintro e w' ⟨rfl, hb⟩; obtain ⟨dl2, dk2, rfl⟩ := more_of hb; clear hb; rw [H2.out]) | (go_at_call 40; refine (wideValid_any _ _).mono ?_; rintro e w' ⟨rfl, rfl⟩; rw [H3.out]))
      refine slotOut (N := N) (v := v) (R := N + 1) (x := .int .i64 0) (y := .slice none 0 0) (t := false) (fun _ => Try.func21) (fun _ => rfl) (fun _ => rfl) (fun _ => rfl) rfl (fun _ => rfl) (fun _ => rfl) ?_ ?_ hW (h S _ _ (ResI.none HN.out l0 hv (by omega) ?_ H.out))
      · repeat' (first | (with_reducible exact Below.refl _ _) | (with_reducible refine moreB ?_ (by omega) _ _) | (with_reducible refine Below.setCell ?_ ?_ _) | (with_reducible refine Fr.alloc ?_ _) | (simp; done) | (simp; omega))
      · repeat' (first | exact (((hv.blk b2).set_ 0 _).set_ 1 _) | (refine Blk.below ?_ more_below (by simp; omega)))
      · repeat' (first | (with_reducible exact Below.refl _ _) | (with_reducible refine moreB ?_ (by omega) _ _) | (with_reducible refine Below.setCell ?_ ?_ _) | (with_reducible refine Fr.alloc ?_ _) | (simp; done) | (simp; omega))
    · have H := Lib.hid (show beginB ver xs = true by unfold beginB; rw [h1, h2, h3]; rfl)
      have H1 := Lib.hid h1
      have H2 := Lib.hid h2
      have H3 := Lib.hid h3
      clear h1 h2 h3
      have hwr : IntKind.i64.wrap (ver + 1) = ver + 1 := (by refine IntWalk.i64_in _ ?_; omega)
      go_wp2_with (first | (go_at_call 26; refine (slotImpl _ _ _ _ _ p2 hl hm).mono ?_; rintro e w' ⟨rfl, hb⟩; obtain ⟨dl, dk, rfl⟩ := more_of hb; clear hb; rw [H1.out]) | (go_at_call 41; refine (written_any _ _ _).mono ?_; rintro e w' ⟨rfl, hb⟩; obtain ⟨dl2, dk2, rfl⟩ := more_of hb; clear hb; rw [H2.out]) | (go_at_call 40; refine (wideValid_any _ _).mono ?_; rintro e w' ⟨rfl, rfl⟩; rw [H3.out]))
      obtain ⟨W, hWW⟩ : ∃ W, W = more v (dl ++ dl2) dk2 := ⟨_, rfl⟩
      rw [← hWW]
      have hbel : Below v.heap.size v W := by rw [hWW]; exact more_below
      have hlW : Low N v W := (hbel.mono (by omega)).low
      have bW1 : Blk W N 26 #[.int .i64 ver, .slice A xs.length cap] := (hv.blk b1).below hbel (by omega)
      have bW2 : Blk W (N + 1) 26 #[.int .i64 0, .slice none 0 0] := (hv.blk b2).below hbel (by omega)
      have pW : IntRow W W.heap.size A xs := p2.mem hbel
      have zW : N + 2 ≤ W.heap.size := by have := hbel.size; omega
      have lW : Low N u W := l0.comp (Low.comp (fun b _ => by rw [hv.heap]) hlW)
      refine ⟨hlW.less hW, ?_⟩
      clear hWW hbel hlW dl dk dl2 dk2 c1 c2 c3 c4 c5 q1 q2 zv p2 hv v l0 b1 b2 p1 k1 z1
      clear u1
      refine kh_seq (kh_region ?_)
      refine kh_list plainF_ok rfl ⟨_, Try.func21⟩ 0 5 (rest := [5, 6, 7]) rfl (by decide) (by kernel_rfl) rfl fun v hv => ?_
      simp only [List.drop_succ_cons, List.drop_zero, List.take_succ_cons, List.take_zero]
      have c1 := (hv.blk bW1).cells 0
      have c2 := (hv.blk bW1).cells 1
      simp at c1 c2
      go_wp2_with fail
      refine ⟨fun _ _ => rfl, ?_⟩
      have pv := hv.ints pW
      have ev := hv.heap
      rw [← hv.size] at pv
      obtain ⟨b, off, hA, hb, hcell⟩ := pv (by omega)
      refine kh_call (c := Ph.body42) rfl rfl (by simp [base]) rfl Try.func42 (by kernel_rfl) rfl ?_
      simp only [Try.ntmps42, List.size_toArray, List.length_cons, List.length_nil, Nat.reduceAdd, Nat.reduceSub, Array.replicate_succ, Array.replicate_zero, List.push_toArray, List.append_toArray, List.nil_append, List.cons_append, List.map_toArray, List.map_cons, List.map_nil, Array.size_map]
      walk_nrm
      refine kh_newSlot (W0 := W0) (Post := Post) (S := S) (ver := ver + 1) (A := A) (xs := xs) (cap := cap) n1 n6 ⟨b, off, hA, hb, hcell⟩ (by rw [ev]; omega) (fun S' u' hn => ?_)
      rw [Frame.finish_at]
      walk_nrm
      obtain ⟨R, hR⟩ : ∃ R, R = v.heap.size + 1 := ⟨_, rfl⟩
      obtain ⟨nz, nold, nrow⟩ := hn
      have bN : Blk u' (N + 1) 26 #[.int .i64 0, .slice none 0 0] := by
        show u'.heap[N + 1]? = _
        rw [nold _ (by rw [ev]; omega), ev]; exact bW2
      have hrow : Blk u' R 3 (xs.map iv).toArray := by rw [hR]; exact nrow
      have lN : Low N u u' := fun b hb => by rw [nold b (by rw [ev]; omega), ev]; exact lW b hb
      have hRN : N + 1 < R := by rw [hR, ev]; omega
      have zN : N ≤ u'.heap.size := by rw [nz, ev]; omega
      rw [← hR]
      clear hR nz nold nrow hcell hb hA pv c1 c2 bW1 bW2 pW lW zW ev
      refine kh_list plainF_ok rfl ⟨_, Try.func21⟩ 6 2 (rest := []) rfl (by decide) (by kernel_rfl) rfl fun v3 hv3 => ?_
      simp only [List.drop_succ_cons, List.drop_zero, List.take_succ_cons, List.take_zero]
      have d1 := (hv3.blk bN).cells 0
      have d2 := (hv3.blk bN).cells 1
      have d3 := (hv3.blk bN).free
      simp at d1 d2
      go_wp2_with fail
      have hbel3 : Below N v3 ((v3.setCell ⟨N + 1, 0, none⟩ (.int .i64 (ver + 1))).setCell ⟨N + 1, 1, none⟩ (.slice (some ⟨R, 0, none⟩) xs.length xs.length)) := by
        repeat' (first | (with_reducible exact Below.refl _ _) | (with_reducible refine Below.setCell ?_ ?_ _) | (simp; done) | (simp; omega))
      refine ⟨hbel3.low.less hW, kh_region_end (kh_retc fun todo => ?_)⟩
      refine slotRet Try.func21 rfl rfl rfl rfl rfl rfl (((hv3.blk bN).set_ 0 _).set_ 1 _) (h S' _ _ ⟨?_, ?_, fun _ => ⟨R, ?_, rfl, ?_⟩, fun hx => (by rw [H.out] at hx; cases hx)⟩)
      · rw [← HN.out]; exact Nat.le_trans (by rw [hv3.size]; exact zN) hbel3.size
      · rw [← HN.out]; exact lN.comp (Low.comp (fun b _ => by rw [hv3.heap]) hbel3.low)
      · rw [← HN.out]; omega
      · exact ((hv3.blk hrow).far (by simp; omega) _).far (by simp; omega) _
  · have H := Lib.hid (show beginB ver xs = false by unfold beginB; rw [h1, h2]; rfl)
    have H1 := Lib.hid h1
    have H2 := Lib.hid h2
    clear h1 h2
    go_wp2_with (first | (go_at_call 26; refine (slotImpl _ _ _ _ _ p2 hl hm).mono ?_; rintro e w' ⟨rfl, hb⟩; obtain ⟨dl, dk, rfl⟩ := more_of hb; clear hb; rw [H1.out]) | (go_at_call 41; refine (written_any _ _ _).mono ?_; rintro e w' ⟨rfl, hb⟩; obtain ⟨dl2, dk2, rfl⟩ := more_of hb; clear hb; rw [H2.out]))
    refine slotOut (N := N) (v := v) (R := N + 1) (x := .int .i64 0) (y := .slice none 0 0) (t := false) (fun _ => Try.func21) (fun _ => rfl) (fun _ => rfl) (fun _ => rfl) rfl (fun _ => rfl) (fun _ => rfl) ?_ ?_ hW (h S _ _ (ResI.none HN.out l0 hv (by omega) ?_ H.out))
    · repeat' (first | (with_reducible exact Below.refl _ _) | (with_reducible refine moreB ?_ (by omega) _ _) | (with_reducible refine Below.setCell ?_ ?_ _) | (with_reducible refine Fr.alloc ?_ _) | (simp; done) | (simp; omega))
    · repeat' (first | exact (((hv.blk b2).set_ 0 _).set_ 1 _) | (refine Blk.below ?_ more_below (by simp; omega)))
    · repeat' (first | (with_reducible exact Below.refl _ _) | (with_reducible refine moreB ?_ (by omega) _ _) | (with_reducible refine Below.setCell ?_ ?_ _) | (with_reducible refine Fr.alloc ?_ _) | (simp; done) | (simp; omega))
end
end Go.Proofs.Ytlcjepgmmbdkmaa
