/-
  SlotWrite, called beside leavers.
-/
import Derived.Test.YtlcjepgmmbdkmaaSlk
import Derived.Test.YtlcjepgmmbdkmaaSw
namespace Go.Proofs.Ytlcjepgmmbdkmaa
open Go.Br Go.Conc Go.RowKit
open Go.Proofs.Ytlcjepgmmbdkmaa.Ph (plainF plainF_ok NewAt kh_newSlot)
set_option linter.unusedSimpArgs false
set_option linter.unusedVariables false

section
variable {W0 : World} {Post : Value → World → Prop} {S : Nat → Bool} {X : Addr → Prop} {ver : Int} {xs : List Int} {A : Option Addr} {cap : Nat} {caller : Frame} {cs : List Frame}

/-- A return of a slot and a truth, in any slots. -/
theorem slotRetG {i j : Nat} {fr : Frame} {fn : Func} {u : World} {R : Nat} {x y : Value} {t : Bool} (hfn : Try.prog.funcs[fr.fn]? = some fn) (hm : fr.mode = .returning) (hk : fr.kind = .normal) (hd : fr.defers = []) (hr : fn.results = #[.cell i 26, .tmp j]) (h2 : fr.tmps[i]? = some (.pointer (some ⟨R, 0, none⟩))) (h3 : fr.tmps[j]? = some (.bool t))
    (hb : Blk u R 26 #[x, y]) (h : Kh Try.prog W0 Post S X (G (caller.finish (.tuple #[.agg #[x, y], .bool t])) cs) u) : Kh Try.prog W0 Post S X (G fr (caller :: cs)) u := by
  refine kh_ret hfn hm hk hd (fun T d => ?_) h
  have c0 : (pos u T d).cell? ⟨R, 0, none⟩ = some x := hb.cells 0
  have c1 : (pos u T d).cell? ⟨R, 1, none⟩ = some y := hb.cells 1
  simp [results, hr, go_sem, h2, h3, c0, c1]
theorem slotOutG {i j : Nat} {fr : List Item → Frame} {fn : Func} {v W : World} {N R : Nat} {x y : Value} {t : Bool} (hfn : ∀ todo, Try.prog.funcs[(fr todo).fn]? = some fn) (hm : ∀ todo, (fr todo).mode = .returning) (hk : ∀ todo, (fr todo).kind = .normal) (hd : ∀ todo, (fr todo).defers = []) (hr : fn.results = #[.cell i 26, .tmp j])
    (h2 : ∀ todo, (fr todo).tmps[i]? = some (.pointer (some ⟨R, 0, none⟩))) (h3 : ∀ todo, (fr todo).tmps[j]? = some (.bool t)) (hbel : Below N v W) (hb : Blk W R 26 #[x, y]) (hN : W0.heap.size ≤ N)
    (h : Kh Try.prog W0 Post S X (G (caller.finish (.tuple #[.agg #[x, y], .bool t])) cs) W) : Low W0.heap.size v W ∧ ∀ todo, Kh Try.prog W0 Post S X (G (fr todo) (caller :: cs)) W :=
  ⟨hbel.low.less hN, fun todo => slotRetG (hfn todo) (hm todo) (hk todo) (hd todo) hr (h2 todo) (h3 todo) hb h⟩

set_option maxRecDepth 100000 in
set_option maxHeartbeats 8000000 in
theorem kh_write {u : World} {at_ word : Int} (hp : IntRow u u.heap.size A xs) (hl : xs.length ≤ cap) (hm : cap ≤ 9223372036854775807) (hW : W0.heap.size ≤ u.heap.size)
    (h : ∀ S' u' v, ResI (writeB ver xs at_ word) ver (xs.set at_.toNat word) u u' v → Kh Try.prog W0 Post S' (fun _ => False) (G (caller.finish v) cs) u') :
    Kh Try.prog W0 Post S X (G ((base 16).at ⟨#[.agg #[.int .i64 ver, .slice A xs.length cap], .int .i64 at_, .int .i64 word, undef, undef, undef, undef, undef, undef, undef, undef, undef, undef, undef, undef, undef, undef, undef, undef, undef, undef, undef, undef, undef, undef, undef, undef, undef, undef, undef, undef, undef, undef, undef, undef, undef, undef, undef, undef, undef, undef, undef, undef, undef], []⟩ [.code (Try.f16.body.getD .skip)]) (caller :: cs)) u := by
  refine kh_forget ?_
  simp only [Try.f16, Option.getD_some]
  refine kh_seq (kh_piece plainF_ok rfl ⟨_, Try.func16⟩ (by kernel_rfl) rfl fun v hv => ?_)
  have e0 := hv.heap
  have p0 := hv.ints hp
  go_wp2_with fail
  obtain ⟨N, hN⟩ : ∃ N, N = u.heap.size := ⟨_, rfl⟩
  rw [← hN] at p0 hW ⊢
  have hz0 : v.heap.size = N := by rw [e0, hN]
  obtain ⟨u1, hu1⟩ : ∃ u1, u1 = (v.alloc (.cells #[.int .i64 ver, .slice A xs.length cap] 26)).alloc (.cells #[.int .i64 0, .slice none 0 0] 26) := ⟨_, rfl⟩
  rw [← hu1]
  have l1 : Low N v u1 := fun b hb => by
    rw [hu1, Below.heap_alloc _ _ _ (by simp; omega), Below.heap_alloc _ _ _ (by omega)]
  have b1 : Blk u1 N 26 #[.int .i64 ver, .slice A xs.length cap] := by rw [hu1]; exact (Blk.new _ _ _ hz0.symm).alloc _
  have b2 : Blk u1 (N + 1) 26 #[.int .i64 0, .slice none 0 0] := by rw [hu1]; exact Blk.new _ _ _ (by simp [hz0])
  have z1 : u1.heap.size = N + 2 := by rw [hu1]; simp [hz0]
  have p1 : IntRow u1 u1.heap.size A xs := by
    rw [hu1]; rw [← hz0] at p0; exact (p0.alloc _).alloc _
  refine ⟨l1.less hW, ?_⟩
  have l0 : Low N u u1 := Low.comp (show Low N u v from hN ▸ hv.below) l1
  have HN := Lib.hid hN
  clear hN
  clear hu1 e0 l1 p0 hv hz0 v hp
  have k1 : N + 1 ≤ u1.heap.size := by omega
  refine kh_seq (kh_piece plainF_ok rfl ⟨_, Try.func16⟩ (by kernel_rfl) rfl fun v hv => ?_)
  have p2 := hv.ints p1
  rw [← hv.size] at p2
  have c1 := (hv.blk b1).cells 0
  have c2 := (hv.blk b1).cells 1
  have c3 := (hv.blk b2).cells 0
  have c4 := (hv.blk b2).cells 1
  have c5 := (hv.blk b2).free
  have zv : v.heap.size = N + 2 := by rw [hv.size, z1]
  simp at c1 c2 c3 c4
  have q1 : N + 1 ≤ v.heap.size := by omega
  have q2 : N + 1 + 1 ≤ v.heap.size := by omega
  cases h1 : slotB ver xs
  · have H := Lib.hid (show writeB ver xs at_ word = false by unfold writeB; rw [h1]; rfl)
    have H1 := Lib.hid h1
    clear h1
    go_wp2_with (go_at_call 26; refine (slotImpl _ _ _ _ _ p2 hl hm).mono ?_; rintro e w' ⟨rfl, hb⟩; obtain ⟨dl, dk, rfl⟩ := more_of hb; clear hb; rw [H1.out])
    refine slotOutG (N := N) (v := v) (R := N + 1) (x := .int .i64 0) (y := .slice none 0 0) (t := false) (fun _ => Try.func16) (fun _ => rfl) (fun _ => rfl) (fun _ => rfl) rfl (fun _ => rfl) (fun _ => rfl) ?_ ?_ hW (h S _ _ (ResI.none HN.out l0 hv (by omega) ?_ H.out))
    · repeat' (first | (with_reducible exact Below.refl _ _) | (with_reducible refine moreB ?_ (by omega) _ _) | (with_reducible refine Below.setCell ?_ ?_ _) | (with_reducible refine Fr.alloc ?_ _) | (simp; done) | (simp; omega))
    · repeat' (first | exact (((hv.blk b2).set_ 0 _).set_ 1 _) | (refine Blk.below ?_ more_below (by simp; omega)))
    · repeat' (first | (with_reducible exact Below.refl _ _) | (with_reducible refine moreB ?_ (by omega) _ _) | (with_reducible refine Below.setCell ?_ ?_ _) | (with_reducible refine Fr.alloc ?_ _) | (simp; done) | (simp; omega))
  obtain ⟨⟨v0, v1⟩, n1, n6⟩ := slotB_cases h1
  cases h3 : inB word 0 999999
  · have H := Lib.hid (show writeB ver xs at_ word = false by unfold writeB; rw [h1, h3]; rfl)
    have H1 := Lib.hid h1
    have H3 := Lib.hid h3
    clear h1 h3
    go_wp2_with (first | (go_at_call 26; refine (slotImpl _ _ _ _ _ p2 hl hm).mono ?_; rintro e w' ⟨rfl, hb⟩; obtain ⟨dl, dk, rfl⟩ := more_of hb; clear hb; rw [H1.out]) | (go_at_call 40; refine (wideValid_any _ _).mono ?_; rintro e w' ⟨rfl, rfl⟩; rw [H3.out]))
    refine slotOutG (N := N) (v := v) (R := N + 1) (x := .int .i64 0) (y := .slice none 0 0) (t := false) (fun _ => Try.func16) (fun _ => rfl) (fun _ => rfl) (fun _ => rfl) rfl (fun _ => rfl) (fun _ => rfl) ?_ ?_ hW (h S _ _ (ResI.none HN.out l0 hv (by omega) ?_ H.out))
    · repeat' (first | (with_reducible exact Below.refl _ _) | (with_reducible refine moreB ?_ (by omega) _ _) | (with_reducible refine Below.setCell ?_ ?_ _) | (with_reducible refine Fr.alloc ?_ _) | (simp; done) | (simp; omega))
    · repeat' (first | exact (((hv.blk b2).set_ 0 _).set_ 1 _) | (refine Blk.below ?_ more_below (by simp; omega)))
    · repeat' (first | (with_reducible exact Below.refl _ _) | (with_reducible refine moreB ?_ (by omega) _ _) | (with_reducible refine Below.setCell ?_ ?_ _) | (with_reducible refine Fr.alloc ?_ _) | (simp; done) | (simp; omega))
  have H1 := Lib.hid h1
  have H3 := Lib.hid h3
  clear h1 h3
  go_wp2_with (first | (go_at_call 26; refine (slotImpl _ _ _ _ _ p2 hl hm).mono ?_; rintro e w' ⟨rfl, hb⟩; obtain ⟨dl, dk, rfl⟩ := more_of hb; clear hb; rw [H1.out]) | (go_at_call 40; refine (wideValid_any _ _).mono ?_; rintro e w' ⟨rfl, rfl⟩; rw [H3.out]))
  obtain ⟨W, hWW⟩ : ∃ W, W = more v dl dk := ⟨_, rfl⟩
  rw [← hWW]
  have hbel : Below v.heap.size v W := by rw [hWW]; exact more_below
  have hlW : Low N v W := (hbel.mono (by omega)).low
  have bW1 : Blk W N 26 #[.int .i64 ver, .slice A xs.length cap] := (hv.blk b1).below hbel (by omega)
  have bW2 : Blk W (N + 1) 26 #[.int .i64 0, .slice none 0 0] := (hv.blk b2).below hbel (by omega)
  have pW : IntRow W W.heap.size A xs := p2.mem hbel
  have zW : N + 2 ≤ W.heap.size := by have := hbel.size; omega
  have lW : Low N u W := l0.comp (Low.comp (fun b _ => by rw [hv.heap]) hlW)
  refine ⟨hlW.less hW, ?_⟩
  clear hWW hbel hlW dl dk c1 c2 c3 c4 c5 q1 q2 zv p2 hv v l0 b1 b2 p1 k1 z1
  clear u1
  refine kh_seq (kh_piece plainF_ok rfl ⟨_, Try.func16⟩ (by kernel_rfl) rfl fun v hv => ?_)
  have c1 := (hv.blk bW1).cells 0
  have c2 := (hv.blk bW1).cells 1
  have c3 := (hv.blk bW2).cells 0
  have c4 := (hv.blk bW2).cells 1
  have c5 := (hv.blk bW2).free
  have zv : N + 2 ≤ v.heap.size := by rw [hv.size]; exact zW
  simp at c1 c2 c3 c4
  have q1 : N + 1 ≤ v.heap.size := by omega
  have q2 : N + 1 + 1 ≤ v.heap.size := by omega
  have q3 : N < v.heap.size := by omega
  have q4 : N + 1 < v.heap.size := by omega
  by_cases a0 : at_ < 0
  · have H := Lib.hid (show writeB ver xs at_ word = false by unfold writeB; rw [H1.out, H3.out, show decide (0 ≤ at_) = false by simp; omega]; rfl)
    go_wp2_with fail
    refine slotOutG (N := N) (v := v) (R := N + 1) (x := .int .i64 0) (y := .slice none 0 0) (t := false) (fun _ => Try.func16) (fun _ => rfl) (fun _ => rfl) (fun _ => rfl) rfl (fun _ => rfl) (fun _ => rfl) ?_ ?_ hW (h S _ _ (ResI.none HN.out lW hv (by omega) ?_ H.out))
    · repeat' (first | (with_reducible exact Below.refl _ _) | (with_reducible refine moreB ?_ (by omega) _ _) | (with_reducible refine Below.setCell ?_ ?_ _) | (with_reducible refine Fr.alloc ?_ _) | (simp; done) | (simp; omega))
    · repeat' (first | exact (((hv.blk bW2).set_ 0 _).set_ 1 _) | (refine Blk.below ?_ more_below (by simp; omega)))
    · repeat' (first | (with_reducible exact Below.refl _ _) | (with_reducible refine moreB ?_ (by omega) _ _) | (with_reducible refine Below.setCell ?_ ?_ _) | (with_reducible refine Fr.alloc ?_ _) | (simp; done) | (simp; omega))
  by_cases a1 : (xs.length : Int) ≤ at_
  · have H := Lib.hid (show writeB ver xs at_ word = false by unfold writeB; rw [H1.out, H3.out, show decide (0 ≤ at_) = true by simp; omega, show decide (at_ < (xs.length : Int)) = false by simp; omega]; rfl)
    go_wp2_with fail
    refine slotOutG (N := N) (v := v) (R := N + 1) (x := .int .i64 0) (y := .slice none 0 0) (t := false) (fun _ => Try.func16) (fun _ => rfl) (fun _ => rfl) (fun _ => rfl) rfl (fun _ => rfl) (fun _ => rfl) ?_ ?_ hW (h S _ _ (ResI.none HN.out lW hv (by omega) ?_ H.out))
    · repeat' (first | (with_reducible exact Below.refl _ _) | (with_reducible refine moreB ?_ (by omega) _ _) | (with_reducible refine Below.setCell ?_ ?_ _) | (with_reducible refine Fr.alloc ?_ _) | (simp; done) | (simp; omega))
    · repeat' (first | exact (((hv.blk bW2).set_ 0 _).set_ 1 _) | (refine Blk.below ?_ more_below (by simp; omega)))
    · repeat' (first | (with_reducible exact Below.refl _ _) | (with_reducible refine moreB ?_ (by omega) _ _) | (with_reducible refine Below.setCell ?_ ?_ _) | (with_reducible refine Fr.alloc ?_ _) | (simp; done) | (simp; omega))
  cases h2 : writtenB ver
  · have H := Lib.hid (show writeB ver xs at_ word = false by unfold writeB; rw [H1.out, H3.out, h2]; simp)
    have H2 := Lib.hid h2
    clear h2
    go_wp2_with (go_at_call 41; refine (written_any _ _ _).mono ?_; rintro e w' ⟨rfl, hb⟩; obtain ⟨dl2, dk2, rfl⟩ := more_of hb; clear hb; rw [H2.out])
    refine slotOutG (N := N) (v := v) (R := N + 1) (x := .int .i64 0) (y := .slice none 0 0) (t := false) (fun _ => Try.func16) (fun _ => rfl) (fun _ => rfl) (fun _ => rfl) rfl (fun _ => rfl) (fun _ => rfl) ?_ ?_ hW (h S _ _ (ResI.none HN.out lW hv (by omega) ?_ H.out))
    · repeat' (first | (with_reducible exact Below.refl _ _) | (with_reducible refine moreB ?_ (by omega) _ _) | (with_reducible refine Below.setCell ?_ ?_ _) | (with_reducible refine Fr.alloc ?_ _) | (simp; done) | (simp; omega))
    · repeat' (first | exact (((hv.blk bW2).set_ 0 _).set_ 1 _) | (refine Blk.below ?_ more_below (by simp; omega)))
    · repeat' (first | (with_reducible exact Below.refl _ _) | (with_reducible refine moreB ?_ (by omega) _ _) | (with_reducible refine Below.setCell ?_ ?_ _) | (with_reducible refine Fr.alloc ?_ _) | (simp; done) | (simp; omega))
  have H := Lib.hid (show writeB ver xs at_ word = true by unfold writeB; rw [H1.out, H3.out, h2, show decide (0 ≤ at_) = true by simp; omega, show decide (at_ < (xs.length : Int)) = true by simp; omega]; rfl)
  have H2 := Lib.hid h2
  clear h2
  go_wp2_with (go_at_call 41; refine (written_any _ _ _).mono ?_; rintro e w' ⟨rfl, hb⟩; obtain ⟨dl2, dk2, rfl⟩ := more_of hb; clear hb; rw [H2.out])
  obtain ⟨W2, hWW⟩ : ∃ W2, W2 = more v dl2 dk2 := ⟨_, rfl⟩
  rw [← hWW]
  have hbel : Below v.heap.size v W2 := by rw [hWW]; exact more_below
  have hlW : Low N v W2 := (hbel.mono (by omega)).low
  have bX1 : Blk W2 N 26 #[.int .i64 ver, .slice A xs.length cap] := (hv.blk bW1).below hbel (by omega)
  have bX2 : Blk W2 (N + 1) 26 #[.int .i64 0, .slice none 0 0] := (hv.blk bW2).below hbel (by omega)
  have pW2 : IntRow W2 W2.heap.size A xs := by
    have := hv.ints pW
    rw [← hv.size] at this
    exact this.mem hbel
  have zW2 : N + 2 ≤ W2.heap.size := by have := hbel.size; omega
  have lW2 : Low N u W2 := lW.comp (Low.comp (fun b _ => by rw [hv.heap]) hlW)
  refine ⟨hlW.less hW, ?_⟩
  clear hWW hbel hlW dl2 dk2 c1 c2 c3 c4 c5 q1 q2 q3 q4 zv hv v lW bW1 bW2 zW pW
  clear W
  obtain ⟨k, rfl⟩ : ∃ k : Nat, at_ = (k : Int) := ⟨at_.toNat, by omega⟩
  have hk : k < xs.length := by omega
  rw [show (k : Int).toNat = k from rfl] at h
  clear a0 a1
  refine kh_seq (kh_region ?_)
  refine kh_list plainF_ok rfl ⟨_, Try.func16⟩ 0 4 (rest := [4, 5, 6]) rfl (by decide) (by kernel_rfl) rfl fun v hv => ?_
  simp only [List.drop_succ_cons, List.drop_zero, List.take_succ_cons, List.take_zero]
  have c1 := (hv.blk bX1).cells 0
  have c2 := (hv.blk bX1).cells 1
  simp at c1 c2
  go_wp2_with fail
  refine ⟨fun _ _ => rfl, ?_⟩
  have pv := hv.ints pW2
  have ev := hv.heap
  rw [← hv.size] at pv
  obtain ⟨b, off, hA, hb, hcell⟩ := pv (by omega)
  refine kh_call (c := Ph.body42) rfl rfl (by simp [base]) rfl Try.func42 (by kernel_rfl) rfl ?_
  simp only [Try.ntmps42, List.size_toArray, List.length_cons, List.length_nil, Nat.reduceAdd, Nat.reduceSub, Array.replicate_succ, Array.replicate_zero, List.push_toArray, List.append_toArray, List.nil_append, List.cons_append, List.map_toArray, List.map_cons, List.map_nil, Array.size_map]
  walk_nrm
  refine kh_newSlot (W0 := W0) (Post := Post) (S := S) (ver := ver) (A := A) (xs := xs) (cap := cap) n1 n6 ⟨b, off, hA, hb, hcell⟩ (by rw [ev]; omega) (fun S' u' hn => ?_)
  rw [Frame.finish_at]
  walk_nrm
  obtain ⟨R, hR⟩ : ∃ R, R = v.heap.size + 1 := ⟨_, rfl⟩
  obtain ⟨nz, nold, nrow⟩ := hn
  have bN : Blk u' (N + 1) 26 #[.int .i64 0, .slice none 0 0] := by
    show u'.heap[N + 1]? = _
    rw [nold _ (by rw [ev]; omega), ev]; exact bX2
  have hrow : Blk u' R 3 (xs.map iv).toArray := by rw [hR]; exact nrow
  have lN : Low N u u' := fun b hb => by rw [nold b (by rw [ev]; omega), ev]; exact lW2 b hb
  have hRN : N + 1 < R := by rw [hR, ev]; omega
  have zN : N ≤ u'.heap.size := by rw [nz, ev]; omega
  rw [← hR]
  clear hR nz nold nrow hcell hb hA pv c1 c2 bX1 bX2 pW2 lW2 zW2 ev
  refine kh_list plainF_ok rfl ⟨_, Try.func16⟩ 5 2 (rest := []) rfl (by decide) (by kernel_rfl) rfl fun v3 hv3 => ?_
  simp only [List.drop_succ_cons, List.drop_zero, List.take_succ_cons, List.take_zero]
  go_wp2_with fail
  obtain ⟨M, hM⟩ : ∃ M, M = v3.heap.size := ⟨_, rfl⟩
  obtain ⟨u4, hu4⟩ : ∃ u4, u4 = v3.alloc (.cells #[.int .i64 ver, .slice (some ⟨R, 0, none⟩) xs.length xs.length] 26) := ⟨_, rfl⟩
  rw [← hu4, ← hM]
  have z3 := hv3.size
  have m4 : Blk u4 M 26 #[.int .i64 ver, .slice (some ⟨R, 0, none⟩) xs.length xs.length] := by rw [hu4, hM]; exact Blk.new _ _ _ rfl
  have b4 : Blk u4 (N + 1) 26 #[.int .i64 0, .slice none 0 0] := by rw [hu4]; exact (hv3.blk bN).alloc _
  have r4 : Blk u4 R 3 (xs.map iv).toArray := by rw [hu4]; exact (hv3.blk hrow).alloc _
  have l4 : Low N v3 u4 := fun b hb => by rw [hu4, Below.heap_alloc _ _ _ (by omega)]
  have lN4 : Low N u u4 := lN.comp (Low.comp (fun b _ => by rw [hv3.heap]) l4)
  have hRM : R < M := by rw [hM, z3]; exact hrow.lt
  refine ⟨l4.less hW, kh_region_end ?_⟩
  clear hu4 hM bN hrow lN l4 z3 zN hv3 v3 u'
  refine kh_piece plainF_ok rfl ⟨_, Try.func16⟩ (by kernel_rfl) rfl fun v5 hv5 => ?_
  have d0 := (hv5.blk m4).cells 0
  have d1 := (hv5.blk m4).cells 1
  have e0 := (hv5.blk b4).cells 0
  have e1 := (hv5.blk b4).cells 1
  have ef := (hv5.blk b4).free
  have rc := (hv5.blk r4).cells k
  have rf := (hv5.blk r4).free
  simp at d0 d1 e0 e1
  obtain ⟨y, hy⟩ : ∃ y, ((xs.map iv).toArray)[k]? = some y := ⟨_, Array.getElem?_eq_getElem (by simpa using hk)⟩
  rw [hy] at rc
  have i0 : (0 : Int) ≤ (k : Int) := by omega
  have i1 : (k : Int) < (xs.length : Int) := by omega
  have n2 : N + 1 ≠ R := by omega
  have n3 : N + 1 ≠ M := by omega
  have n4 : M ≠ R := by omega
  go_wp2_with fail
  have hbel5 : Below N v5 (((v5.setCell ⟨R, k, none⟩ (.int .i64 word)).setCell ⟨N + 1, 0, none⟩ (.int .i64 ver)).setCell ⟨N + 1, 1, none⟩ (.slice (some ⟨R, 0, none⟩) xs.length xs.length)) := by
    repeat' (first | (with_reducible exact Below.refl _ _) | (with_reducible refine Below.setCell ?_ ?_ _) | (simp; done) | (simp; omega))
  have hb5 : Blk (v5.setCell ⟨R, k, none⟩ (.int .i64 word)) (N + 1) 26 #[.int .i64 0, .slice none 0 0] := (hv5.blk b4).far (by simp; omega) _
  refine slotOutG (N := N) (v := v5) (R := N + 1) (x := .int .i64 ver) (y := .slice (some ⟨R, 0, none⟩) xs.length xs.length) (t := true) (fun _ => Try.func16) (fun _ => rfl) (fun _ => rfl) (fun _ => rfl) rfl (fun _ => rfl) (fun _ => rfl) hbel5 ((hb5.set_ 0 _).set_ 1 _) hW (h S' _ _ ⟨?_, ?_, fun _ => ⟨R, ?_, by simp, ?_⟩, fun hx => (by rw [H.out] at hx; cases hx)⟩)
  · rw [← HN.out]; exact Nat.le_trans (by rw [hv5.size]; have := b4.lt; omega) hbel5.size
  · rw [← HN.out]; exact lN4.comp (Low.comp (fun b _ => by rw [hv5.heap]) hbel5.low)
  · rw [← HN.out]; omega
  · have := (((hv5.blk r4).set_ k (.int .i64 word)).far (p := ⟨N + 1, 0, none⟩) (by simp; omega) (.int .i64 ver)).far (p := ⟨N + 1, 1, none⟩) (by simp; omega) (.slice (some ⟨R, 0, none⟩) xs.length xs.length)
    rw [show ((xs.set k word).map iv).toArray = ((xs.map iv).toArray).setIfInBounds k (.int .i64 word) by simp [List.map_set, iv]]
    exact this
end
end Go.Proofs.Ytlcjepgmmbdkmaa
