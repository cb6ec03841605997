/-
  SlotRead, called beside leavers.
-/
import Derived.Test.YtlcjepgmmbdkmaaSlk
import Derived.Test.YtlcjepgmmbdkmaaSw
namespace Go.Proofs.Ytlcjepgmmbdkmaa
open Go.Br Go.Conc Go.RowKit
open Go.Proofs.Ytlcjepgmmbdkmaa.Ph (plainF plainF_ok NewAt kh_newSlot)
set_option linter.unusedSimpArgs false
set_option linter.unusedVariables false

/-- What a reading of a slot hands back. -/
structure ResR (b : Bool) (ws : List Int) (u u' : World) (v : Value) : Prop where
  size : u.heap.size ≤ u'.heap.size
  low : Low u.heap.size u u'
  yes : b = true → ∃ R, u.heap.size ≤ R ∧ v = .tuple #[.slice (some ⟨R, 0, none⟩) ws.length ws.length, .bool true] ∧ u'.heap[R]? = some (.cells (ws.map iv).toArray 3)
  no : b = false → ∃ R, u.heap.size ≤ R ∧ v = .tuple #[.slice (some ⟨R, 0, none⟩) 0 0, .bool false]
@[go_sem] theorem run_words (ver : Int) (s : Value) (w : World) : (Instr.field 26 (.agg #[.int .i64 ver, s]) 1).run Try.prog w = .ok s w := by kernel_rfl
theorem allocB_ {B : Nat} {w0 w : World} (h : Below B w0 w) (hB : B ≤ w0.heap.size) (o : Obj) : Below B w0 (w.alloc o) := h.trans ((Fr.alloc (Below.refl w.heap.size w) o).mono (Nat.le_trans hB h.size))
section
variable {W0 : World} {Post : Value → World → Prop} {S : Nat → Bool} {X : Addr → Prop} {va vb : Int} {xa ws xb : List Int} {A B C : Option Addr} {capa capw capb : Nat} {caller : Frame} {cs : List Frame}
theorem ResR.none {b : Bool} {ws : List Int} {u u1 v W : World} {N R : Nat} (hN : N = u.heap.size) (h0 : Low N u u1) (hv : Re u1 v) (hz : N ≤ v.heap.size) (hbel : Below N v W) (hR : N ≤ R) (hB : b = false) : ResR b ws u W (.tuple #[.slice (some ⟨R, 0, none⟩) 0 0, .bool false]) :=
  ⟨by rw [← hN]; exact Nat.le_trans hz hbel.size, by rw [← hN]; exact h0.comp (Low.comp (fun b _ => by rw [hv.heap]) hbel.low), fun h => (by rw [hB] at h; cases h), fun _ => ⟨R, by rw [← hN]; exact hR, rfl⟩⟩
theorem tmpsRet {i j : Nat} {fr : Frame} {fn : Func} {u : World} {x y : Value} (hfn : Try.prog.funcs[fr.fn]? = some fn) (hm : fr.mode = .returning) (hk : fr.kind = .normal) (hd : fr.defers = []) (hr : fn.results = #[.tmp i, .tmp j]) (h2 : fr.tmps[i]? = some x) (h3 : fr.tmps[j]? = some y)
    (h : Kh Try.prog W0 Post S X (G (caller.finish (.tuple #[x, y])) cs) u) : Kh Try.prog W0 Post S X (G fr (caller :: cs)) u := by
  refine kh_ret hfn hm hk hd (fun T d => ?_) h
  simp [results, hr, go_sem, h2, h3]
theorem readOut {i j : Nat} {fr : List Item → Frame} {fn : Func} {v W : World} {N : Nat} {x y : Value} (hfn : ∀ todo, Try.prog.funcs[(fr todo).fn]? = some fn) (hm : ∀ todo, (fr todo).mode = .returning) (hk : ∀ todo, (fr todo).kind = .normal) (hd : ∀ todo, (fr todo).defers = []) (hr : fn.results = #[.tmp i, .tmp j])
    (h2 : ∀ todo, (fr todo).tmps[i]? = some x) (h3 : ∀ todo, (fr todo).tmps[j]? = some y) (hbel : Below N v W) (hN : W0.heap.size ≤ N)
    (h : Kh Try.prog W0 Post S X (G (caller.finish (.tuple #[x, y])) cs) W) : Low W0.heap.size v W ∧ ∀ todo, Kh Try.prog W0 Post S X (G (fr todo) (caller :: cs)) W :=
  ⟨hbel.low.less hN, fun todo => tmpsRet (hfn todo) (hm todo) (hk todo) (hd todo) hr (h2 todo) (h3 todo) h⟩

set_option maxRecDepth 100000 in
set_option maxHeartbeats 8000000 in
theorem kh_read {u : World} (hp : IntRow u u.heap.size A xa) (hq : IntRow u u.heap.size B xb) (hr : IntRow u u.heap.size C ws) (la : xa.length ≤ capa) (ma : capa ≤ 9223372036854775807) (lb : xb.length ≤ capb) (mb : capb ≤ 9223372036854775807) (lw : ws.length ≤ capw) (mw : capw ≤ 9223372036854775807) (hW : W0.heap.size ≤ u.heap.size)
    (h : ∀ S' u' v, ResR (readB va xa ws vb xb) ws u u' v → Kh Try.prog W0 Post S' (fun _ => False) (G (caller.finish v) cs) u') :
    Kh Try.prog W0 Post S X (G ((base 30).at ⟨#[.agg #[.int .i64 va, .slice A xa.length capa], .slice C ws.length capw, .agg #[.int .i64 vb, .slice B xb.length capb], undef, undef, undef, undef, undef, undef, undef, undef, undef, undef, undef, undef, undef, undef, undef, undef, undef, undef, undef, undef, undef, undef, undef, undef, undef, undef, undef, undef, undef, undef, undef, undef, undef, undef], []⟩ [.code (Try.f30.body.getD .skip)]) (caller :: cs)) u := by
  refine kh_forget ?_
  simp only [Try.f30, Option.getD_some]
  refine kh_seq (kh_piece plainF_ok rfl ⟨_, Try.func30⟩ (by kernel_rfl) rfl fun v hv => ?_)
  have e0 := hv.heap
  have p0 := hv.ints hp
  have q0 := hv.ints hq
  have r0 := hv.ints hr
  go_wp2_with fail
  obtain ⟨N, hN⟩ : ∃ N, N = u.heap.size := ⟨_, rfl⟩
  rw [← hN] at p0 q0 r0 hW ⊢
  have hz0 : v.heap.size = N := by rw [e0, hN]
  obtain ⟨u1, hu1⟩ : ∃ u1, u1 = (v.alloc (.cells #[.int .i64 va, .slice A xa.length capa] 26)).alloc (.cells #[.int .i64 vb, .slice B xb.length capb] 26) := ⟨_, rfl⟩
  rw [← hu1]
  have l1 : Low N v u1 := fun b hb => by
    rw [hu1, Below.heap_alloc _ _ _ (by simp; omega), Below.heap_alloc _ _ _ (by omega)]
  have b1 : Blk u1 N 26 #[.int .i64 va, .slice A xa.length capa] := by rw [hu1]; exact (Blk.new _ _ _ hz0.symm).alloc _
  have b2 : Blk u1 (N + 1) 26 #[.int .i64 vb, .slice B xb.length capb] := by rw [hu1]; exact Blk.new _ _ _ (by simp [hz0])
  have z1 : u1.heap.size = N + 2 := by rw [hu1]; simp [hz0]
  rw [← hz0] at p0 q0 r0
  have p1 : IntRow u1 u1.heap.size A xa := by rw [hu1]; exact (p0.alloc _).alloc _
  have q1 : IntRow u1 u1.heap.size B xb := by rw [hu1]; exact (q0.alloc _).alloc _
  have r1 : IntRow u1 u1.heap.size C ws := by rw [hu1]; exact (r0.alloc _).alloc _
  refine ⟨l1.less hW, ?_⟩
  have l0 : Low N u u1 := Low.comp (show Low N u v from hN ▸ hv.below) l1
  have HN := Lib.hid hN
  clear hN
  clear hu1 e0 l1 p0 q0 r0 hv hz0 v hp hq hr
  refine kh_seq (kh_piece plainF_ok rfl ⟨_, Try.func30⟩ (by kernel_rfl) rfl fun v hv => ?_)
  have p2 := hv.ints p1
  have q2 := hv.ints q1
  have r2 := hv.ints r1
  rw [← hv.size] at p2 q2 r2
  have c1 := (hv.blk b1).cells 0
  have c2 := (hv.blk b1).cells 1
  have c3 := (hv.blk b2).cells 0
  have c4 := (hv.blk b2).cells 1
  have zv : v.heap.size = N + 2 := by rw [hv.size, z1]
  simp at c1 c2 c3 c4
  have s1 : N + 1 ≤ v.heap.size := by omega
  have s2 : N + 1 + 1 ≤ v.heap.size := by omega
  cases h1 : slotB va xa
  · have H := Lib.hid (show readB va xa ws vb xb = false by unfold readB; rw [h1]; rfl)
    have H1 := Lib.hid h1
    clear h1
    go_wp2_with (first | (go_at_call 26; with_reducible refine (slotImpl va A xa capa _ p2 la ma).mono ?_; rintro e w' ⟨rfl, hb⟩; obtain ⟨dl, dk, rfl⟩ := more_of hb; clear hb; rw [H1.out]) | (go_at_call 26; with_reducible refine (slotImpl vb B xb capb _ (q2.mem more_below) lb mb).mono ?_; rintro e w' ⟨rfl, hb⟩; obtain ⟨dl2, dk2, rfl⟩ := more_of hb; clear hb; rw [H2.out]) | (go_at_call 46; with_reducible refine (wordsImpl C ws capw _ (r2.mem more_below) lw mw).mono ?_; rintro e w' ⟨rfl, rfl⟩; rw [H3.out]))
    refine readOut (N := N) (v := v) (i := 6) (j := 7) (fun _ => Try.func30) (fun _ => rfl) (fun _ => rfl) (fun _ => rfl) rfl (fun _ => rfl) (fun _ => rfl) ?_ hW (h S _ _ (ResR.none HN.out l0 hv (by omega) ?_ ?_ H.out))
    · repeat' (first | (with_reducible exact Below.refl _ _) | (with_reducible refine moreB ?_ (by omega) _ _) | (with_reducible refine Below.setCell ?_ ?_ _) | (with_reducible refine allocB_ ?_ (by omega) _) | (with_reducible refine Fr.alloc ?_ _) | (simp; done) | (simp; omega))
    · repeat' (first | (with_reducible exact Below.refl _ _) | (with_reducible refine moreB ?_ (by omega) _ _) | (with_reducible refine Below.setCell ?_ ?_ _) | (with_reducible refine allocB_ ?_ (by omega) _) | (with_reducible refine Fr.alloc ?_ _) | (simp; done) | (simp; omega))
    · first | omega | (unfold msz; omega)
  obtain ⟨⟨v0, v1⟩, -, -⟩ := slotB_cases h1
  cases h2 : slotB vb xb
  · have H := Lib.hid (show readB va xa ws vb xb = false by unfold readB; rw [h1, h2]; rfl)
    have H1 := Lib.hid h1
    have H2 := Lib.hid h2
    clear h1 h2
    go_wp2_with (first | (go_at_call 26; with_reducible refine (slotImpl va A xa capa _ p2 la ma).mono ?_; rintro e w' ⟨rfl, hb⟩; obtain ⟨dl, dk, rfl⟩ := more_of hb; clear hb; rw [H1.out]) | (go_at_call 26; with_reducible refine (slotImpl vb B xb capb _ (q2.mem more_below) lb mb).mono ?_; rintro e w' ⟨rfl, hb⟩; obtain ⟨dl2, dk2, rfl⟩ := more_of hb; clear hb; rw [H2.out]) | (go_at_call 46; with_reducible refine (wordsImpl C ws capw _ (r2.mem more_below) lw mw).mono ?_; rintro e w' ⟨rfl, rfl⟩; rw [H3.out]))
    refine readOut (N := N) (v := v) (i := 6) (j := 7) (fun _ => Try.func30) (fun _ => rfl) (fun _ => rfl) (fun _ => rfl) rfl (fun _ => rfl) (fun _ => rfl) ?_ hW (h S _ _ (ResR.none HN.out l0 hv (by omega) ?_ ?_ H.out))
    · repeat' (first | (with_reducible exact Below.refl _ _) | (with_reducible refine moreB ?_ (by omega) _ _) | (with_reducible refine Below.setCell ?_ ?_ _) | (with_reducible refine allocB_ ?_ (by omega) _) | (with_reducible refine Fr.alloc ?_ _) | (simp; done) | (simp; omega))
    · repeat' (first | (with_reducible exact Below.refl _ _) | (with_reducible refine moreB ?_ (by omega) _ _) | (with_reducible refine Below.setCell ?_ ?_ _) | (with_reducible refine allocB_ ?_ (by omega) _) | (with_reducible refine Fr.alloc ?_ _) | (simp; done) | (simp; omega))
    · first | omega | (unfold msz; omega)
  cases h3 : wordsB ws
  · have H := Lib.hid (show readB va xa ws vb xb = false by unfold readB; rw [h1, h2, h3]; rfl)
    have H1 := Lib.hid h1
    have H2 := Lib.hid h2
    have H3 := Lib.hid h3
    clear h1 h2 h3
    go_wp2_with (first | (go_at_call 26; with_reducible refine (slotImpl va A xa capa _ p2 la ma).mono ?_; rintro e w' ⟨rfl, hb⟩; obtain ⟨dl, dk, rfl⟩ := more_of hb; clear hb; rw [H1.out]) | (go_at_call 26; with_reducible refine (slotImpl vb B xb capb _ (q2.mem more_below) lb mb).mono ?_; rintro e w' ⟨rfl, hb⟩; obtain ⟨dl2, dk2, rfl⟩ := more_of hb; clear hb; rw [H2.out]) | (go_at_call 46; with_reducible refine (wordsImpl C ws capw _ (r2.mem more_below) lw mw).mono ?_; rintro e w' ⟨rfl, rfl⟩; rw [H3.out]))
    refine readOut (N := N) (v := v) (i := 6) (j := 7) (fun _ => Try.func30) (fun _ => rfl) (fun _ => rfl) (fun _ => rfl) rfl (fun _ => rfl) (fun _ => rfl) ?_ hW (h S _ _ (ResR.none HN.out l0 hv (by omega) ?_ ?_ H.out))
    · repeat' (first | (with_reducible exact Below.refl _ _) | (with_reducible refine moreB ?_ (by omega) _ _) | (with_reducible refine Below.setCell ?_ ?_ _) | (with_reducible refine allocB_ ?_ (by omega) _) | (with_reducible refine Fr.alloc ?_ _) | (simp; done) | (simp; omega))
    · repeat' (first | (with_reducible exact Below.refl _ _) | (with_reducible refine moreB ?_ (by omega) _ _) | (with_reducible refine Below.setCell ?_ ?_ _) | (with_reducible refine allocB_ ?_ (by omega) _) | (with_reducible refine Fr.alloc ?_ _) | (simp; done) | (simp; omega))
    · first | omega | (unfold msz; omega)
  obtain ⟨n1, n6⟩ := wordsB_cases h3
  have H1 := Lib.hid h1
  have H2 := Lib.hid h2
  have H3 := Lib.hid h3
  clear h1 h2 h3
  go_wp2_with (first | (go_at_call 26; with_reducible refine (slotImpl va A xa capa _ p2 la ma).mono ?_; rintro e w' ⟨rfl, hb⟩; obtain ⟨dl, dk, rfl⟩ := more_of hb; clear hb; rw [H1.out]) | (go_at_call 26; with_reducible refine (slotImpl vb B xb capb _ (q2.mem more_below) lb mb).mono ?_; rintro e w' ⟨rfl, hb⟩; obtain ⟨dl2, dk2, rfl⟩ := more_of hb; clear hb; rw [H2.out]) | (go_at_call 46; with_reducible refine (wordsImpl C ws capw _ (r2.mem more_below) lw mw).mono ?_; rintro e w' ⟨rfl, rfl⟩; rw [H3.out]))
  obtain ⟨W, hWW⟩ : ∃ W, W = more v (dl ++ dl2) dk2 := ⟨_, rfl⟩
  rw [← hWW]
  have hbel : Below v.heap.size v W := by rw [hWW]; exact more_below
  have hlW : Low N v W := (hbel.mono (by omega)).low
  have bW1 : Blk W N 26 #[.int .i64 va, .slice A xa.length capa] := (hv.blk b1).below hbel (by omega)
  have bW2 : Blk W (N + 1) 26 #[.int .i64 vb, .slice B xb.length capb] := (hv.blk b2).below hbel (by omega)
  have rW : IntRow W W.heap.size C ws := r2.mem hbel
  have zW : N + 2 ≤ W.heap.size := by have := hbel.size; omega
  have lW : Low N u W := l0.comp (Low.comp (fun b _ => by rw [hv.heap]) hlW)
  refine ⟨hlW.less hW, ?_⟩
  clear hWW hbel hlW dl dk dl2 dk2 c1 c2 c3 c4 s1 s2 zv p2 q2 r2 hv v l0 b1 b2 p1 q1 r1 z1
  clear u1
  refine kh_seq (kh_piece plainF_ok rfl ⟨_, Try.func30⟩ (by kernel_rfl) rfl fun v hv => ?_)
  have c1 := (hv.blk bW1).cells 0
  have c2 := (hv.blk bW1).cells 1
  have c3 := (hv.blk bW2).cells 0
  have zv : N + 2 ≤ v.heap.size := by rw [hv.size]; exact zW
  simp at c1 c2 c3
  have s1 : N + 1 ≤ v.heap.size := by omega
  have s2 : N + 1 + 1 ≤ v.heap.size := by omega
  have s3 : N < v.heap.size := by omega
  by_cases hvv : ¬ va = vb
  · have hne : (va == vb) = false := by simpa using hvv
    have H := Lib.hid (show readB va xa ws vb xb = false by unfold readB; rw [H1.out, H2.out, H3.out, hne]; rfl)
    go_wp2_with fail
    refine readOut (N := N) (v := v) (i := 6) (j := 7) (fun _ => Try.func30) (fun _ => rfl) (fun _ => rfl) (fun _ => rfl) rfl (fun _ => rfl) (fun _ => rfl) ?_ hW (h S _ _ (ResR.none HN.out lW hv (by omega) ?_ ?_ H.out))
    · repeat' (first | (with_reducible exact Below.refl _ _) | (with_reducible refine moreB ?_ (by omega) _ _) | (with_reducible refine Below.setCell ?_ ?_ _) | (with_reducible refine allocB_ ?_ (by omega) _) | (with_reducible refine Fr.alloc ?_ _) | (simp; done) | (simp; omega))
    · repeat' (first | (with_reducible exact Below.refl _ _) | (with_reducible refine moreB ?_ (by omega) _ _) | (with_reducible refine Below.setCell ?_ ?_ _) | (with_reducible refine allocB_ ?_ (by omega) _) | (with_reducible refine Fr.alloc ?_ _) | (simp; done) | (simp; omega))
    · first | omega | (unfold msz; omega)
  obtain rfl : va = vb := Decidable.not_not.1 hvv
  clear hvv
  by_cases h4 : writtenB va = true
  · have H := Lib.hid (show readB va xa ws va xb = false by unfold readB; rw [H1.out, H2.out, H3.out, h4]; simp)
    have H4 := Lib.hid h4
    clear h4
    go_wp2_with (go_at_call 41; refine (written_any _ _ _).mono ?_; rintro e w' ⟨rfl, hb⟩; obtain ⟨dl2, dk2, rfl⟩ := more_of hb; clear hb; rw [H4.out])
    refine readOut (N := N) (v := v) (i := 6) (j := 7) (fun _ => Try.func30) (fun _ => rfl) (fun _ => rfl) (fun _ => rfl) rfl (fun _ => rfl) (fun _ => rfl) ?_ hW (h S _ _ (ResR.none HN.out lW hv (by omega) ?_ ?_ H.out))
    · repeat' (first | (with_reducible exact Below.refl _ _) | (with_reducible refine moreB ?_ (by omega) _ _) | (with_reducible refine Below.setCell ?_ ?_ _) | (with_reducible refine allocB_ ?_ (by omega) _) | (with_reducible refine Fr.alloc ?_ _) | (simp; done) | (simp; omega))
    · repeat' (first | (with_reducible exact Below.refl _ _) | (with_reducible refine moreB ?_ (by omega) _ _) | (with_reducible refine Below.setCell ?_ ?_ _) | (with_reducible refine allocB_ ?_ (by omega) _) | (with_reducible refine Fr.alloc ?_ _) | (simp; done) | (simp; omega))
    · first | omega | (unfold msz; omega)
  replace h4 : writtenB va = false := by simpa using h4
  have H := Lib.hid (show readB va xa ws va xb = true by unfold readB; rw [H1.out, H2.out, H3.out, h4]; simp)
  have H4 := Lib.hid h4
  clear h4
  go_wp2_with (go_at_call 41; refine (written_any _ _ _).mono ?_; rintro e w' ⟨rfl, hb⟩; obtain ⟨dl2, dk2, rfl⟩ := more_of hb; clear hb; rw [H4.out])
  obtain ⟨W2, hWW⟩ : ∃ W2, W2 = more v dl2 dk2 := ⟨_, rfl⟩
  rw [← hWW]
  have hbel : Below v.heap.size v W2 := by rw [hWW]; exact more_below
  have hlW : Low N v W2 := (hbel.mono (by omega)).low
  have bX1 : Blk W2 N 26 #[.int .i64 va, .slice A xa.length capa] := (hv.blk bW1).below hbel (by omega)
  have rW2 : IntRow W2 W2.heap.size C ws := by
    have := hv.ints rW
    rw [← hv.size] at this
    exact this.mem hbel
  have zW2 : N + 2 ≤ W2.heap.size := by have := hbel.size; omega
  have lW2 : Low N u W2 := lW.comp (Low.comp (fun b _ => by rw [hv.heap]) hlW)
  refine ⟨hlW.less hW, ?_⟩
  clear hWW hbel hlW dl2 dk2 c1 c2 c3 s1 s2 s3 zv hv v lW bW1 bW2 zW rW
  clear W
  refine kh_seq (kh_region ?_)
  refine kh_list plainF_ok rfl ⟨_, Try.func30⟩ 0 3 (rest := [3, 4, 5, 6]) rfl (by decide) (by kernel_rfl) rfl fun v hv => ?_
  simp only [List.drop_succ_cons, List.drop_zero, List.take_succ_cons, List.take_zero]
  have c1 := (hv.blk bX1).cells 0
  simp at c1
  go_wp2_with fail
  refine ⟨fun _ _ => rfl, ?_⟩
  have rv := hv.ints rW2
  have ev := hv.heap
  rw [← hv.size] at rv
  obtain ⟨b, off, hA, hb, hcell⟩ := rv (by omega)
  refine kh_call (c := Ph.body42) rfl rfl (by simp [base]) rfl Try.func42 (by kernel_rfl) rfl ?_
  simp only [Try.ntmps42, List.size_toArray, List.length_cons, List.length_nil, Nat.reduceAdd, Nat.reduceSub, Array.replicate_succ, Array.replicate_zero, List.push_toArray, List.append_toArray, List.nil_append, List.cons_append, List.map_toArray, List.map_cons, List.map_nil, Array.size_map]
  walk_nrm
  refine kh_newSlot (W0 := W0) (Post := Post) (S := S) (ver := va) (A := C) (xs := ws) (cap := capw) n1 n6 ⟨b, off, hA, hb, hcell⟩ (by rw [ev]; omega) (fun S' u' hn => ?_)
  rw [Frame.finish_at]
  walk_nrm
  obtain ⟨R, hR⟩ : ∃ R, R = v.heap.size + 1 := ⟨_, rfl⟩
  obtain ⟨nz, nold, nrow⟩ := hn
  have hrow : Blk u' R 3 (ws.map iv).toArray := by rw [hR]; exact nrow
  have lN : Low N u u' := fun b hb => by rw [nold b (by rw [ev]; omega), ev]; exact lW2 b hb
  have hRN : N + 1 < R := by rw [hR, ev]; omega
  have zN : N ≤ u'.heap.size := by rw [nz, ev]; omega
  rw [← hR]
  clear hR nz nold nrow hcell hb hA rv c1 bX1 rW2 lW2 zW2 ev
  refine kh_list plainF_ok rfl ⟨_, Try.func30⟩ 4 3 (rest := []) rfl (by decide) (by kernel_rfl) rfl fun v3 hv3 => ?_
  simp only [List.drop_succ_cons, List.drop_zero, List.take_succ_cons, List.take_zero]
  go_wp2_with fail
  refine ⟨fun _ _ => rfl, kh_region_end (kh_retc fun todo => ?_)⟩
  refine tmpsRet (i := 6) (j := 7) Try.func30 rfl rfl rfl rfl rfl rfl (h S' _ _ ⟨?_, ?_, fun _ => ⟨R, ?_, rfl, ?_⟩, fun hx => (by rw [H.out] at hx; cases hx)⟩)
  · rw [← HN.out, hv3.size]; exact zN
  · rw [← HN.out]; exact lN.comp fun b _ => by rw [hv3.heap]
  · rw [← HN.out]; omega
  · exact hv3.blk hrow
end
end Go.Proofs.Ytlcjepgmmbdkmaa
