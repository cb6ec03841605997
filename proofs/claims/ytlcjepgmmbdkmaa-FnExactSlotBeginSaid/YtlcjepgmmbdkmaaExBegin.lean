/-
  FnExactSlotBegin, beside leavers.
-/
import Derived.Test.YtlcjepgmmbdkmaaBegin
import Derived.Test.YtlcjepgmmbdkmaaMk
set_option linter.unusedVariables false
namespace Go.Br
open Go.Br Go.Conc Go.RowKit Go.Proofs.Ytlcjepgmmbdkmaa
theorem Low.cellE {B : Nat} {u u' : World} (h : Low B u u') {b o : Nat} (hb : b < B) : u'.cell? ⟨b, o, none⟩ = u.cell? ⟨b, o, none⟩ := by simp [World.cell?, h b hb]
theorem Low.blkE {B : Nat} {u u' : World} (h : Low B u u') {b : Nat} {T : TypeId} {c : Array Value} (k : Blk u b T c) (hb : b < B) : Blk u' b T c := by
  unfold Blk at k ⊢; rw [h b hb]; exact k
theorem Low.intsE {B : Nat} {u u' : World} (h : Low B u u') {A : Option Addr} {xs : List Int} (k : IntRow u B A xs) : IntRow u' B A xs := k.keep fun b o hb => h.cellE hb
end Go.Br
namespace Go.Proofs.Ytlcjepgmmbdkmaa
open Go.Br Go.Conc Go.RowKit
open Go.Proofs.Ytlcjepgmmbdkmaa.Ph (plainF plainF_ok NewAt kh_newSlot)
open Go.ConcM (OsLater)
set_option linter.unusedSimpArgs false
set_option linter.unusedVariables false

/-- What was there stands; time has passed. -/
structure SinceE (W w : World) : Prop where
  size : W.heap.size ≤ w.heap.size
  old : ∀ b, b < W.heap.size → w.heap[b]? = W.heap[b]?
  out : w.output = W.output
  tape : w.tape = W.tape
  os : OsLater W.os w.os
theorem SinceE.of {W w u : World} {S : Nat → Bool} (h : At W S w u) : SinceE W w := ⟨h.size, h.old, h.out, h.tape, h.os⟩
def YesE (W : World) (v : Value) (w : World) : Prop := v = .bool true ∧ SinceE W w
theorem row_start {W : World} {B : Nat} {A : Option Addr} {xs : List Int} (h : IntRow W B A xs) (T : Nat → Question → Nat) (d : Nat) : IntRow (pos (hid (fun _ => false) W) T d) B A xs :=
  h.keep fun b o _ => by rw [cell_pos, cell_hid]; rfl
theorem lowAlloc {B : Nat} {u : World} (hB : B ≤ u.heap.size) (o : Obj) : Low B u (u.alloc o) := fun b hb => by rw [Below.heap_alloc _ _ _ (by omega)]
theorem Keep.lowE {B : Nat} {L : List Nat} {u u' : World} (k : Keep L u u') (hB : B ≤ u.heap.size) (hL : ∀ x ∈ L, B ≤ x) : Low B u u' := fun b hb => k.2 b (by omega) (fun hm => by have := hL b hm; omega)
/-- A box beside a row of numbers that is written. -/
theorem Blk.keepI {w w' : World} {b g T : Nat} {c C : Array Value} (h : Blk w b T c) (hG : Blk w g 3 C) (k : Keep [g] w w') (hT : T ≠ 3) : Blk w' b T c := by
  refine (k.2 b h.lt (fun hm => ?_)).trans h
  simp at hm
  subst hm
  have : (some (Obj.cells c T) : Option Obj) = some (.cells C 3) := h.symm.trans hG
  simp at this
  exact hT this.2
theorem Blk.keepN {w w' : World} {b g T : Nat} {c : Array Value} (h : Blk w b T c) (k : Keep [g] w w') (hn : b ≠ g) : Blk w' b T c := (k.2 b h.lt (by simpa using hn)).trans h
/-- What the operations of the region leave that compares the argument: what the program has seen, the argument, and its copy. -/
def VSl (ver : Int) (xs : List Int) (A : Option Addr) (cap : Nat) (g : Nat) (i : Nat) (v : Value) (w : World) : Prop := match i with
  | 0 => v = .agg #[.int .i64 ver, .slice (some ⟨g, 0, none⟩) xs.length xs.length]
  | 1 => v = .agg #[.int .i64 ver, .slice A xs.length cap]
  | 2 => ∃ g', v = .agg #[.int .i64 ver, .slice (some ⟨g', 0, none⟩) xs.length xs.length] ∧ IntRow w w.heap.size (some ⟨g', 0, none⟩) xs
  | _ => True
theorem VSl_keep {ver : Int} {xs : List Int} {A : Option Addr} {cap g : Nat} : ∀ (i : Nat) (v : Value) (w w' : World), Below w.heap.size w w' → VSl ver xs A cap g i v w → VSl ver xs A cap g i v w'
  | 0, _, _, _, _, h => h
  | 1, _, _, _, _, h => h
  | 2, _, _, _, hb, ⟨g', e, h⟩ => ⟨g', e, h.mem hb⟩
  | _ + 3, _, _, _, _, h => h

set_option maxRecDepth 100000 in
set_option maxHeartbeats 16000000 in
theorem exBegin (ver : Int) (A : Option Addr) (len cap : Nat) (xs : List Int) (W : World) (h0 : -9223372036854775808 ≤ ver ∧ ver ≤ 9223372036854775807) (hl : len ≤ cap) (hm : cap ≤ maxLen) (hlen : xs.length = len) (hp : IntRow W W.heap.size A xs) :
    Fin_ Try.prog (YesE W) (solo (G (Frame.enter Try.prog 4 #[.agg #[.int .i64 ver, .slice A len cap]] .normal) []) W) #[] := by
  subst hlen
  unfold maxLen at hm
  have hm' : cap ≤ 9223372036854775807 := by omega
  clear hm h0
  refine kh_start (X := fun _ => False) fun T d => ?_
  have hP := row_start hp T d
  obtain ⟨u, hu⟩ : ∃ u, u = pos (hid (fun _ => false) W) T d := ⟨_, rfl⟩
  rw [← hu] at hP ⊢
  have hz : u.heap.size = W.heap.size := by rw [hu, pos_heap, hid_size]
  clear hu hp T d
  rw [enter_at _ Try.func4 rfl]
  simp only [Try.ntmps4, List.size_toArray, List.length_cons, List.length_nil, Nat.reduceAdd, Nat.reduceSub, Array.replicate_succ, Array.replicate_zero, List.push_toArray, List.append_toArray, List.nil_append, List.cons_append]
  refine kh_seq (kh_piece plainF_ok rfl ⟨_, Try.func4⟩ (by kernel_rfl) rfl fun v0 hv0 => ?_)
  have hP0 := hv0.ints hP
  have HZ := Lib.hid hz
  clear hz
  go_wp2_with fail
  have hz := HZ.out
  have hz0 : v0.heap.size = W.heap.size := hv0.size.trans hz
  obtain ⟨y0, hy0⟩ : ∃ y, y = v0.alloc (.cells #[.int .i64 ver, .slice A xs.length cap] 24) := ⟨_, rfl⟩
  obtain ⟨Ma, hMa⟩ : ∃ M, M = v0.heap.size := ⟨_, rfl⟩
  rw [← hy0, ← hMa]
  have sa0 : Blk y0 Ma 24 #[.int .i64 ver, .slice A xs.length cap] := by rw [hy0, hMa]; exact Blk.new _ _ _ rfl
  have pa0 : IntRow y0 W.heap.size A xs := by rw [hy0]; exact Low.intsE (lowAlloc (by omega) _) hP0
  have za : W.heap.size ≤ Ma := by omega
  refine ⟨by rw [hy0]; exact lowAlloc (by omega) _, ?_⟩
  clear hy0 hMa hP0 hz0 hv0 hP hz HZ v0
  clear u
  refine kh_seq (kh_piece plainF_ok rfl ⟨_, Try.func4⟩ (by kernel_rfl) rfl fun v11 hv11 => ?_)
  have sa1 := hv11.blk sa0
  have pa1 := hv11.ints pa0
  clear sa0 pa0
  go_wp2_with fail
  refine ⟨fun _ _ => rfl, ?_⟩
  by_cases hbig : (1048576 : Int) < (xs.length : Int)
  · skip
    refine kh_seq (kh_piece plainF_ok rfl ⟨_, Try.func4⟩ (by kernel_rfl) rfl fun v12 hv12 => ?_)
    have sa2 := hv12.blk sa1
    have pa2 := hv12.ints pa1
    clear sa1 pa1
    have ca0 := sa2.cells 0
    have cb0 := sa2.cells 1
    simp at ca0 cb0
    go_wp2_with fail
    refine (szSlot_any ver A xs cap v12 hl hm').mono ?_
    rintro e w1 ⟨rfl, hb⟩
    rw [if_pos (by omega)]
    clear ca0 cb0
    go_wp2_with fail
    refine ⟨(hb.mono (by have := sa2.lt; omega)).low, ?_⟩
    have sa3 := sa2.below hb sa2.lt
    have pa3 := Low.intsE ((hb.mono (by have := sa2.lt; omega)).low) pa2
    clear sa2 pa2
    clear hb
    refine kh_seq (kh_piece plainF_ok rfl ⟨_, Try.func4⟩ (by kernel_rfl) rfl fun v13 hv13 => ?_)
    go_wp2_with fail
    refine ⟨fun _ _ => rfl, fun todo => ?_⟩
    exact kh_end Try.func4 rfl rfl rfl (by kernel_rfl) (x := .bool true) (fun T d => by simp [results, Try.results4, go_sem, Frame.at]) fun w hA => ⟨rfl, SinceE.of hA⟩
  refine kh_seq (kh_piece plainF_ok rfl ⟨_, Try.func4⟩ (by kernel_rfl) rfl fun v12 hv12 => ?_)
  have sa2 := hv12.blk sa1
  have pa2 := hv12.ints pa1
  clear sa1 pa1
  have ca0 := sa2.cells 0
  have cb0 := sa2.cells 1
  simp at ca0 cb0
  go_wp2_with fail
  refine (szSlot_any ver A xs cap v12 hl hm').mono ?_
  rintro e w1 ⟨rfl, hb⟩
  rw [if_neg (by omega)]
  clear ca0 cb0
  go_wp2_with fail
  refine ⟨(hb.mono (by have := sa2.lt; omega)).low, ?_⟩
  have sa3 := sa2.below hb sa2.lt
  have pa3 := Low.intsE ((hb.mono (by have := sa2.lt; omega)).low) pa2
  clear sa2 pa2
  clear hb
  have hn : xs.length ≤ 1048576 := by omega
  have hsz : ¬ 1048576 - (xs.length : Int) < 0 := by omega
  have hxl : xs.length ≤ 9223372036854775807 := by omega
  clear hbig
  refine kh_seq (kh_piece plainF_ok rfl ⟨_, Try.func4⟩ (by kernel_rfl) rfl fun v13 hv13 => ?_)
  have sa4 := hv13.blk sa3
  have pa4 := hv13.ints pa3
  clear sa3 pa3
  go_wp2_with fail
  refine ⟨fun _ _ => rfl, ?_⟩
  clear hsz
  cases hB : beginB ver xs
  · have HB := Lib.hid hB
    clear hB
    have hkx : ¬ (1 + (xs.length : Int) < 0) := by omega
    refine kh_seq (kh_piece plainF_ok rfl ⟨_, Try.func4⟩ (by kernel_rfl) rfl fun v14 hv14 => ?_)
    have sa5 := hv14.blk sa4
    have pa5 := hv14.ints pa4
    clear sa4 pa4
    have ca0 := sa5.cells 0
    have cb0 := sa5.cells 1
    simp at ca0 cb0
    go_wp2_with fail
    refine (toSlot_blk ver A xs cap v14 (pa5.more (by have := sa5.lt; omega)) hl hm' hn).mono ?_
    rintro e w2 ⟨g1, rfl, hg1, G1, hb⟩
    clear ca0 cb0
    have LL : Below W.heap.size _ _ := hb.mono (by have := sa5.lt; omega)
    have sa6 := sa5.below hb sa5.lt
    have pa6 := Low.intsE ((hb.mono (by have := sa5.lt; omega)).low) pa5
    clear sa5 pa5
    clear hb
    go_wp2_with fail
    refine (specBegin ver (some ⟨g1, 0, none⟩) xs xs.length w2 (IntRow.of_blk G1) (Nat.le_refl _) hxl).mono ?_
    rintro e w3 ⟨v', A2, c2, rfl, hb, hy, hn'⟩
    obtain rfl := hn' HB.out
    rw [HB.out]
    clear hy hn' hg1 G1
    have LL2 : Below W.heap.size _ _ := LL.trans (hb.mono (by have := sa6.lt; omega))
    have sa7 := sa6.below hb sa6.lt
    have pa7 := Low.intsE ((hb.mono (by have := sa6.lt; omega)).low) pa6
    clear sa6 pa6
    clear hb LL
    go_wp2_with fail
    refine ⟨LL2.low.comp (lowAlloc (by have := sa7.lt; omega) _), ?_⟩
    clear LL2
    obtain ⟨y15, hy15⟩ : ∃ y, y = w3.alloc (.cells #[.int .i64 0, .slice none 0 0] 26) := ⟨_, rfl⟩
    obtain ⟨Mo, hMo⟩ : ∃ M, M = w3.heap.size := ⟨_, rfl⟩
    rw [← hy15, ← hMo]
    have sa8 := sa7.alloc (.cells #[.int .i64 0, .slice none 0 0] 26)
    have pa8 := Low.intsE (lowAlloc (by have := sa7.lt; omega) (.cells #[.int .i64 0, .slice none 0 0] 26)) pa7
    clear sa7 pa7
    have so8 : Blk y15 Mo 26 #[.int .i64 0, .slice none 0 0] := by rw [hy15, hMo]; exact Blk.new _ _ _ rfl
    rw [← hy15] at sa8
    rw [← hy15] at pa8
    clear hy15 hMo
    refine kh_seq (kh_piece plainF_ok rfl ⟨_, Try.func4⟩ (by kernel_rfl) rfl fun v16 hv16 => ?_)
    have sa9 := hv16.blk sa8
    have so9 := hv16.blk so8
    have pa9 := hv16.ints pa8
    clear sa8 so8 pa8
    have ca0 := sa9.cells 0
    have cb0 := sa9.cells 1
    simp at ca0 cb0
    go_wp2_with fail
    refine (toSlot_blk ver A xs cap v16 (pa9.more (by have := sa9.lt; omega)) hl hm' hn).mono ?_
    rintro e w4 ⟨gx, rfl, hgx, cX, hb⟩
    clear ca0 cb0
    have zx : Ma ≤ gx := by have := sa9.lt; omega
    have LL : Below W.heap.size _ _ := hb.mono (by have := sa9.lt; omega)
    have sa10 := sa9.below hb sa9.lt
    have so10 := so9.below hb so9.lt
    have pa10 := Low.intsE ((hb.mono (by have := sa9.lt; omega)).low) pa9
    clear sa9 so9 pa9
    have cX10 := cX
    clear cX hb hgx
    go_wp2_with fail
    refine ⟨LL.low.comp (lowAlloc (by have := sa10.lt; omega) _), ?_⟩
    clear LL
    obtain ⟨y17, hy17⟩ : ∃ y, y = w4.alloc (.cells #[.int .i64 ver, .slice (some ⟨gx, 0, none⟩) xs.length xs.length] 26) := ⟨_, rfl⟩
    obtain ⟨Mx, hMx⟩ : ∃ M, M = w4.heap.size := ⟨_, rfl⟩
    rw [← hy17, ← hMx]
    have sa11 := sa10.alloc (.cells #[.int .i64 ver, .slice (some ⟨gx, 0, none⟩) xs.length xs.length] 26)
    have so11 := so10.alloc (.cells #[.int .i64 ver, .slice (some ⟨gx, 0, none⟩) xs.length xs.length] 26)
    have cX11 := cX10.alloc (.cells #[.int .i64 ver, .slice (some ⟨gx, 0, none⟩) xs.length xs.length] 26)
    have pa11 := Low.intsE (lowAlloc (by have := sa10.lt; omega) (.cells #[.int .i64 ver, .slice (some ⟨gx, 0, none⟩) xs.length xs.length] 26)) pa10
    clear sa10 so10 cX10 pa10
    have sx11 : Blk y17 Mx 26 #[.int .i64 ver, .slice (some ⟨gx, 0, none⟩) xs.length xs.length] := by rw [hy17, hMx]; exact Blk.new _ _ _ rfl
    rw [← hy17] at sa11
    rw [← hy17] at so11
    rw [← hy17] at cX11
    rw [← hy17] at pa11
    clear hy17 hMx
    refine kh_seq (kh_region ?_)
    refine kh_list plainF_ok rfl ⟨_, Try.func4⟩ 0 1 (rest := [1, 2, 3, 4, 5, 6, 7]) rfl (by decide) (by kernel_rfl) rfl fun v18a hv18a => ?_
    simp only [List.drop_succ_cons, List.drop_zero, List.take_succ_cons, List.take_zero]
    have sa12 := hv18a.blk sa11
    have so12 := hv18a.blk so11
    have sx12 := hv18a.blk sx11
    have cX12 := hv18a.blk cX11
    have pa12 := hv18a.ints pa11
    clear sa11 so11 sx11 cX11 pa11
    clear hv18a
    have ca0 := sx12.cells 0
    have cb0 := sx12.cells 1
    simp at ca0 cb0
    go_wp2_with fail
    clear ca0 cb0
    refine ⟨fun _ _ => rfl, ?_⟩
    refine kh_call (c := Try.f21.body.getD .skip) rfl rfl (by simp [base]) rfl Try.func21 (by kernel_rfl) rfl ?_
    simp only [Try.ntmps21, List.size_toArray, List.length_cons, List.length_nil, Nat.reduceAdd, Nat.reduceSub, Array.replicate_succ, Array.replicate_zero, List.push_toArray, List.append_toArray, List.nil_append, List.cons_append, List.map_toArray, List.map_cons, List.map_nil, Array.size_map]
    walk_nrm
    have zz := sa12.lt
    refine kh_begin (W0 := W) (Post := YesE W) (ver := ver) (A := (some ⟨gx, 0, none⟩)) (xs := xs) (cap := xs.length) (IntRow.of_blk cX12) (Nat.le_refl _) hxl (by omega) (fun S18 u18b x18 hR => ?_)
    rw [Frame.finish_at]
    walk_nrm
    clear zz
    obtain rfl := hR.no HB.out
    have sa13 := hR.low.blkE sa12 sa12.lt
    have so13 := hR.low.blkE so12 so12.lt
    have sx13 := hR.low.blkE sx12 sx12.lt
    have cX13 := hR.low.blkE cX12 cX12.lt
    have pa13 := Low.intsE (hR.low.less (by have := sa12.lt; omega)) pa12
    clear sa12 so12 sx12 cX12 pa12
    clear hR
    refine kh_list plainF_ok rfl ⟨_, Try.func4⟩ 2 6 (rest := []) rfl (by decide) (by kernel_rfl) rfl fun v18c hv18c => ?_
    simp only [List.drop_succ_cons, List.drop_zero, List.take_succ_cons, List.take_zero]
    have sa14 := hv18c.blk sa13
    have so14 := hv18c.blk so13
    have sx14 := hv18c.blk sx13
    have cX14 := hv18c.blk cX13
    have pa14 := hv18c.ints pa13
    clear sa13 so13 sx13 cX13 pa13
    clear hv18c
    go_wp2_with fail
    refine ⟨lowAlloc (by have := sa14.lt; omega) _, kh_region_end ?_⟩
    obtain ⟨y19, hy19⟩ : ∃ y, y = v18c.alloc (.cells #[.int .i64 0, .slice none 0 0] 26) := ⟨_, rfl⟩
    obtain ⟨Mg, hMg⟩ : ∃ M, M = v18c.heap.size := ⟨_, rfl⟩
    rw [← hy19, ← hMg]
    have sa15 := sa14.alloc (.cells #[.int .i64 0, .slice none 0 0] 26)
    have so15 := so14.alloc (.cells #[.int .i64 0, .slice none 0 0] 26)
    have sx15 := sx14.alloc (.cells #[.int .i64 0, .slice none 0 0] 26)
    have cX15 := cX14.alloc (.cells #[.int .i64 0, .slice none 0 0] 26)
    have pa15 := Low.intsE (lowAlloc (by have := sa14.lt; omega) (.cells #[.int .i64 0, .slice none 0 0] 26)) pa14
    clear sa14 so14 sx14 cX14 pa14
    have sg15 : Blk y19 Mg 26 #[.int .i64 0, .slice none 0 0] := by rw [hy19, hMg]; exact Blk.new _ _ _ rfl
    rw [← hy19] at sa15
    rw [← hy19] at so15
    rw [← hy19] at sx15
    rw [← hy19] at cX15
    rw [← hy19] at pa15
    clear hy19 hMg
    refine kh_seq (kh_piece plainF_ok rfl ⟨_, Try.func4⟩ (by kernel_rfl) rfl fun v20 hv20 => ?_)
    have sa16 := hv20.blk sa15
    have so16 := hv20.blk so15
    have sx16 := hv20.blk sx15
    have sg16 := hv20.blk sg15
    have cX16 := hv20.blk cX15
    have pa16 := hv20.ints pa15
    clear sa15 so15 sx15 sg15 cX15 pa15
    have ca0 := sg16.cells 0
    have cb0 := sg16.cells 1
    have ca1 := so16.cells 0
    have cb1 := so16.cells 1
    simp at ca0 cb0 ca1 cb1
    go_wp2_with fail
    refine (eqSlot_same 0 none none [] 0 0 v20 (IntRow.nil _ _ _) (IntRow.nil _ _ _) (Nat.le_refl _) (by omega)).mono ?_
    rintro e w5 ⟨rfl, hb⟩
    clear ca0 cb0 ca1 cb1
    go_wp2_with fail
    refine ⟨(hb.mono (by have := sa16.lt; omega)).low, ?_⟩
    have sa17 := sa16.below hb sa16.lt
    have so17 := so16.below hb so16.lt
    have sx17 := sx16.below hb sx16.lt
    have sg17 := sg16.below hb sg16.lt
    have cX17 := cX16.below hb cX16.lt
    have pa17 := Low.intsE ((hb.mono (by have := sa16.lt; omega)).low) pa16
    clear sa16 so16 sx16 sg16 cX16 pa16
    clear hb
    refine kh_seq (kh_piece plainF_ok rfl ⟨_, Try.func4⟩ (by kernel_rfl) rfl fun v21 hv21 => ?_)
    have sa18 := hv21.blk sa17
    have so18 := hv21.blk so17
    have sx18 := hv21.blk sx17
    have sg18 := hv21.blk sg17
    have cX18 := hv21.blk cX17
    have pa18 := hv21.ints pa17
    clear sa17 so17 sx17 sg17 cX17 pa17
    have ca0 := sx18.cells 0
    have cb0 := sx18.cells 1
    have ca1 := sa18.cells 0
    have cb1 := sa18.cells 1
    simp at ca0 cb0 ca1 cb1
    clear ca0 cb0 ca1 cb1
    go_upto_region 10 with fail
    have Xq := Lib.hid sx18
    have Yq := Lib.hid sa18
    have Pq := Lib.hid (show IntRow v21 v21.heap.size A xs from (pa18.more (by have := sa18.lt; omega)))
    refine wp_region_facts 3 [41, 42, 43] (VSl ver xs A cap gx) (fun _ U => Below v21.heap.size v21 U) (fun w w' => Below w.heap.size w w') (by kernel_rfl) (by kernel_rfl) (by rfl) ?hI VSl_keep ?hob ?hend
    case hI => exact (Below.refl _ _).drew
    case hob =>
      simp only [List.take_succ_cons, List.take_zero, Obs, and_true]
      refine ⟨?_, ?_, ?_⟩
      · intro k' x U hkn hI hd K hK0
        have hK := hK0.out
        simp only [setAll, Act.put, List.foldl_cons, List.foldl_nil, List.setIfInBounds_toArray, List.set_cons_succ, List.set_cons_zero] at hK ⊢
        have HK := Lib.hid hK
        clear hK hK0
        rw [if_pos (by rfl)]
        clear hd
        have cx0 := (Xq.out.below hI Xq.out.lt).cells 0
        have cx1 := (Xq.out.below hI Xq.out.lt).cells 1
        simp at cx0 cx1
        go_simp
        exact HK.out _ _ hI (Below.refl _ _) ⟨rfl, fun h => by cases h⟩
      · intro k' x U hkn hI hd K hK0
        have hK := hK0.out
        simp only [setAll, Act.put, List.foldl_cons, List.foldl_nil, List.setIfInBounds_toArray, List.set_cons_succ, List.set_cons_zero] at hK ⊢
        have HK := Lib.hid hK
        clear hK hK0
        rw [if_pos (by rfl)]
        clear hd
        have cx0 := (Yq.out.below hI Yq.out.lt).cells 0
        have cx1 := (Yq.out.below hI Yq.out.lt).cells 1
        simp at cx0 cx1
        go_simp
        exact HK.out _ _ hI (Below.refl _ _) ⟨rfl, fun h => by cases h⟩
      · intro k' x U hkn hI hd K hK0
        have hK := hK0.out
        simp only [setAll, Act.put, List.foldl_cons, List.foldl_nil, List.setIfInBounds_toArray, List.set_cons_succ, List.set_cons_zero] at hK ⊢
        have HK := Lib.hid hK
        clear hK hK0
        rw [if_pos (by rfl)]
        obtain e23 : x 42 = .agg #[.int .i64 ver, .slice A xs.length cap] := hd 1 _ rfl (by kernel_rfl)
        rw [e23] at HK ⊢
        clear e23
        clear hd
        go_simp
        refine (toSlot_any ver A xs cap U (Pq.out.mem hI) hl hm' hn).mono ?_
        rintro e w6 ⟨g6, rfl, hg6, hG, hb6⟩
        exact HK.out _ _ (Fr.step hI hb6) hb6 ⟨⟨g6, rfl, hG⟩, fun h => by cases h⟩
    case hend =>
      intro x U hI hV
      obtain e0 : x 41 = .agg #[.int .i64 ver, .slice (some ⟨gx, 0, none⟩) xs.length xs.length] := hV 0 _ (by omega) rfl
      obtain ⟨g9, e2, hg9⟩ : ∃ g9, x 43 = .agg #[.int .i64 ver, .slice (some ⟨g9, 0, none⟩) xs.length xs.length] ∧ IntRow U U.heap.size (some ⟨g9, 0, none⟩) xs := hV 2 _ (by omega) rfl
      clear hV
      simp only [setAll, Act.put, List.foldl_cons, List.foldl_nil, List.setIfInBounds_toArray, List.set_cons_succ, List.set_cons_zero, List.drop_succ_cons, List.drop_zero]
      rw [e0, e2]
      clear e0 e2 Xq Yq Pq
      have LU : Below W.heap.size _ _ := hI.mono (by have := sa18.lt; omega)
      have sa19 := sa18.below hI sa18.lt
      have so19 := so18.below hI so18.lt
      have sx19 := sx18.below hI sx18.lt
      have sg19 := sg18.below hI sg18.lt
      have cX19 := cX18.below hI cX18.lt
      have pa19 := Low.intsE ((hI.mono (by have := sa18.lt; omega)).low) pa18
      clear sa18 so18 sx18 sg18 cX18 pa18
      clear hI
      go_wp2_with fail
      refine (eqSlot_same ver _ _ xs _ _ U (IntRow.of_blk cX19) hg9 (Nat.le_refl _) hxl).mono ?_
      rintro e w7 ⟨rfl, hb⟩
      go_wp2_with fail
      refine ⟨(LU.trans (hb.mono (by have := sa19.lt; omega))).low, ?_⟩
      have sa20 := sa19.below hb sa19.lt
      have so20 := so19.below hb so19.lt
      have sx20 := sx19.below hb sx19.lt
      have sg20 := sg19.below hb sg19.lt
      have cX20 := cX19.below hb cX19.lt
      have pa20 := Low.intsE ((hb.mono (by have := sa19.lt; omega)).low) pa19
      clear sa19 so19 sx19 sg19 cX19 pa19
      clear hb LU hg9
      refine kh_seq (kh_piece plainF_ok rfl ⟨_, Try.func4⟩ (by kernel_rfl) rfl fun v22 hv22 => ?_)
      have sa21 := hv22.blk sa20
      have so21 := hv22.blk so20
      have sx21 := hv22.blk sx20
      have sg21 := hv22.blk sg20
      have cX21 := hv22.blk cX20
      have pa21 := hv22.ints pa20
      clear sa20 so20 sx20 sg20 cX20 pa20
      go_wp2_with fail
      refine ⟨fun _ _ => rfl, ?_⟩
      refine kh_seq (kh_piece plainF_ok rfl ⟨_, Try.func4⟩ (by kernel_rfl) rfl fun v23 hv23 => ?_)
      have sa22 := hv23.blk sa21
      have so22 := hv23.blk so21
      have sx22 := hv23.blk sx21
      have sg22 := hv23.blk sg21
      have cX22 := hv23.blk cX21
      have pa22 := hv23.ints pa21
      clear sa21 so21 sx21 sg21 cX21 pa21
      have ca0 := sx22.cells 0
      have cb0 := sx22.cells 1
      simp at ca0 cb0
      go_wp2_with fail
      refine (markSlot1 ver gx xs.length xs.length _ 1 v23 cX22 (by simp) (by omega) (by omega) (Nat.le_refl _) (by omega)).mono ?_
      rintro e w8 ⟨rfl, ⟨CX, hCX, hMX⟩, hK⟩
      clear ca0 cb0
      go_wp2_with fail
      refine ⟨Keep.lowE hK (by have := sa22.lt; omega) (by simp; omega), ?_⟩
      have sa23 := Blk.keepI sa22 cX22 hK (by decide)
      have so23 := Blk.keepI so22 cX22 hK (by decide)
      have sx23 := Blk.keepI sx22 cX22 hK (by decide)
      have sg23 := Blk.keepI sg22 cX22 hK (by decide)
      have cX23 := hCX
      have pa23 := Low.intsE (Keep.lowE hK (by have := sa22.lt; omega) (by simp; omega)) pa22
      clear sa22 so22 sx22 sg22 cX22 pa22
      clear hK hCX
      refine kh_seq (kh_piece plainF_ok rfl ⟨_, Try.func4⟩ (by kernel_rfl) rfl fun v24 hv24 => ?_)
      have sa24 := hv24.blk sa23
      have so24 := hv24.blk so23
      have sx24 := hv24.blk sx23
      have sg24 := hv24.blk sg23
      have cX24 := hv24.blk cX23
      have pa24 := hv24.ints pa23
      clear sa23 so23 sx23 sg23 cX23 pa23
      have ca0 := sg24.cells 0
      have cb0 := sg24.cells 1
      have ca1 := so24.cells 0
      have cb1 := so24.cells 1
      simp at ca0 cb0 ca1 cb1
      go_wp2_with fail
      refine (eqSlot_same 0 none none [] 0 0 v24 (IntRow.nil _ _ _) (IntRow.nil _ _ _) (Nat.le_refl _) (by omega)).mono ?_
      rintro e w5 ⟨rfl, hb⟩
      clear ca0 cb0 ca1 cb1
      go_wp2_with fail
      refine ⟨(hb.mono (by have := sa24.lt; omega)).low, ?_⟩
      have sa25 := sa24.below hb sa24.lt
      have so25 := so24.below hb so24.lt
      have sx25 := sx24.below hb sx24.lt
      have sg25 := sg24.below hb sg24.lt
      have cX25 := cX24.below hb cX24.lt
      have pa25 := Low.intsE ((hb.mono (by have := sa24.lt; omega)).low) pa24
      clear sa24 so24 sx24 sg24 cX24 pa24
      clear hb
      refine kh_seq (kh_piece plainF_ok rfl ⟨_, Try.func4⟩ (by kernel_rfl) rfl fun v25 hv25 => ?_)
      have sa26 := hv25.blk sa25
      have so26 := hv25.blk so25
      have sx26 := hv25.blk sx25
      have sg26 := hv25.blk sg25
      have cX26 := hv25.blk cX25
      have pa26 := hv25.ints pa25
      clear sa25 so25 sx25 sg25 cX25 pa25
      go_wp2_with fail
      refine ⟨fun _ _ => rfl, ?_⟩
      refine kh_seq (kh_piece plainF_ok rfl ⟨_, Try.func4⟩ (by kernel_rfl) rfl fun v26 hv26 => ?_)
      have sa27 := hv26.blk sa26
      have so27 := hv26.blk so26
      have sx27 := hv26.blk sx26
      have sg27 := hv26.blk sg26
      have cX27 := hv26.blk cX26
      have pa27 := hv26.ints pa26
      clear sa26 so26 sx26 sg26 cX26 pa26
      have ca0 := sg27.cells 0
      have cb0 := sg27.cells 1
      simp at ca0 cb0
      go_wp2_with fail
      refine (markSlot0 0 none 0 1 v26).mono ?_
      rintro e w8 ⟨rfl, hb⟩
      clear ca0 cb0
      go_wp2_with fail
      refine ⟨(hb.mono (by have := sa27.lt; omega)).low, ?_⟩
      have sa28 := sa27.below hb sa27.lt
      have so28 := so27.below hb so27.lt
      have sx28 := sx27.below hb sx27.lt
      have sg28 := sg27.below hb sg27.lt
      have cX28 := cX27.below hb cX27.lt
      have pa28 := Low.intsE ((hb.mono (by have := sa27.lt; omega)).low) pa27
      clear sa27 so27 sx27 sg27 cX27 pa27
      clear hb
      refine kh_seq (kh_piece plainF_ok rfl ⟨_, Try.func4⟩ (by kernel_rfl) rfl fun v27 hv27 => ?_)
      have sa29 := hv27.blk sa28
      have so29 := hv27.blk so28
      have sx29 := hv27.blk sx28
      have sg29 := hv27.blk sg28
      have cX29 := hv27.blk cX28
      have pa29 := hv27.ints pa28
      clear sa28 so28 sx28 sg28 cX28 pa28
      go_wp2_with fail
      refine ⟨fun _ _ => rfl, ?_⟩
      refine kh_seq (kh_piece plainF_ok rfl ⟨_, Try.func4⟩ (by kernel_rfl) rfl fun v28 hv28 => ?_)
      have sa30 := hv28.blk sa29
      have so30 := hv28.blk so29
      have sx30 := hv28.blk sx29
      have sg30 := hv28.blk sg29
      have cX30 := hv28.blk cX29
      have pa30 := hv28.ints pa29
      clear sa29 so29 sx29 sg29 cX29 pa29
      have ca0 := sg30.cells 0
      have cb0 := sg30.cells 1
      simp at ca0 cb0
      go_wp2_with fail
      refine (heldSlot0 0 none 0 1 v28 (by omega)).mono ?_
      rintro e w8 ⟨rfl, hb⟩
      clear ca0 cb0
      go_wp2_with fail
      refine ⟨(hb.mono (by have := sa30.lt; omega)).low, ?_⟩
      have sa31 := sa30.below hb sa30.lt
      have so31 := so30.below hb so30.lt
      have sx31 := sx30.below hb sx30.lt
      have sg31 := sg30.below hb sg30.lt
      have cX31 := cX30.below hb cX30.lt
      have pa31 := Low.intsE ((hb.mono (by have := sa30.lt; omega)).low) pa30
      clear sa30 so30 sx30 sg30 cX30 pa30
      clear hb
      refine kh_seq (kh_piece plainF_ok rfl ⟨_, Try.func4⟩ (by kernel_rfl) rfl fun v29 hv29 => ?_)
      have sa32 := hv29.blk sa31
      have so32 := hv29.blk so31
      have sx32 := hv29.blk sx31
      have sg32 := hv29.blk sg31
      have cX32 := hv29.blk cX31
      have pa32 := hv29.ints pa31
      clear sa31 so31 sx31 sg31 cX31 pa31
      go_wp2_with fail
      refine ⟨fun _ _ => rfl, ?_⟩
      refine kh_seq (kh_piece plainF_ok rfl ⟨_, Try.func4⟩ (by kernel_rfl) rfl fun v30 hv30 => ?_)
      have sa33 := hv30.blk sa32
      have so33 := hv30.blk so32
      have sx33 := hv30.blk sx32
      have sg33 := hv30.blk sg32
      have cX33 := hv30.blk cX32
      have pa33 := hv30.ints pa32
      clear sa32 so32 sx32 sg32 cX32 pa32
      go_wp2_with fail
      refine ⟨fun _ _ => rfl, ?_⟩
      refine kh_seq (kh_region ?_)
      refine kh_list plainF_ok rfl ⟨_, Try.func4⟩ 0 2 (rest := [2, 3, 4, 5, 6, 7, 8]) rfl (by decide) (by kernel_rfl) rfl fun v31a hv31a => ?_
      simp only [List.drop_succ_cons, List.drop_zero, List.take_succ_cons, List.take_zero]
      have sa34 := hv31a.blk sa33
      have so34 := hv31a.blk so33
      have sx34 := hv31a.blk sx33
      have sg34 := hv31a.blk sg33
      have cX34 := hv31a.blk cX33
      have pa34 := hv31a.ints pa33
      clear sa33 so33 sx33 sg33 cX33 pa33
      clear hv31a
      have ca0 := sa34.cells 0
      have cb0 := sa34.cells 1
      simp at ca0 cb0
      go_wp2_with fail
      refine (toSlot_blk ver A xs cap v31a (pa34.more (by have := sa34.lt; omega)) hl hm' hn).mono ?_
      rintro e w9 ⟨g3, rfl, hg3, cY, hb⟩
      clear ca0 cb0
      go_wp2_with fail
      refine ⟨(hb.mono (by have := sa34.lt; omega)).low, ?_⟩
      have sa35 := sa34.below hb sa34.lt
      have so35 := so34.below hb so34.lt
      have sx35 := sx34.below hb sx34.lt
      have sg35 := sg34.below hb sg34.lt
      have cX35 := cX34.below hb cX34.lt
      have pa35 := Low.intsE ((hb.mono (by have := sa34.lt; omega)).low) pa34
      clear sa34 so34 sx34 sg34 cX34 pa34
      have cY35 := cY
      clear cY hb hg3
      refine kh_call (c := Try.f21.body.getD .skip) rfl rfl (by simp [base]) rfl Try.func21 (by kernel_rfl) rfl ?_
      simp only [Try.ntmps21, List.size_toArray, List.length_cons, List.length_nil, Nat.reduceAdd, Nat.reduceSub, Array.replicate_succ, Array.replicate_zero, List.push_toArray, List.append_toArray, List.nil_append, List.cons_append, List.map_toArray, List.map_cons, List.map_nil, Array.size_map]
      walk_nrm
      have zz := sa35.lt
      refine kh_begin (W0 := W) (Post := YesE W) (ver := ver) (A := (some ⟨g3, 0, none⟩)) (xs := xs) (cap := xs.length) (IntRow.of_blk cY35) (Nat.le_refl _) hxl (by omega) (fun S31 u31b x31 hR => ?_)
      rw [Frame.finish_at]
      walk_nrm
      clear zz
      obtain rfl := hR.no HB.out
      have sa36 := hR.low.blkE sa35 sa35.lt
      have so36 := hR.low.blkE so35 so35.lt
      have sx36 := hR.low.blkE sx35 sx35.lt
      have sg36 := hR.low.blkE sg35 sg35.lt
      have cX36 := hR.low.blkE cX35 cX35.lt
      have cY36 := hR.low.blkE cY35 cY35.lt
      have pa36 := Low.intsE (hR.low.less (by have := sa35.lt; omega)) pa35
      clear sa35 so35 sx35 sg35 cX35 cY35 pa35
      clear hR
      refine kh_list plainF_ok rfl ⟨_, Try.func4⟩ 3 6 (rest := []) rfl (by decide) (by kernel_rfl) rfl fun v31c hv31c => ?_
      simp only [List.drop_succ_cons, List.drop_zero, List.take_succ_cons, List.take_zero]
      have sa37 := hv31c.blk sa36
      have so37 := hv31c.blk so36
      have sx37 := hv31c.blk sx36
      have sg37 := hv31c.blk sg36
      have cX37 := hv31c.blk cX36
      have cY37 := hv31c.blk cY36
      have pa37 := hv31c.ints pa36
      clear sa36 so36 sx36 sg36 cX36 cY36 pa36
      clear hv31c
      go_wp2_with fail
      refine ⟨lowAlloc (by have := sa37.lt; omega) _, kh_region_end ?_⟩
      obtain ⟨y32, hy32⟩ : ∃ y, y = v31c.alloc (.cells #[.int .i64 0, .slice none 0 0] 26) := ⟨_, rfl⟩
      obtain ⟨Mh, hMh⟩ : ∃ M, M = v31c.heap.size := ⟨_, rfl⟩
      rw [← hy32, ← hMh]
      have sa38 := sa37.alloc (.cells #[.int .i64 0, .slice none 0 0] 26)
      have so38 := so37.alloc (.cells #[.int .i64 0, .slice none 0 0] 26)
      have sx38 := sx37.alloc (.cells #[.int .i64 0, .slice none 0 0] 26)
      have sg38 := sg37.alloc (.cells #[.int .i64 0, .slice none 0 0] 26)
      have cX38 := cX37.alloc (.cells #[.int .i64 0, .slice none 0 0] 26)
      have cY38 := cY37.alloc (.cells #[.int .i64 0, .slice none 0 0] 26)
      have pa38 := Low.intsE (lowAlloc (by have := sa37.lt; omega) (.cells #[.int .i64 0, .slice none 0 0] 26)) pa37
      clear sa37 so37 sx37 sg37 cX37 cY37 pa37
      have sh38 : Blk y32 Mh 26 #[.int .i64 0, .slice none 0 0] := by rw [hy32, hMh]; exact Blk.new _ _ _ rfl
      rw [← hy32] at sa38
      rw [← hy32] at so38
      rw [← hy32] at sx38
      rw [← hy32] at sg38
      rw [← hy32] at cX38
      rw [← hy32] at cY38
      rw [← hy32] at pa38
      clear hy32 hMh
      refine kh_seq (kh_piece plainF_ok rfl ⟨_, Try.func4⟩ (by kernel_rfl) rfl fun v33 hv33 => ?_)
      have sa39 := hv33.blk sa38
      have so39 := hv33.blk so38
      have sx39 := hv33.blk sx38
      have sg39 := hv33.blk sg38
      have sh39 := hv33.blk sh38
      have cX39 := hv33.blk cX38
      have cY39 := hv33.blk cY38
      have pa39 := hv33.ints pa38
      clear sa38 so38 sx38 sg38 sh38 cX38 cY38 pa38
      have ca0 := sh39.cells 0
      have cb0 := sh39.cells 1
      have ca1 := so39.cells 0
      have cb1 := so39.cells 1
      simp at ca0 cb0 ca1 cb1
      go_wp2_with fail
      refine (eqSlot_same 0 none none [] 0 0 v33 (IntRow.nil _ _ _) (IntRow.nil _ _ _) (Nat.le_refl _) (by omega)).mono ?_
      rintro e w5 ⟨rfl, hb⟩
      clear ca0 cb0 ca1 cb1
      go_wp2_with fail
      refine ⟨(hb.mono (by have := sa39.lt; omega)).low, ?_⟩
      have sa40 := sa39.below hb sa39.lt
      have so40 := so39.below hb so39.lt
      have sx40 := sx39.below hb sx39.lt
      have sg40 := sg39.below hb sg39.lt
      have sh40 := sh39.below hb sh39.lt
      have cX40 := cX39.below hb cX39.lt
      have cY40 := cY39.below hb cY39.lt
      have pa40 := Low.intsE ((hb.mono (by have := sa39.lt; omega)).low) pa39
      clear sa39 so39 sx39 sg39 sh39 cX39 cY39 pa39
      clear hb
      refine kh_seq (kh_piece plainF_ok rfl ⟨_, Try.func4⟩ (by kernel_rfl) rfl fun v34 hv34 => ?_)
      have sa41 := hv34.blk sa40
      have so41 := hv34.blk so40
      have sx41 := hv34.blk sx40
      have sg41 := hv34.blk sg40
      have sh41 := hv34.blk sh40
      have cX41 := hv34.blk cX40
      have cY41 := hv34.blk cY40
      have pa41 := hv34.ints pa40
      clear sa40 so40 sx40 sg40 sh40 cX40 cY40 pa40
      go_wp2_with fail
      refine ⟨fun _ _ => rfl, ?_⟩
      refine kh_piece plainF_ok rfl ⟨_, Try.func4⟩ (by kernel_rfl) rfl fun v35 hv35 => ?_
      have sa42 := hv35.blk sa41
      have so42 := hv35.blk so41
      have sx42 := hv35.blk sx41
      have sg42 := hv35.blk sg41
      have sh42 := hv35.blk sh41
      have cX42 := hv35.blk cX41
      have cY42 := hv35.blk cY41
      have pa42 := hv35.ints pa41
      clear sa41 so41 sx41 sg41 sh41 cX41 cY41 pa41
      have ca0 := sg42.cells 0
      have cb0 := sg42.cells 1
      simp at ca0 cb0
      go_wp2_with fail
      refine (heldSlot0 0 none 0 1 v35 (by omega)).mono ?_
      rintro e w8 ⟨rfl, hb⟩
      clear ca0 cb0
      go_wp2_with fail
      refine ⟨(hb.mono (by have := sa42.lt; omega)).low, fun todo => ?_⟩
      exact kh_end Try.func4 rfl rfl rfl (by kernel_rfl) (x := .bool true) (fun T d => by simp [results, Try.results4, go_sem, Frame.at]) fun w hA => ⟨rfl, SinceE.of hA⟩
  have HB := Lib.hid hB
  clear hB
  have hyn : xs.length ≤ 1048576 := by omega
  have hyx : xs.length ≤ 9223372036854775807 := by omega
  have hk0 : ¬ (1 + (xs.length : Int) < 0) := by omega
  have hkx : ¬ (1 + (xs.length : Int) < 0) := by omega
  refine kh_seq (kh_piece plainF_ok rfl ⟨_, Try.func4⟩ (by kernel_rfl) rfl fun v14 hv14 => ?_)
  have sa5 := hv14.blk sa4
  have pa5 := hv14.ints pa4
  clear sa4 pa4
  have ca0 := sa5.cells 0
  have cb0 := sa5.cells 1
  simp at ca0 cb0
  go_wp2_with fail
  refine (toSlot_blk ver A xs cap v14 (pa5.more (by have := sa5.lt; omega)) hl hm' hn).mono ?_
  rintro e w2 ⟨g1, rfl, hg1, G1, hb⟩
  clear ca0 cb0
  have LL : Below W.heap.size _ _ := hb.mono (by have := sa5.lt; omega)
  have sa6 := sa5.below hb sa5.lt
  have pa6 := Low.intsE ((hb.mono (by have := sa5.lt; omega)).low) pa5
  clear sa5 pa5
  clear hb
  go_wp2_with fail
  refine (specBegin ver (some ⟨g1, 0, none⟩) xs xs.length w2 (IntRow.of_blk G1) (Nat.le_refl _) hxl).mono ?_
  rintro e w3 ⟨v', A2, c2, rfl, hb, hy, hn'⟩
  obtain ⟨rfl, a1, a2, a3⟩ := hy HB.out
  rw [HB.out]
  clear hy hn' hg1 G1
  have LL2 : Below W.heap.size _ _ := LL.trans (hb.mono (by have := sa6.lt; omega))
  have sa7 := sa6.below hb sa6.lt
  have pa7 := Low.intsE ((hb.mono (by have := sa6.lt; omega)).low) pa6
  clear sa6 pa6
  clear hb LL
  obtain ⟨go, Co, rfl, cO, hCo⟩ := a1
  have cO7 := cO
  clear cO
  go_wp2_with fail
  refine ⟨LL2.low.comp (lowAlloc (by have := sa7.lt; omega) _), ?_⟩
  clear LL2
  obtain ⟨y15, hy15⟩ : ∃ y, y = w3.alloc (.cells #[.int .i64 (ver + 1), .slice (some ⟨go, 0, none⟩) xs.length c2] 26) := ⟨_, rfl⟩
  obtain ⟨Mo, hMo⟩ : ∃ M, M = w3.heap.size := ⟨_, rfl⟩
  rw [← hy15, ← hMo]
  have sa8 := sa7.alloc (.cells #[.int .i64 (ver + 1), .slice (some ⟨go, 0, none⟩) xs.length c2] 26)
  have cO8 := cO7.alloc (.cells #[.int .i64 (ver + 1), .slice (some ⟨go, 0, none⟩) xs.length c2] 26)
  have pa8 := Low.intsE (lowAlloc (by have := sa7.lt; omega) (.cells #[.int .i64 (ver + 1), .slice (some ⟨go, 0, none⟩) xs.length c2] 26)) pa7
  clear sa7 cO7 pa7
  have so8 : Blk y15 Mo 26 #[.int .i64 (ver + 1), .slice (some ⟨go, 0, none⟩) xs.length c2] := by rw [hy15, hMo]; exact Blk.new _ _ _ rfl
  rw [← hy15] at sa8
  rw [← hy15] at cO8
  rw [← hy15] at pa8
  clear hy15 hMo
  refine kh_seq (kh_piece plainF_ok rfl ⟨_, Try.func4⟩ (by kernel_rfl) rfl fun v16 hv16 => ?_)
  have sa9 := hv16.blk sa8
  have so9 := hv16.blk so8
  have cO9 := hv16.blk cO8
  have pa9 := hv16.ints pa8
  clear sa8 so8 cO8 pa8
  have ca0 := sa9.cells 0
  have cb0 := sa9.cells 1
  simp at ca0 cb0
  go_wp2_with fail
  refine (toSlot_blk ver A xs cap v16 (pa9.more (by have := sa9.lt; omega)) hl hm' hn).mono ?_
  rintro e w4 ⟨gx, rfl, hgx, cX, hb⟩
  clear ca0 cb0
  have zx : Ma ≤ gx := by have := sa9.lt; omega
  have o1 : go < gx := by have := cO9.lt; omega
  have LL : Below W.heap.size _ _ := hb.mono (by have := sa9.lt; omega)
  have sa10 := sa9.below hb sa9.lt
  have so10 := so9.below hb so9.lt
  have cO10 := cO9.below hb cO9.lt
  have pa10 := Low.intsE ((hb.mono (by have := sa9.lt; omega)).low) pa9
  clear sa9 so9 cO9 pa9
  have cX10 := cX
  clear cX hb hgx
  go_wp2_with fail
  refine ⟨LL.low.comp (lowAlloc (by have := sa10.lt; omega) _), ?_⟩
  clear LL
  obtain ⟨y17, hy17⟩ : ∃ y, y = w4.alloc (.cells #[.int .i64 ver, .slice (some ⟨gx, 0, none⟩) xs.length xs.length] 26) := ⟨_, rfl⟩
  obtain ⟨Mx, hMx⟩ : ∃ M, M = w4.heap.size := ⟨_, rfl⟩
  rw [← hy17, ← hMx]
  have sa11 := sa10.alloc (.cells #[.int .i64 ver, .slice (some ⟨gx, 0, none⟩) xs.length xs.length] 26)
  have so11 := so10.alloc (.cells #[.int .i64 ver, .slice (some ⟨gx, 0, none⟩) xs.length xs.length] 26)
  have cO11 := cO10.alloc (.cells #[.int .i64 ver, .slice (some ⟨gx, 0, none⟩) xs.length xs.length] 26)
  have cX11 := cX10.alloc (.cells #[.int .i64 ver, .slice (some ⟨gx, 0, none⟩) xs.length xs.length] 26)
  have pa11 := Low.intsE (lowAlloc (by have := sa10.lt; omega) (.cells #[.int .i64 ver, .slice (some ⟨gx, 0, none⟩) xs.length xs.length] 26)) pa10
  clear sa10 so10 cO10 cX10 pa10
  have sx11 : Blk y17 Mx 26 #[.int .i64 ver, .slice (some ⟨gx, 0, none⟩) xs.length xs.length] := by rw [hy17, hMx]; exact Blk.new _ _ _ rfl
  rw [← hy17] at sa11
  rw [← hy17] at so11
  rw [← hy17] at cO11
  rw [← hy17] at cX11
  rw [← hy17] at pa11
  clear hy17 hMx
  refine kh_seq (kh_region ?_)
  refine kh_list plainF_ok rfl ⟨_, Try.func4⟩ 0 1 (rest := [1, 2, 3, 4, 5, 6, 7]) rfl (by decide) (by kernel_rfl) rfl fun v18a hv18a => ?_
  simp only [List.drop_succ_cons, List.drop_zero, List.take_succ_cons, List.take_zero]
  have sa12 := hv18a.blk sa11
  have so12 := hv18a.blk so11
  have sx12 := hv18a.blk sx11
  have cO12 := hv18a.blk cO11
  have cX12 := hv18a.blk cX11
  have pa12 := hv18a.ints pa11
  clear sa11 so11 sx11 cO11 cX11 pa11
  clear hv18a
  have ca0 := sx12.cells 0
  have cb0 := sx12.cells 1
  simp at ca0 cb0
  go_wp2_with fail
  clear ca0 cb0
  refine ⟨fun _ _ => rfl, ?_⟩
  refine kh_call (c := Try.f21.body.getD .skip) rfl rfl (by simp [base]) rfl Try.func21 (by kernel_rfl) rfl ?_
  simp only [Try.ntmps21, List.size_toArray, List.length_cons, List.length_nil, Nat.reduceAdd, Nat.reduceSub, Array.replicate_succ, Array.replicate_zero, List.push_toArray, List.append_toArray, List.nil_append, List.cons_append, List.map_toArray, List.map_cons, List.map_nil, Array.size_map]
  walk_nrm
  have zz := sa12.lt
  refine kh_begin (W0 := W) (Post := YesE W) (ver := ver) (A := (some ⟨gx, 0, none⟩)) (xs := xs) (cap := xs.length) (IntRow.of_blk cX12) (Nat.le_refl _) hxl (by omega) (fun S18 u18b x18 hR => ?_)
  rw [Frame.finish_at]
  walk_nrm
  clear zz
  obtain ⟨R, hR1, rfl, hrow⟩ := hR.yes HB.out
  have loO := cO12.lt
  have loX := cX12.lt
  have oRO : go < R := by omega
  have oRX : gx < R := by omega
  have oRa : Ma < R := by have := sa12.lt; omega
  clear hR1 loO loX
  have sa13 := hR.low.blkE sa12 sa12.lt
  have so13 := hR.low.blkE so12 so12.lt
  have sx13 := hR.low.blkE sx12 sx12.lt
  have cO13 := hR.low.blkE cO12 cO12.lt
  have cX13 := hR.low.blkE cX12 cX12.lt
  have pa13 := Low.intsE (hR.low.less (by have := sa12.lt; omega)) pa12
  clear sa12 so12 sx12 cO12 cX12 pa12
  have cR13 : Blk u18b R 3 (xs.map iv).toArray := hrow
  clear hrow
  clear hR
  refine kh_list plainF_ok rfl ⟨_, Try.func4⟩ 2 6 (rest := []) rfl (by decide) (by kernel_rfl) rfl fun v18c hv18c => ?_
  simp only [List.drop_succ_cons, List.drop_zero, List.take_succ_cons, List.take_zero]
  have sa14 := hv18c.blk sa13
  have so14 := hv18c.blk so13
  have sx14 := hv18c.blk sx13
  have cO14 := hv18c.blk cO13
  have cX14 := hv18c.blk cX13
  have cR14 := hv18c.blk cR13
  have pa14 := hv18c.ints pa13
  clear sa13 so13 sx13 cO13 cX13 cR13 pa13
  clear hv18c
  go_wp2_with fail
  refine ⟨lowAlloc (by have := sa14.lt; omega) _, kh_region_end ?_⟩
  obtain ⟨y19, hy19⟩ : ∃ y, y = v18c.alloc (.cells #[.int .i64 (ver + 1), .slice (some ⟨R, 0, none⟩) xs.length xs.length] 26) := ⟨_, rfl⟩
  obtain ⟨Mg, hMg⟩ : ∃ M, M = v18c.heap.size := ⟨_, rfl⟩
  rw [← hy19, ← hMg]
  have sa15 := sa14.alloc (.cells #[.int .i64 (ver + 1), .slice (some ⟨R, 0, none⟩) xs.length xs.length] 26)
  have so15 := so14.alloc (.cells #[.int .i64 (ver + 1), .slice (some ⟨R, 0, none⟩) xs.length xs.length] 26)
  have sx15 := sx14.alloc (.cells #[.int .i64 (ver + 1), .slice (some ⟨R, 0, none⟩) xs.length xs.length] 26)
  have cO15 := cO14.alloc (.cells #[.int .i64 (ver + 1), .slice (some ⟨R, 0, none⟩) xs.length xs.length] 26)
  have cX15 := cX14.alloc (.cells #[.int .i64 (ver + 1), .slice (some ⟨R, 0, none⟩) xs.length xs.length] 26)
  have cR15 := cR14.alloc (.cells #[.int .i64 (ver + 1), .slice (some ⟨R, 0, none⟩) xs.length xs.length] 26)
  have pa15 := Low.intsE (lowAlloc (by have := sa14.lt; omega) (.cells #[.int .i64 (ver + 1), .slice (some ⟨R, 0, none⟩) xs.length xs.length] 26)) pa14
  clear sa14 so14 sx14 cO14 cX14 cR14 pa14
  have sg15 : Blk y19 Mg 26 #[.int .i64 (ver + 1), .slice (some ⟨R, 0, none⟩) xs.length xs.length] := by rw [hy19, hMg]; exact Blk.new _ _ _ rfl
  rw [← hy19] at sa15
  rw [← hy19] at so15
  rw [← hy19] at sx15
  rw [← hy19] at cO15
  rw [← hy19] at cX15
  rw [← hy19] at cR15
  rw [← hy19] at pa15
  clear hy19 hMg
  refine kh_seq (kh_piece plainF_ok rfl ⟨_, Try.func4⟩ (by kernel_rfl) rfl fun v20 hv20 => ?_)
  have sa16 := hv20.blk sa15
  have so16 := hv20.blk so15
  have sx16 := hv20.blk sx15
  have sg16 := hv20.blk sg15
  have cO16 := hv20.blk cO15
  have cX16 := hv20.blk cX15
  have cR16 := hv20.blk cR15
  have pa16 := hv20.ints pa15
  clear sa15 so15 sx15 sg15 cO15 cX15 cR15 pa15
  have ca0 := sg16.cells 0
  have cb0 := sg16.cells 1
  have ca1 := so16.cells 0
  have cb1 := so16.cells 1
  simp at ca0 cb0 ca1 cb1
  go_wp2_with fail
  refine (eqSlot_same (ver + 1) (some ⟨R, 0, none⟩) (some ⟨go, 0, none⟩) xs xs.length c2 v20 (IntRow.of_blk cR16) (Row1.row ⟨go, Co, rfl, cO16, hCo⟩) (Nat.le_refl _) hyx).mono ?_
  rintro e w5 ⟨rfl, hb⟩
  clear ca0 cb0 ca1 cb1
  go_wp2_with fail
  refine ⟨(hb.mono (by have := sa16.lt; omega)).low, ?_⟩
  have sa17 := sa16.below hb sa16.lt
  have so17 := so16.below hb so16.lt
  have sx17 := sx16.below hb sx16.lt
  have sg17 := sg16.below hb sg16.lt
  have cO17 := cO16.below hb cO16.lt
  have cX17 := cX16.below hb cX16.lt
  have cR17 := cR16.below hb cR16.lt
  have pa17 := Low.intsE ((hb.mono (by have := sa16.lt; omega)).low) pa16
  clear sa16 so16 sx16 sg16 cO16 cX16 cR16 pa16
  clear hb
  refine kh_seq (kh_piece plainF_ok rfl ⟨_, Try.func4⟩ (by kernel_rfl) rfl fun v21 hv21 => ?_)
  have sa18 := hv21.blk sa17
  have so18 := hv21.blk so17
  have sx18 := hv21.blk sx17
  have sg18 := hv21.blk sg17
  have cO18 := hv21.blk cO17
  have cX18 := hv21.blk cX17
  have cR18 := hv21.blk cR17
  have pa18 := hv21.ints pa17
  clear sa17 so17 sx17 sg17 cO17 cX17 cR17 pa17
  have ca0 := sx18.cells 0
  have cb0 := sx18.cells 1
  have ca1 := sa18.cells 0
  have cb1 := sa18.cells 1
  simp at ca0 cb0 ca1 cb1
  clear ca0 cb0 ca1 cb1
  go_upto_region 10 with fail
  have Xq := Lib.hid sx18
  have Yq := Lib.hid sa18
  have Pq := Lib.hid (show IntRow v21 v21.heap.size A xs from (pa18.more (by have := sa18.lt; omega)))
  refine wp_region_facts 3 [41, 42, 43] (VSl ver xs A cap gx) (fun _ U => Below v21.heap.size v21 U) (fun w w' => Below w.heap.size w w') (by kernel_rfl) (by kernel_rfl) (by rfl) ?hI VSl_keep ?hob ?hend
  case hI => exact (Below.refl _ _).drew
  case hob =>
    simp only [List.take_succ_cons, List.take_zero, Obs, and_true]
    refine ⟨?_, ?_, ?_⟩
    · intro k' x U hkn hI hd K hK0
      have hK := hK0.out
      simp only [setAll, Act.put, List.foldl_cons, List.foldl_nil, List.setIfInBounds_toArray, List.set_cons_succ, List.set_cons_zero] at hK ⊢
      have HK := Lib.hid hK
      clear hK hK0
      rw [if_pos (by rfl)]
      clear hd
      have cx0 := (Xq.out.below hI Xq.out.lt).cells 0
      have cx1 := (Xq.out.below hI Xq.out.lt).cells 1
      simp at cx0 cx1
      go_simp
      exact HK.out _ _ hI (Below.refl _ _) ⟨rfl, fun h => by cases h⟩
    · intro k' x U hkn hI hd K hK0
      have hK := hK0.out
      simp only [setAll, Act.put, List.foldl_cons, List.foldl_nil, List.setIfInBounds_toArray, List.set_cons_succ, List.set_cons_zero] at hK ⊢
      have HK := Lib.hid hK
      clear hK hK0
      rw [if_pos (by rfl)]
      clear hd
      have cx0 := (Yq.out.below hI Yq.out.lt).cells 0
      have cx1 := (Yq.out.below hI Yq.out.lt).cells 1
      simp at cx0 cx1
      go_simp
      exact HK.out _ _ hI (Below.refl _ _) ⟨rfl, fun h => by cases h⟩
    · intro k' x U hkn hI hd K hK0
      have hK := hK0.out
      simp only [setAll, Act.put, List.foldl_cons, List.foldl_nil, List.setIfInBounds_toArray, List.set_cons_succ, List.set_cons_zero] at hK ⊢
      have HK := Lib.hid hK
      clear hK hK0
      rw [if_pos (by rfl)]
      obtain e23 : x 42 = .agg #[.int .i64 ver, .slice A xs.length cap] := hd 1 _ rfl (by kernel_rfl)
      rw [e23] at HK ⊢
      clear e23
      clear hd
      go_simp
      refine (toSlot_any ver A xs cap U (Pq.out.mem hI) hl hm' hn).mono ?_
      rintro e w6 ⟨g6, rfl, hg6, hG, hb6⟩
      exact HK.out _ _ (Fr.step hI hb6) hb6 ⟨⟨g6, rfl, hG⟩, fun h => by cases h⟩
  case hend =>
    intro x U hI hV
    obtain e0 : x 41 = .agg #[.int .i64 ver, .slice (some ⟨gx, 0, none⟩) xs.length xs.length] := hV 0 _ (by omega) rfl
    obtain ⟨g9, e2, hg9⟩ : ∃ g9, x 43 = .agg #[.int .i64 ver, .slice (some ⟨g9, 0, none⟩) xs.length xs.length] ∧ IntRow U U.heap.size (some ⟨g9, 0, none⟩) xs := hV 2 _ (by omega) rfl
    clear hV
    simp only [setAll, Act.put, List.foldl_cons, List.foldl_nil, List.setIfInBounds_toArray, List.set_cons_succ, List.set_cons_zero, List.drop_succ_cons, List.drop_zero]
    rw [e0, e2]
    clear e0 e2 Xq Yq Pq
    have LU : Below W.heap.size _ _ := hI.mono (by have := sa18.lt; omega)
    have sa19 := sa18.below hI sa18.lt
    have so19 := so18.below hI so18.lt
    have sx19 := sx18.below hI sx18.lt
    have sg19 := sg18.below hI sg18.lt
    have cO19 := cO18.below hI cO18.lt
    have cX19 := cX18.below hI cX18.lt
    have cR19 := cR18.below hI cR18.lt
    have pa19 := Low.intsE ((hI.mono (by have := sa18.lt; omega)).low) pa18
    clear sa18 so18 sx18 sg18 cO18 cX18 cR18 pa18
    clear hI
    go_wp2_with fail
    refine (eqSlot_same ver _ _ xs _ _ U (IntRow.of_blk cX19) hg9 (Nat.le_refl _) hxl).mono ?_
    rintro e w7 ⟨rfl, hb⟩
    go_wp2_with fail
    refine ⟨(LU.trans (hb.mono (by have := sa19.lt; omega))).low, ?_⟩
    have sa20 := sa19.below hb sa19.lt
    have so20 := so19.below hb so19.lt
    have sx20 := sx19.below hb sx19.lt
    have sg20 := sg19.below hb sg19.lt
    have cO20 := cO19.below hb cO19.lt
    have cX20 := cX19.below hb cX19.lt
    have cR20 := cR19.below hb cR19.lt
    have pa20 := Low.intsE ((hb.mono (by have := sa19.lt; omega)).low) pa19
    clear sa19 so19 sx19 sg19 cO19 cX19 cR19 pa19
    clear hb LU hg9
    refine kh_seq (kh_piece plainF_ok rfl ⟨_, Try.func4⟩ (by kernel_rfl) rfl fun v22 hv22 => ?_)
    have sa21 := hv22.blk sa20
    have so21 := hv22.blk so20
    have sx21 := hv22.blk sx20
    have sg21 := hv22.blk sg20
    have cO21 := hv22.blk cO20
    have cX21 := hv22.blk cX20
    have cR21 := hv22.blk cR20
    have pa21 := hv22.ints pa20
    clear sa20 so20 sx20 sg20 cO20 cX20 cR20 pa20
    go_wp2_with fail
    refine ⟨fun _ _ => rfl, ?_⟩
    refine kh_seq (kh_piece plainF_ok rfl ⟨_, Try.func4⟩ (by kernel_rfl) rfl fun v23 hv23 => ?_)
    have sa22 := hv23.blk sa21
    have so22 := hv23.blk so21
    have sx22 := hv23.blk sx21
    have sg22 := hv23.blk sg21
    have cO22 := hv23.blk cO21
    have cX22 := hv23.blk cX21
    have cR22 := hv23.blk cR21
    have pa22 := hv23.ints pa21
    clear sa21 so21 sx21 sg21 cO21 cX21 cR21 pa21
    have ca0 := sx22.cells 0
    have cb0 := sx22.cells 1
    simp at ca0 cb0
    go_wp2_with fail
    refine (markSlot1 ver gx xs.length xs.length _ 1 v23 cX22 (by simp) (by omega) (by omega) (Nat.le_refl _) (by omega)).mono ?_
    rintro e w8 ⟨rfl, ⟨CX, hCX, hMX⟩, hK⟩
    clear ca0 cb0
    go_wp2_with fail
    refine ⟨Keep.lowE hK (by have := sa22.lt; omega) (by simp; omega), ?_⟩
    have sa23 := Blk.keepI sa22 cX22 hK (by decide)
    have so23 := Blk.keepI so22 cX22 hK (by decide)
    have sx23 := Blk.keepI sx22 cX22 hK (by decide)
    have sg23 := Blk.keepI sg22 cX22 hK (by decide)
    have cO23 := Blk.keepN cO22 hK (by omega)
    have cX23 := hCX
    have cR23 := Blk.keepN cR22 hK (by omega)
    have pa23 := Low.intsE (Keep.lowE hK (by have := sa22.lt; omega) (by simp; omega)) pa22
    clear sa22 so22 sx22 sg22 cO22 cX22 cR22 pa22
    clear hK hCX
    refine kh_seq (kh_piece plainF_ok rfl ⟨_, Try.func4⟩ (by kernel_rfl) rfl fun v24 hv24 => ?_)
    have sa24 := hv24.blk sa23
    have so24 := hv24.blk so23
    have sx24 := hv24.blk sx23
    have sg24 := hv24.blk sg23
    have cO24 := hv24.blk cO23
    have cX24 := hv24.blk cX23
    have cR24 := hv24.blk cR23
    have pa24 := hv24.ints pa23
    clear sa23 so23 sx23 sg23 cO23 cX23 cR23 pa23
    have ca0 := sg24.cells 0
    have cb0 := sg24.cells 1
    have ca1 := so24.cells 0
    have cb1 := so24.cells 1
    simp at ca0 cb0 ca1 cb1
    go_wp2_with fail
    refine (eqSlot_same (ver + 1) (some ⟨R, 0, none⟩) (some ⟨go, 0, none⟩) xs xs.length c2 v24 (IntRow.of_blk cR24) (Row1.row ⟨go, Co, rfl, cO24, hCo⟩) (Nat.le_refl _) hyx).mono ?_
    rintro e w5 ⟨rfl, hb⟩
    clear ca0 cb0 ca1 cb1
    go_wp2_with fail
    refine ⟨(hb.mono (by have := sa24.lt; omega)).low, ?_⟩
    have sa25 := sa24.below hb sa24.lt
    have so25 := so24.below hb so24.lt
    have sx25 := sx24.below hb sx24.lt
    have sg25 := sg24.below hb sg24.lt
    have cO25 := cO24.below hb cO24.lt
    have cX25 := cX24.below hb cX24.lt
    have cR25 := cR24.below hb cR24.lt
    have pa25 := Low.intsE ((hb.mono (by have := sa24.lt; omega)).low) pa24
    clear sa24 so24 sx24 sg24 cO24 cX24 cR24 pa24
    clear hb
    refine kh_seq (kh_piece plainF_ok rfl ⟨_, Try.func4⟩ (by kernel_rfl) rfl fun v25 hv25 => ?_)
    have sa26 := hv25.blk sa25
    have so26 := hv25.blk so25
    have sx26 := hv25.blk sx25
    have sg26 := hv25.blk sg25
    have cO26 := hv25.blk cO25
    have cX26 := hv25.blk cX25
    have cR26 := hv25.blk cR25
    have pa26 := hv25.ints pa25
    clear sa25 so25 sx25 sg25 cO25 cX25 cR25 pa25
    go_wp2_with fail
    refine ⟨fun _ _ => rfl, ?_⟩
    refine kh_seq (kh_piece plainF_ok rfl ⟨_, Try.func4⟩ (by kernel_rfl) rfl fun v26 hv26 => ?_)
    have sa27 := hv26.blk sa26
    have so27 := hv26.blk so26
    have sx27 := hv26.blk sx26
    have sg27 := hv26.blk sg26
    have cO27 := hv26.blk cO26
    have cX27 := hv26.blk cX26
    have cR27 := hv26.blk cR26
    have pa27 := hv26.ints pa26
    clear sa26 so26 sx26 sg26 cO26 cX26 cR26 pa26
    have ca0 := sg27.cells 0
    have cb0 := sg27.cells 1
    simp at ca0 cb0
    go_wp2_with fail
    refine (markSlot1 (ver + 1) R xs.length xs.length _ 1 v26 cR27 (by simp) (by omega) (by omega) (Nat.le_refl _) (by omega)).mono ?_
    rintro e w8 ⟨rfl, ⟨CR, hCR, hMR⟩, hK⟩
    clear ca0 cb0
    go_wp2_with fail
    refine ⟨Keep.lowE hK (by have := sa27.lt; omega) (by simp; omega), ?_⟩
    have sa28 := Blk.keepI sa27 cR27 hK (by decide)
    have so28 := Blk.keepI so27 cR27 hK (by decide)
    have sx28 := Blk.keepI sx27 cR27 hK (by decide)
    have sg28 := Blk.keepI sg27 cR27 hK (by decide)
    have cO28 := Blk.keepN cO27 hK (by omega)
    have cX28 := Blk.keepN cX27 hK (by omega)
    have cR28 := hCR
    have pa28 := Low.intsE (Keep.lowE hK (by have := sa27.lt; omega) (by simp; omega)) pa27
    clear sa27 so27 sx27 sg27 cO27 cX27 cR27 pa27
    clear hK hCR
    refine kh_seq (kh_piece plainF_ok rfl ⟨_, Try.func4⟩ (by kernel_rfl) rfl fun v27 hv27 => ?_)
    have sa29 := hv27.blk sa28
    have so29 := hv27.blk so28
    have sx29 := hv27.blk sx28
    have sg29 := hv27.blk sg28
    have cO29 := hv27.blk cO28
    have cX29 := hv27.blk cX28
    have cR29 := hv27.blk cR28
    have pa29 := hv27.ints pa28
    clear sa28 so28 sx28 sg28 cO28 cX28 cR28 pa28
    go_wp2_with fail
    refine ⟨fun _ _ => rfl, ?_⟩
    refine kh_seq (kh_piece plainF_ok rfl ⟨_, Try.func4⟩ (by kernel_rfl) rfl fun v28 hv28 => ?_)
    have sa30 := hv28.blk sa29
    have so30 := hv28.blk so29
    have sx30 := hv28.blk sx29
    have sg30 := hv28.blk sg29
    have cO30 := hv28.blk cO29
    have cX30 := hv28.blk cX29
    have cR30 := hv28.blk cR29
    have pa30 := hv28.ints pa29
    clear sa29 so29 sx29 sg29 cO29 cX29 cR29 pa29
    have ca0 := sg30.cells 0
    have cb0 := sg30.cells 1
    simp at ca0 cb0
    go_wp2_with fail
    refine (heldSlot1 (ver + 1) R xs.length xs.length CR 1 v28 cR30 hMR (by omega) hyn (Nat.le_refl _) hyx).mono ?_
    rintro e w8 ⟨rfl, hb⟩
    clear ca0 cb0
    go_wp2_with fail
    refine ⟨(hb.mono (by have := sa30.lt; omega)).low, ?_⟩
    have sa31 := sa30.below hb sa30.lt
    have so31 := so30.below hb so30.lt
    have sx31 := sx30.below hb sx30.lt
    have sg31 := sg30.below hb sg30.lt
    have cO31 := cO30.below hb cO30.lt
    have cX31 := cX30.below hb cX30.lt
    have cR31 := cR30.below hb cR30.lt
    have pa31 := Low.intsE ((hb.mono (by have := sa30.lt; omega)).low) pa30
    clear sa30 so30 sx30 sg30 cO30 cX30 cR30 pa30
    clear hb
    refine kh_seq (kh_piece plainF_ok rfl ⟨_, Try.func4⟩ (by kernel_rfl) rfl fun v29 hv29 => ?_)
    have sa32 := hv29.blk sa31
    have so32 := hv29.blk so31
    have sx32 := hv29.blk sx31
    have sg32 := hv29.blk sg31
    have cO32 := hv29.blk cO31
    have cX32 := hv29.blk cX31
    have cR32 := hv29.blk cR31
    have pa32 := hv29.ints pa31
    clear sa31 so31 sx31 sg31 cO31 cX31 cR31 pa31
    go_wp2_with fail
    refine ⟨fun _ _ => rfl, ?_⟩
    refine kh_seq (kh_piece plainF_ok rfl ⟨_, Try.func4⟩ (by kernel_rfl) rfl fun v30 hv30 => ?_)
    have sa33 := hv30.blk sa32
    have so33 := hv30.blk so32
    have sx33 := hv30.blk sx32
    have sg33 := hv30.blk sg32
    have cO33 := hv30.blk cO32
    have cX33 := hv30.blk cX32
    have cR33 := hv30.blk cR32
    have pa33 := hv30.ints pa32
    clear sa32 so32 sx32 sg32 cO32 cX32 cR32 pa32
    go_wp2_with fail
    refine ⟨fun _ _ => rfl, ?_⟩
    refine kh_seq (kh_region ?_)
    refine kh_list plainF_ok rfl ⟨_, Try.func4⟩ 0 2 (rest := [2, 3, 4, 5, 6, 7, 8]) rfl (by decide) (by kernel_rfl) rfl fun v31a hv31a => ?_
    simp only [List.drop_succ_cons, List.drop_zero, List.take_succ_cons, List.take_zero]
    have sa34 := hv31a.blk sa33
    have so34 := hv31a.blk so33
    have sx34 := hv31a.blk sx33
    have sg34 := hv31a.blk sg33
    have cO34 := hv31a.blk cO33
    have cX34 := hv31a.blk cX33
    have cR34 := hv31a.blk cR33
    have pa34 := hv31a.ints pa33
    clear sa33 so33 sx33 sg33 cO33 cX33 cR33 pa33
    clear hv31a
    have ca0 := sa34.cells 0
    have cb0 := sa34.cells 1
    simp at ca0 cb0
    go_wp2_with fail
    refine (toSlot_blk ver A xs cap v31a (pa34.more (by have := sa34.lt; omega)) hl hm' hn).mono ?_
    rintro e w9 ⟨g3, rfl, hg3, cY, hb⟩
    clear ca0 cb0
    go_wp2_with fail
    refine ⟨(hb.mono (by have := sa34.lt; omega)).low, ?_⟩
    have sa35 := sa34.below hb sa34.lt
    have so35 := so34.below hb so34.lt
    have sx35 := sx34.below hb sx34.lt
    have sg35 := sg34.below hb sg34.lt
    have cO35 := cO34.below hb cO34.lt
    have cX35 := cX34.below hb cX34.lt
    have cR35 := cR34.below hb cR34.lt
    have pa35 := Low.intsE ((hb.mono (by have := sa34.lt; omega)).low) pa34
    clear sa34 so34 sx34 sg34 cO34 cX34 cR34 pa34
    have cY35 := cY
    clear cY hb hg3
    refine kh_call (c := Try.f21.body.getD .skip) rfl rfl (by simp [base]) rfl Try.func21 (by kernel_rfl) rfl ?_
    simp only [Try.ntmps21, List.size_toArray, List.length_cons, List.length_nil, Nat.reduceAdd, Nat.reduceSub, Array.replicate_succ, Array.replicate_zero, List.push_toArray, List.append_toArray, List.nil_append, List.cons_append, List.map_toArray, List.map_cons, List.map_nil, Array.size_map]
    walk_nrm
    have zz := sa35.lt
    refine kh_begin (W0 := W) (Post := YesE W) (ver := ver) (A := (some ⟨g3, 0, none⟩)) (xs := xs) (cap := xs.length) (IntRow.of_blk cY35) (Nat.le_refl _) hxl (by omega) (fun S31 u31b x31 hR => ?_)
    rw [Frame.finish_at]
    walk_nrm
    clear zz
    obtain ⟨Q, hR1, rfl, hrow⟩ := hR.yes HB.out
    have loO := cO35.lt
    have loR := cR35.lt
    have oQO : go < Q := by omega
    have oQR : R < Q := by omega
    have oQa : Ma < Q := by have := sa35.lt; omega
    clear hR1 loO loR
    have sa36 := hR.low.blkE sa35 sa35.lt
    have so36 := hR.low.blkE so35 so35.lt
    have sx36 := hR.low.blkE sx35 sx35.lt
    have sg36 := hR.low.blkE sg35 sg35.lt
    have cO36 := hR.low.blkE cO35 cO35.lt
    have cX36 := hR.low.blkE cX35 cX35.lt
    have cR36 := hR.low.blkE cR35 cR35.lt
    have cY36 := hR.low.blkE cY35 cY35.lt
    have pa36 := Low.intsE (hR.low.less (by have := sa35.lt; omega)) pa35
    clear sa35 so35 sx35 sg35 cO35 cX35 cR35 cY35 pa35
    have cQ36 : Blk u31b Q 3 (xs.map iv).toArray := hrow
    clear hrow
    clear hR
    refine kh_list plainF_ok rfl ⟨_, Try.func4⟩ 3 6 (rest := []) rfl (by decide) (by kernel_rfl) rfl fun v31c hv31c => ?_
    simp only [List.drop_succ_cons, List.drop_zero, List.take_succ_cons, List.take_zero]
    have sa37 := hv31c.blk sa36
    have so37 := hv31c.blk so36
    have sx37 := hv31c.blk sx36
    have sg37 := hv31c.blk sg36
    have cO37 := hv31c.blk cO36
    have cX37 := hv31c.blk cX36
    have cR37 := hv31c.blk cR36
    have cY37 := hv31c.blk cY36
    have cQ37 := hv31c.blk cQ36
    have pa37 := hv31c.ints pa36
    clear sa36 so36 sx36 sg36 cO36 cX36 cR36 cY36 cQ36 pa36
    clear hv31c
    go_wp2_with fail
    refine ⟨lowAlloc (by have := sa37.lt; omega) _, kh_region_end ?_⟩
    obtain ⟨y32, hy32⟩ : ∃ y, y = v31c.alloc (.cells #[.int .i64 (ver + 1), .slice (some ⟨Q, 0, none⟩) xs.length xs.length] 26) := ⟨_, rfl⟩
    obtain ⟨Mh, hMh⟩ : ∃ M, M = v31c.heap.size := ⟨_, rfl⟩
    rw [← hy32, ← hMh]
    have sa38 := sa37.alloc (.cells #[.int .i64 (ver + 1), .slice (some ⟨Q, 0, none⟩) xs.length xs.length] 26)
    have so38 := so37.alloc (.cells #[.int .i64 (ver + 1), .slice (some ⟨Q, 0, none⟩) xs.length xs.length] 26)
    have sx38 := sx37.alloc (.cells #[.int .i64 (ver + 1), .slice (some ⟨Q, 0, none⟩) xs.length xs.length] 26)
    have sg38 := sg37.alloc (.cells #[.int .i64 (ver + 1), .slice (some ⟨Q, 0, none⟩) xs.length xs.length] 26)
    have cO38 := cO37.alloc (.cells #[.int .i64 (ver + 1), .slice (some ⟨Q, 0, none⟩) xs.length xs.length] 26)
    have cX38 := cX37.alloc (.cells #[.int .i64 (ver + 1), .slice (some ⟨Q, 0, none⟩) xs.length xs.length] 26)
    have cR38 := cR37.alloc (.cells #[.int .i64 (ver + 1), .slice (some ⟨Q, 0, none⟩) xs.length xs.length] 26)
    have cY38 := cY37.alloc (.cells #[.int .i64 (ver + 1), .slice (some ⟨Q, 0, none⟩) xs.length xs.length] 26)
    have cQ38 := cQ37.alloc (.cells #[.int .i64 (ver + 1), .slice (some ⟨Q, 0, none⟩) xs.length xs.length] 26)
    have pa38 := Low.intsE (lowAlloc (by have := sa37.lt; omega) (.cells #[.int .i64 (ver + 1), .slice (some ⟨Q, 0, none⟩) xs.length xs.length] 26)) pa37
    clear sa37 so37 sx37 sg37 cO37 cX37 cR37 cY37 cQ37 pa37
    have sh38 : Blk y32 Mh 26 #[.int .i64 (ver + 1), .slice (some ⟨Q, 0, none⟩) xs.length xs.length] := by rw [hy32, hMh]; exact Blk.new _ _ _ rfl
    rw [← hy32] at sa38
    rw [← hy32] at so38
    rw [← hy32] at sx38
    rw [← hy32] at sg38
    rw [← hy32] at cO38
    rw [← hy32] at cX38
    rw [← hy32] at cR38
    rw [← hy32] at cY38
    rw [← hy32] at cQ38
    rw [← hy32] at pa38
    clear hy32 hMh
    refine kh_seq (kh_piece plainF_ok rfl ⟨_, Try.func4⟩ (by kernel_rfl) rfl fun v33 hv33 => ?_)
    have sa39 := hv33.blk sa38
    have so39 := hv33.blk so38
    have sx39 := hv33.blk sx38
    have sg39 := hv33.blk sg38
    have sh39 := hv33.blk sh38
    have cO39 := hv33.blk cO38
    have cX39 := hv33.blk cX38
    have cR39 := hv33.blk cR38
    have cY39 := hv33.blk cY38
    have cQ39 := hv33.blk cQ38
    have pa39 := hv33.ints pa38
    clear sa38 so38 sx38 sg38 sh38 cO38 cX38 cR38 cY38 cQ38 pa38
    have ca0 := sh39.cells 0
    have cb0 := sh39.cells 1
    have ca1 := so39.cells 0
    have cb1 := so39.cells 1
    simp at ca0 cb0 ca1 cb1
    go_wp2_with fail
    refine (eqSlot_same (ver + 1) (some ⟨Q, 0, none⟩) (some ⟨go, 0, none⟩) xs xs.length c2 v33 (IntRow.of_blk cQ39) (Row1.row ⟨go, Co, rfl, cO39, hCo⟩) (Nat.le_refl _) hyx).mono ?_
    rintro e w5 ⟨rfl, hb⟩
    clear ca0 cb0 ca1 cb1
    go_wp2_with fail
    refine ⟨(hb.mono (by have := sa39.lt; omega)).low, ?_⟩
    have sa40 := sa39.below hb sa39.lt
    have so40 := so39.below hb so39.lt
    have sx40 := sx39.below hb sx39.lt
    have sg40 := sg39.below hb sg39.lt
    have sh40 := sh39.below hb sh39.lt
    have cO40 := cO39.below hb cO39.lt
    have cX40 := cX39.below hb cX39.lt
    have cR40 := cR39.below hb cR39.lt
    have cY40 := cY39.below hb cY39.lt
    have cQ40 := cQ39.below hb cQ39.lt
    have pa40 := Low.intsE ((hb.mono (by have := sa39.lt; omega)).low) pa39
    clear sa39 so39 sx39 sg39 sh39 cO39 cX39 cR39 cY39 cQ39 pa39
    clear hb
    refine kh_seq (kh_piece plainF_ok rfl ⟨_, Try.func4⟩ (by kernel_rfl) rfl fun v34 hv34 => ?_)
    have sa41 := hv34.blk sa40
    have so41 := hv34.blk so40
    have sx41 := hv34.blk sx40
    have sg41 := hv34.blk sg40
    have sh41 := hv34.blk sh40
    have cO41 := hv34.blk cO40
    have cX41 := hv34.blk cX40
    have cR41 := hv34.blk cR40
    have cY41 := hv34.blk cY40
    have cQ41 := hv34.blk cQ40
    have pa41 := hv34.ints pa40
    clear sa40 so40 sx40 sg40 sh40 cO40 cX40 cR40 cY40 cQ40 pa40
    go_wp2_with fail
    refine ⟨fun _ _ => rfl, ?_⟩
    refine kh_piece plainF_ok rfl ⟨_, Try.func4⟩ (by kernel_rfl) rfl fun v35 hv35 => ?_
    have sa42 := hv35.blk sa41
    have so42 := hv35.blk so41
    have sx42 := hv35.blk sx41
    have sg42 := hv35.blk sg41
    have sh42 := hv35.blk sh41
    have cO42 := hv35.blk cO41
    have cX42 := hv35.blk cX41
    have cR42 := hv35.blk cR41
    have cY42 := hv35.blk cY41
    have cQ42 := hv35.blk cQ41
    have pa42 := hv35.ints pa41
    clear sa41 so41 sx41 sg41 sh41 cO41 cX41 cR41 cY41 cQ41 pa41
    have ca0 := sg42.cells 0
    have cb0 := sg42.cells 1
    simp at ca0 cb0
    go_wp2_with fail
    refine (heldSlot1 (ver + 1) R xs.length xs.length CR 1 v35 cR42 hMR (by omega) hyn (Nat.le_refl _) hyx).mono ?_
    rintro e w8 ⟨rfl, hb⟩
    clear ca0 cb0
    go_wp2_with fail
    refine ⟨(hb.mono (by have := sa42.lt; omega)).low, fun todo => ?_⟩
    exact kh_end Try.func4 rfl rfl rfl (by kernel_rfl) (x := .bool true) (fun T d => by simp [results, Try.results4, go_sem, Frame.at]) fun w hA => ⟨rfl, SinceE.of hA⟩
end Go.Proofs.Ytlcjepgmmbdkmaa
