/-
  newSlot, called beside leavers.
-/
import Derived.Test.YtlcjepgmmbdkmaaBrB
import Derived.Test.YtlcjepgmmbdkmaaNs
import Derived.Test.YtlcjepgmmbdkmaaSlotCopy
namespace Go.Proofs.Ytlcjepgmmbdkmaa.Ph
open Go.Br Go.Conc Go.Proofs.Ytlcjepgmmbdkmaa.Auto Go.Proofs.Ytlcjepgmmbdkmaa.Trc Go.RowKit Go.Conc.Lib Go.ConcR.Gen
open Go.ConcM hiding Eff Eff.refl Eff.set Eff.later Eff.asked ShAt MuAt Pc Th Sh hd at_ After
open Go.ConcR (KK wgBlock WgAt stA smA rd wr mk)
set_option linter.unusedSimpArgs false
set_option linter.unusedVariables false

/-- The functions that run plainly. -/
def plainF : List Nat := [13, 14, 15, 17, 18, 19, 20, 22, 24, 25, 26, 27, 28, 29, 31, 32, 33, 34, 35, 36, 37, 38, 39, 40, 41, 43, 44, 45, 46, 47, 48]
theorem plainF_all : plainF.all (fnOk Try.prog plainF) = true := by kernel_rfl
theorem plainF_ok : ∀ f ∈ plainF, fnOk Try.prog plainF f = true := List.all_eq_true.1 plainF_all

section
variable {W0 : World} {Post : Value → World → Prop} {S : Nat → Bool} {X : Addr → Prop} {ver : Int} {xs : List Int} {A : Option Addr} {cap : Nat} {caller : Frame} {cs : List Frame}
/-- What stands when the loop begins. -/
structure Pro (u u' : World) (n : Nat) (ver : Int) : Prop where
  size : u'.heap.size = u.heap.size + 4
  old : ∀ b, b < u.heap.size → u'.heap[b]? = u.heap[b]?
  res : u'.heap[u.heap.size]? = some (.cells #[.int .i64 0, .slice none 0 0] 26)
  row : ∃ c : Array Value, u'.heap[u.heap.size + 1]? = some (.cells c 3) ∧ c.size = n
  mu : u'.heap[u.heap.size + 2]? = some (.cells #[.int .i32 0, .int .u32 0, .int .i64 ver, .slice (some ⟨u.heap.size + 1, 0, none⟩) n n] 66)
  wg : u'.heap[u.heap.size + 3]? = some (.cells #[.int .u64 0, .int .u32 0] 73)

set_option maxRecDepth 100000 in
set_option maxHeartbeats 4000000 in
theorem ns_prologue {u : World} (hl : xs.length ≤ 6) (hW : W0.heap.size ≤ u.heap.size)
    (h : ∀ u' j2 j3 j7 j8 j9 j10 j11 j12 j13 j14 j18 j19 j20 j21 j22 j23 j24 j25 j26 j27, Pro u u' xs.length ver → Kh Try.prog W0 Post S X (G ((base 42).at ⟨#[.int .i64 ver, .slice A xs.length cap, j2, j3, .pointer (some ⟨u.heap.size, 0, none⟩), .pointer (some ⟨u.heap.size + 2, 0, none⟩), .pointer (some ⟨u.heap.size + 3, 0, none⟩), j7, j8, j9, j10, j11, j12, j13, j14, .slice A xs.length cap, .int .i64 (xs.length : Int), .int .i64 0, j18, j19, j20, j21, j22, j23, j24, j25, j26, j27], []⟩ [.code LL42, .inLoop LL42, .inBlock 0, .code R942]) cs) u') :
    Kh Try.prog W0 Post S X (G ((base 42).at ⟨#[.int .i64 ver, .slice A xs.length cap, undef, undef, undef, undef, undef, undef, undef, undef, undef, undef, undef, undef, undef, undef, undef, undef, undef, undef, undef, undef, undef, undef, undef, undef, undef, undef], []⟩ [.code body42]) cs) u := by
  obtain ⟨i0, hi0, hz0, hz1, hz2⟩ := ints_parts intInfo
  have hmk : ∀ W : World, (Instr.makeSlice 22 (.int .i64 (xs.length : Int)) (.int .i64 (xs.length : Int))).run Try.prog W = .ok (.slice (some ⟨W.heap.size, 0, none⟩) xs.length xs.length) (W.alloc (.cells (madeCells #[.int .i64 0] (xs.length * 1)) 3)) := fun W => by
    have := run_make (P := Try.prog) W 22 3 i0 _ Try.underlying22 hi0 hz0 .i64 .i64 (xs.length : Int) (xs.length : Int) (by omega) (by omega) (by rw [hz2]; omega) (by omega)
    rw [hz1] at this
    simpa [Value.cells] using this
  have hfill0 : (madeCells #[.int .i64 0] (xs.length * 1)).size = xs.length := by rw [size_madeCells]; omega
  generalize madeCells #[.int .i64 0] (xs.length * 1) = cs0 at hmk hfill0
  clear hi0 hz0 hz1 hz2
  have lowA : ∀ (v : World) (o : Obj), W0.heap.size ≤ v.heap.size → Low W0.heap.size v (v.alloc o) := fun v o hv b hb => Below.heap_alloc _ _ _ (by omega)
  simp only [body42, Try.f42, Option.getD_some]
  refine kh_seq ?_
  refine kh_piece plainF_ok rfl ⟨_, Try.func42⟩ (by kernel_rfl) rfl fun v hv => ?_
  go_wp2_with fail
  have e0 := hv.heap
  refine ⟨lowA _ _ (by rw [e0]; exact hW), ?_⟩
  refine kh_seq ?_
  refine kh_piece plainF_ok rfl ⟨_, Try.func42⟩ (by kernel_rfl) rfl fun v1 hv1 => ?_
  have e1 := hv1.heap
  have hs1 : v1.heap.size = u.heap.size + 1 := by rw [e1]; simp [e0]
  have hn0 : v.heap.size = u.heap.size := by rw [e0]
  rw [hn0]
  go_wp2_with fail
  obtain ⟨w1, hw1⟩ : ∃ w1, w1 = (v1.alloc (.cells cs0 3)).alloc (.cells #[.int .i32 0, .int .u32 0, .int .i64 ver, .slice (some ⟨u.heap.size + 1, 0, none⟩) xs.length xs.length] 66) := ⟨_, rfl⟩
  rw [← hw1]
  have hz1 : w1.heap.size = u.heap.size + 3 := by rw [hw1]; simp [hs1]
  have k1 : ∀ b, b < u.heap.size → w1.heap[b]? = u.heap[b]? := fun b hb => by
    rw [hw1, Below.heap_alloc _ _ _ (by simp; omega), Below.heap_alloc _ _ _ (by omega), e1, Below.heap_alloc _ _ _ (by omega), e0]
  have k2 : w1.heap[u.heap.size]? = some (.cells #[.int .i64 0, .slice none 0 0] 26) := by
    rw [hw1, Below.heap_alloc _ _ _ (by simp; omega), Below.heap_alloc _ _ _ (by omega), e1, ← hn0]
    exact heap_alloc_new _ _
  have k3 : w1.heap[u.heap.size + 1]? = some (.cells cs0 3) := by
    rw [hw1, Below.heap_alloc _ _ _ (by simp; omega), ← hs1]
    exact heap_alloc_new _ _
  have k4 : w1.heap[u.heap.size + 2]? = some (.cells #[.int .i32 0, .int .u32 0, .int .i64 ver, .slice (some ⟨u.heap.size + 1, 0, none⟩) xs.length xs.length] 66) := by
    have := heap_alloc_new (v1.alloc (.cells cs0 3)) (.cells #[.int .i32 0, .int .u32 0, .int .i64 ver, .slice (some ⟨u.heap.size + 1, 0, none⟩) xs.length xs.length] 66)
    rw [show (v1.alloc (.cells cs0 3)).heap.size = u.heap.size + 2 by simp [hs1], ← hw1] at this
    exact this
  refine ⟨fun b hb => by rw [k1 b (by omega), e1, Below.heap_alloc _ _ _ (by omega), e0], ?_⟩
  clear hmk
  refine kh_seq ?_
  refine kh_piece plainF_ok rfl ⟨_, Try.func42⟩ (by kernel_rfl) rfl fun v2 hv2 => ?_
  have e2 := hv2.heap
  have hs2 : v2.heap.size = u.heap.size + 3 := by rw [e2, hz1]
  go_wp2_with fail
  refine ⟨lowA _ _ (by omega), ?_⟩
  refine kh_seq ?_
  refine kh_seq ?_
  refine kh_piece plainF_ok rfl ⟨_, Try.func42⟩ (by kernel_rfl) rfl fun v3 hv3 => ?_
  have e3 := hv3.heap
  go_wp2_with fail
  refine ⟨fun _ _ => rfl, ?_⟩
  refine kh_block (kh_move rfl (fun v => stepG_loop) ?_)
  have hlow : ∀ b, b < u.heap.size + 3 → v3.heap[b]? = w1.heap[b]? := fun b hb => by rw [e3, Below.heap_alloc _ _ _ (by omega), e2]
  have hP : Pro u v3 xs.length ver := ⟨by rw [e3]; simp [hs2], fun b hb => (hlow b (by omega)).trans (k1 b hb), (hlow _ (by omega)).trans k2, ⟨cs0, (hlow _ (by omega)).trans k3, hfill0⟩, (hlow _ (by omega)).trans k4, by
    rw [e3, ← hs2]
    exact heap_alloc_new _ _⟩
  exact h v3 _ _ _ _ _ _ _ _ _ _ _ _ _ _ _ _ _ _ _ _ hP

theorem stepG_load26 {main : Bool} {b : Frame} {a : Act} {kk : List Item} {cs : List Frame} {w : World} {ops : Array Oper} {i : Nat} {rest : List Nat} {o : Oper} {x : Operand} (ho : ops[i]? = some o) (hw : Region.wanted o (yielded ops a.tmps) = true) (hk : b.kind ≠ .early) (hop : o.op = .load 26 x)
    {B off : Nat} {v v' : Value} (hx : a.eval x = .pointer (some ⟨B, off, none⟩)) (hc : w.cell? ⟨B, off, none⟩ = some v) (hc' : w.cell? ⟨B, off + 1, none⟩ = some v') :
    ∃ es, stepG Try.prog main (G (b.at a (.inRegion ops (i :: rest) :: kk)) cs) w = .go (G (b.at (a.put o.dst (.agg #[v, v'])) (.inRegion ops rest :: kk)) cs) w es ∧ ∀ e ∈ es, e = ⟨.cell ⟨B, off, none⟩, false, false⟩ ∨ e = ⟨.cell ⟨B, off + 1, none⟩, false, false⟩ := by
  have hr : (execOp a.eval o).run Try.prog w = .ok (.value (.agg #[v, v'])) w := by
    unfold execOp
    simp only [hop, hx]
    simp [go_sem, hc, hc']
  have he : (execOp a.eval o).events Try.prog w #[] = #[⟨.cell ⟨B, off, none⟩, false, false⟩, ⟨.cell ⟨B, off + 1, none⟩, false, false⟩] := by
    unfold execOp
    simp only [hop, hx]
    simp [go_sem, hc, hc', loadCells, loadCellsFrom, Addr.add]
  refine ⟨_, stepG_value ho hw hk hr, fun e he' => ?_⟩
  have := mem_listed he'
  rw [he] at this
  simpa using this

noncomputable def ops1042 : Array Oper := opsOf (fstOf R1042)
set_option maxRecDepth 100000 in
set_option maxHeartbeats 4000000 in
theorem ns_end {u : World} {N n : Nat} {x v0 v1 j2 j3 j5 j6 j7 j8 j9 j10 j11 j12 j13 j14 j15 j16 j17 j18 j19 j20 j21 j22 j23 j24 j25 j26 : Value} (hres : u.heap[N]? = some (.cells #[v0, v1] 26)) (hN : W0.heap.size ≤ N)
    (h : ∀ u', u'.heap.size = u.heap.size → (∀ b, b ≠ N → u'.heap[b]? = u.heap[b]?) → u'.heap[N]? = some (.cells #[.int .i64 ver, .slice (some ⟨N + 1, 0, none⟩) n n] 26) →
      Kh Try.prog W0 Post S X (G (caller.finish (.agg #[.int .i64 ver, .slice (some ⟨N + 1, 0, none⟩) n n])) cs) u') :
    Kh Try.prog W0 Post S X (G ((base 42).at ⟨#[.int .i64 ver, x, j2, j3, .pointer (some ⟨N, 0, none⟩), j5, j6, j7, j8, j9, j10, j11, j12, j13, j14, j15, j16, j17, j18, j19, j20, j21, j22, j23, j24, j25, j26, .agg #[.int .i64 ver, .slice (some ⟨N + 1, 0, none⟩) n n]], []⟩ [.inRegion ops1042 [2], .code .ret]) (caller :: cs)) u := by
  simp only [ops1042, opsOf, R1042, R942, body42, findLoop, sndOf, fstOf, Try.f42, Option.getD_some]
  refine kh_list plainF_ok rfl ⟨_, Try.func42⟩ 2 1 (rest := []) rfl (by decide) (by kernel_rfl) rfl fun v hv => ?_
  simp only [List.drop_succ_cons, List.drop_zero, List.take_succ_cons, List.take_zero]
  have e0 := hv.heap
  have hr : v.heap[N]? = some (.cells #[v0, v1] 26) := by rw [e0]; exact hres
  have c0 : v.cell? ⟨N, 0, none⟩ = some v0 := by simp [World.cell?, hr]
  have c1 : v.cell? ⟨N, 1, none⟩ = some v1 := by simp [World.cell?, hr]
  have f0 : v.frozen? ⟨N, 0, none⟩ = false := by simp [World.frozen?, hr]
  have f1 : v.frozen? ⟨N, 1, none⟩ = false := by simp [World.frozen?, hr]
  go_wp2_with fail
  obtain ⟨w1, hw1⟩ : ∃ w1, w1 = (v.setCell ⟨N, 0, none⟩ (.int .i64 ver)).setCell ⟨N, 1, none⟩ (.slice (some ⟨N + 1, 0, none⟩) n n) := ⟨_, rfl⟩
  rw [← hw1]
  have k0 : ∀ b, b ≠ N → w1.heap[b]? = v.heap[b]? := fun b hb => by
    rw [hw1]; simp [World.setCell, Array.getElem?_modify, Ne.symm hb]
  have k1 : w1.heap[N]? = some (.cells #[.int .i64 ver, .slice (some ⟨N + 1, 0, none⟩) n n] 26) := by
    rw [hw1]; simp [World.setCell, Array.getElem?_modify, hr]
  have k2 : w1.heap.size = v.heap.size := by rw [hw1]; simp [World.setCell]
  have d0 : w1.cell? ⟨N, 0, none⟩ = some (.int .i64 ver) := by simp [World.cell?, k1]
  have d1 : w1.cell? ⟨N, 1, none⟩ = some (.slice (some ⟨N + 1, 0, none⟩) n n) := by simp [World.cell?, k1]
  refine ⟨fun b hb => k0 b (by omega), kh_region_end (kh_retc fun todo => ?_)⟩
  refine kh_ret Try.func42 rfl rfl rfl (fun T d => ?_) (h w1 (by rw [k2, e0]) (fun b hb => (k0 b hb).trans (by rw [e0])) k1)
  have d0' : (pos w1 T d).cell? ⟨N, 0, none⟩ = some (.int .i64 ver) := d0
  have d1' : (pos w1 T d).cell? ⟨N, 1, none⟩ = some (.slice (some ⟨N + 1, 0, none⟩) n n) := d1
  simp [results, Try.results42, go_sem, d0', d1', Frame.at]

def Ok1 (Sh : Go.Loc → Prop) (n : Nat) (e : Event) : Prop := EvL Sh n e ∧ ∀ X, MemAct.ofEvent e ≠ .mark (.release X)
theorem op26 {main : Bool} {b : Frame} {a : Act} {kk : List Item} {cs : List Frame} {w : World} {ops : Array Oper} {i : Nat} {rest : List Nat} {o : Oper} {x : Operand} (ho : ops[i]? = some o) (hw : Region.wanted o (yielded ops a.tmps) = true) (hk : b.kind ≠ .early) (hop : o.op = .fieldAddr 66 x 1)
    {B : Nat} (hx : a.eval x = .pointer (some ⟨B, 0, none⟩)) :
    ∃ es, stepG Try.prog main (G (b.at a (.inRegion ops (i :: rest) :: kk)) cs) w = .go (G (b.at (a.put o.dst (.pointer (some ⟨B, 2, none⟩))) (.inRegion ops rest :: kk)) cs) w es ∧ ∀ e ∈ es, False := by
  have hr : (execOp a.eval o).run Try.prog w = .ok (.value (.pointer (some ⟨B, 2, none⟩))) w := by
    unfold execOp
    simp only [hop, hx]
    simp [go_sem]
  have he : (execOp a.eval o).events Try.prog w #[] = #[] := by
    unfold execOp
    simp only [hop, hx]
    simp [go_sem]
  refine ⟨_, stepG_value ho hw hk hr, fun e he' => ?_⟩
  have := mem_listed he'
  rw [he] at this
  simp at this
theorem way_op26 {b : Frame} {a : Act} {kk : List Item} {cs : List Frame} {w w0 : World} {ops : Array Oper} {i : Nat} {rest : List Nat} {o : Oper} {x : Operand} {Ok : Nat → Event → Prop} {Stop : Goroutine → World → Prop} (ho : ops[i]? = some o) (hw : Region.wanted o (yielded ops a.tmps) = true) (hk : b.kind ≠ .early) (hop : o.op = .fieldAddr 66 x 1) {B : Nat} (hx : a.eval x = .pointer (some ⟨B, 0, none⟩)) (hz : w0.heap.size ≤ w.heap.size)
    (h : Br.Way Try.prog Ok Stop (G (b.at (a.put o.dst (.pointer (some ⟨B, 2, none⟩))) (.inRegion ops rest :: kk)) cs) w) :
    ∃ g' w' es, stepG Try.prog true (G (b.at a (.inRegion ops (i :: rest) :: kk)) cs) w = .go g' w' es ∧ ((∀ e ∈ es, Ok w'.heap.size e) ∧ w0.heap.size ≤ w'.heap.size) ∧ Br.Way Try.prog Ok Stop g' w' := by
  obtain ⟨es, e1, e2⟩ := op26 (main := true) (cs := cs) (kk := kk) (w := w) (rest := rest) ho hw hk hop hx
  exact ⟨_, _, es, e1, ⟨fun e he => (e2 e he).elim, hz⟩, h⟩
theorem way_load26 {b : Frame} {a : Act} {kk : List Item} {cs : List Frame} {w w0 : World} {ops : Array Oper} {i : Nat} {rest : List Nat} {o : Oper} {x : Operand} {Ok : Nat → Event → Prop} {Stop : Goroutine → World → Prop} (ho : ops[i]? = some o) (hw : Region.wanted o (yielded ops a.tmps) = true) (hk : b.kind ≠ .early) (hop : o.op = .load 26 x) {B off : Nat} {v v' : Value} (hx : a.eval x = .pointer (some ⟨B, off, none⟩)) (hc : w.cell? ⟨B, off, none⟩ = some v) (hc' : w.cell? ⟨B, off + 1, none⟩ = some v') (hz : w0.heap.size ≤ w.heap.size)
    (hok : Ok w.heap.size ⟨.cell ⟨B, off, none⟩, false, false⟩) (hok' : Ok w.heap.size ⟨.cell ⟨B, off + 1, none⟩, false, false⟩)
    (h : Br.Way Try.prog Ok Stop (G (b.at (a.put o.dst (.agg #[v, v'])) (.inRegion ops rest :: kk)) cs) w) :
    ∃ g' w' es, stepG Try.prog true (G (b.at a (.inRegion ops (i :: rest) :: kk)) cs) w = .go g' w' es ∧ ((∀ e ∈ es, Ok w'.heap.size e) ∧ w0.heap.size ≤ w'.heap.size) ∧ Br.Way Try.prog Ok Stop g' w' := by
  obtain ⟨es, e1, e2⟩ := stepG_load26 (main := true) (cs := cs) (kk := kk) (w := w) (rest := rest) ho hw hk hop hx hc hc'
  refine ⟨_, _, es, e1, ⟨fun e he => ?_, hz⟩, h⟩
  rcases e2 e he with rfl | rfl
  · exact hok
  · exact hok'
set_option maxRecDepth 100000 in
set_option maxHeartbeats 4000000 in
theorem ns_tail {N c : Nat} {Z : Nat → Prop} {w : World} (hm2 : w.cell? ⟨N + 2, 2, none⟩ = some (.int .i64 ver)) (hm3 : w.cell? ⟨N + 2, 3, none⟩ = some (.slice (some ⟨N + 1, 0, none⟩) xs.length xs.length)) (hsz : N + 4 ≤ w.heap.size) {j2 j3 j7 j8 j9 j10 j11 j12 j13 j14 j18 j19 j20 j21 j22 j23 j24 j25 j26 j27 : Value} :
    Br.Way Try.prog (Ok1 (geoN N c ver xs Z).Sh) (fun g2 w2 => (∃ d, w2 = w.at d) ∧ g2 = G ((base 42).at ⟨#[.int .i64 ver, .slice A xs.length cap, j2, j3, .pointer (some ⟨N, 0, none⟩), .pointer (some ⟨N + 2, 0, none⟩), .pointer (some ⟨N + 3, 0, none⟩), j7, j8, j9, j10, j11, j12, j13, j14, .slice A xs.length cap, .int .i64 (xs.length : Int), .int .i64 (xs.length : Int), j18, j19, j20, j21, j22, j23, j24, j25, .pointer (some ⟨N + 2, 2, none⟩), .agg #[.int .i64 ver, .slice (some ⟨N + 1, 0, none⟩) xs.length xs.length]], []⟩ [.inRegion ops1042 [2], .code .ret]) cs)
      (G ((base 42).at ⟨#[.int .i64 ver, .slice A xs.length cap, j2, j3, .pointer (some ⟨N, 0, none⟩), .pointer (some ⟨N + 2, 0, none⟩), .pointer (some ⟨N + 3, 0, none⟩), j7, j8, j9, j10, j11, j12, j13, j14, .slice A xs.length cap, .int .i64 (xs.length : Int), .int .i64 (xs.length : Int), j18, j19, j20, j21, j22, j23, j24, j25, j26, j27], []⟩ [.inRegion ops942 [], .code R1042]) cs) w := by
  simp only [ops942, ops1042, opsOf, R1042, R942, body42, findLoop, sndOf, fstOf, Try.f42, Option.getD_some]
  refine Br.Way.steps rfl fun d1 => ⟨_, _, _, stepG_region_end, ⟨fun e he => by simp at he, Nat.le_refl _⟩, ?_⟩
  refine Br.Way.steps rfl fun d2 => ⟨_, _, _, stepG_seq, ⟨fun e he => by simp at he, Nat.le_refl _⟩, ?_⟩
  refine Br.Way.steps rfl fun d3 => ⟨_, _, _, stepG_region, ⟨fun e he => by simp at he, Nat.le_refl _⟩, ?_⟩
  have hlow : ∀ o, o = 2 ∨ o = 3 → ¬ (geoN N c ver xs Z).Sh (.cell ⟨N + 2, o, none⟩) := by
    rintro o ho ⟨ad, ea, h⟩
    injection ea with ea
    subst ea
    simp only at h
    omega
  have hok : ∀ o, o = 2 ∨ o = 3 → Ok1 (geoN N c ver xs Z).Sh w.heap.size ⟨.cell ⟨N + 2, o, none⟩, false, false⟩ := fun o ho =>
    ⟨evL_cell _ _ (hlow o ho) (by simp only; omega), fun X => by simp [MemAct.ofEvent]⟩
  refine Br.Way.steps rfl fun d4 => way_op26 rfl rfl (by k_ne) rfl rfl (Nat.le_refl _) ?_
  refine Br.Way.steps rfl fun d5 => way_load26 rfl rfl (by k_ne) rfl rfl hm2 hm3 (Nat.le_refl _) (hok 2 (.inl rfl)) (hok 3 (.inr rfl)) (.stop ⟨⟨d5, rfl⟩, rfl⟩)

/-- What newSlot leaves: a row of its own; what was there stands. -/
structure NewAt (N : Nat) (u u' : World) (xs : List Int) : Prop where
  size : u'.heap.size = N + 4 + 2 * xs.length
  old : ∀ b, b < N → u'.heap[b]? = u.heap[b]?
  row : u'.heap[N + 1]? = some (.cells (xs.map iv).toArray 3)

theorem unveil {w u : World} (hA : At W0 S w u) {b : Nat} {c : Array Value} {e : TypeId} {f : Nat × Nat} (h : u.heap[b]? = some (.cells c e f)) (hc : 0 < c.size) : S b = false ∧ w.heap[b]? = some (.cells c e f) := by
  obtain ⟨T0, d0, hu⟩ := hA.veil
  rw [hu, pos_heap, hid_get] at h
  cases hw : w.heap[b]? with
  | none => rw [hw] at h; cases h
  | some o =>
    rw [hw] at h
    cases hs : S b with
    | true =>
      rw [hs] at h
      cases o <;> simp [hideObj, Br.veil] at h
      obtain ⟨rfl, _⟩ := h
      simp at hc
    | false =>
      rw [hs] at h
      cases o <;> simp [hideObj, Br.veil] at h
      obtain ⟨rfl, rfl, rfl⟩ := h
      exact ⟨rfl, rfl⟩
theorem unveil_cell {w u : World} (hA : At W0 S w u) {a : Addr} {x : Value} (h : u.cell? a = some x) : S a.block = false ∧ w.cell? a = some x := by
  obtain ⟨T0, d0, hu⟩ := hA.veil
  rw [hu, cell_pos, cell_hid] at h
  cases hs : S a.block with
  | true => rw [hs] at h; simp at h
  | false => rw [hs] at h; exact ⟨rfl, by simpa using h⟩
/-- .. and back. -/
theorem veil_at {w : World} {b : Nat} {c : Array Value} {e : TypeId} {f : Nat × Nat} (hs : S b = false) (h : w.heap[b]? = some (.cells c e f)) : (hid S w).heap[b]? = some (.cells c e f) := by
  rw [hid_get, h, hs]; rfl

set_option maxRecDepth 100000 in
set_option maxHeartbeats 8000000 in
theorem ns_phase {N : Nat} {u0 u : World} (hN : u0.heap.size = N) (hp : Pro u0 u xs.length ver) (h1 : 1 ≤ xs.length) (h6 : xs.length ≤ 6)
    (hrow : ∃ b off, A = some ⟨b, off, none⟩ ∧ b < N ∧ ∀ j x, xs[j]? = some x → u0.cell? ⟨b, off + j, none⟩ = some (.int .i64 x))
    (hW : W0.heap.size ≤ N) (hX : ∀ a : Addr, N ≤ a.block → X a) {j2 j3 j7 j8 j9 j10 j11 j12 j13 j14 j18 j19 j20 j21 j22 j23 j24 j25 j26 j27 : Value}
    (h : ∀ S' u', NewAt N u0 u' xs → Kh Try.prog W0 Post S' (fun _ => False) (G (caller.finish (.agg #[.int .i64 ver, .slice (some ⟨N + 1, 0, none⟩) xs.length xs.length])) cs) u') :
    Kh Try.prog W0 Post S X (G ((base 42).at ⟨#[.int .i64 ver, .slice A xs.length cap, j2, j3, .pointer (some ⟨N, 0, none⟩), .pointer (some ⟨N + 2, 0, none⟩), .pointer (some ⟨N + 3, 0, none⟩), j7, j8, j9, j10, j11, j12, j13, j14, .slice A xs.length cap, .int .i64 (xs.length : Int), .int .i64 0, j18, j19, j20, j21, j22, j23, j24, j25, j26, j27], []⟩ [.code LL42, .inLoop LL42, .inBlock 0, .code R942]) (caller :: cs)) u := by
  obtain ⟨psz, pold, pres, ⟨cs0, prow, pcs0⟩, pmu, pwg⟩ := hp
  rw [hN] at psz pold pres prow pmu pwg
  intro w hA d gs sl t q h0 hL hP hg hXt
  have hwz : w.heap.size = N + 4 := by
    obtain ⟨T0, d0, hu⟩ := hA.veil
    rw [hu, pos_heap, hid_size] at psz
    exact psz
  obtain ⟨sN, wres⟩ := unveil hA pres (by simp)
  obtain ⟨sC, wrow⟩ := unveil hA prow (by omega)
  obtain ⟨sM, wmu⟩ := unveil hA pmu (by simp)
  obtain ⟨sW, wwg⟩ := unveil hA pwg (by simp)
  have hSlt : ∀ b, S b = true → b < N := fun b hb => by
    have := (hA.low b hb).2
    rcases Nat.lt_or_ge b N with hlt | hge
    · exact hlt
    · exfalso
      have : b = N ∨ b = N + 1 ∨ b = N + 2 ∨ b = N + 3 := by omega
      rcases this with rfl | rfl | rfl | rfl
      · rw [sN] at hb; cases hb
      · rw [sC] at hb; cases hb
      · rw [sM] at hb; cases hb
      · rw [sW] at hb; cases hb
  have hc1 : 1 ≤ gs.size := (Array.getElem?_eq_some_iff.1 h0).1
  obtain ⟨b, off, rfl, hb, hcell⟩ := hrow
  have hcu : ∀ j x, xs[j]? = some x → S b = false ∧ w.cell? ⟨b, off + j, none⟩ = some (.int .i64 x) := fun j x hj => by
    refine unveil_cell hA (a := ⟨b, off + j, none⟩) ((cellOf (pold b hb)).trans (hcell j x hj))
  have hSb : ¬ S b = true := by
    have := (hcu 0 xs[0] (List.getElem?_eq_getElem (by omega))).1
    rw [this]; simp
  -- the start of the phase
  have hsh : ShAt (geoN N gs.size ver xs fun b => S b = true) (w.at d) ⟨⟨⟨0, 0, 0, 0⟩, 0⟩, 0, 0, 0⟩ := by
    refine ⟨?_, ?_⟩
    · show w.heap[N + 2]? = _
      rw [wmu]; rfl
    · show w.heap[N + 3]? = _
      rw [wwg]; rfl
  have hpay : Pay (geoN N gs.size ver xs fun b => S b = true) (w.at d) := ⟨cs0, wrow, pcs0⟩
  have hKF : KF N gs.size ver xs (fun b => S b = true) (some ⟨b, off, none⟩) (N + 4 + 2 * 0) (w.at d) :=
    ⟨⟨_, hsh⟩, hpay, hwz, b, off, rfl, hb, hSb, fun j x hj => (hcu j x hj).2⟩
  have hG : GeoOk (geoN N gs.size ver xs fun b => S b = true) { w.at d with heap := w.heap.extract 0 (N + 1) } := geoOkN hc1 (by simp; omega)
  obtain ⟨N1, m1, t1, hr1, hD⟩ := phase (P := Try.prog) (gs := gs) (w := w.at d) (sl := sl) (t := t) (Fin := FinN N ver xs (some ⟨b, off, none⟩) cap (caller :: cs)) (Shun := ShS S) (q := q) hG (fun g w d h => h) (show 0 < xs.length by omega) rfl h0 hL (hP.mono (by rw [hwz]; simp only [geoN]; omega)) hg
    (fun l hl _ => by
      obtain ⟨a, rfl, ha⟩ := hl
      exact ⟨a, rfl, .inr (.inr ⟨ha, hSlt _ ha⟩)⟩)
    (fun i hi => by
      obtain ⟨op, hop, ha⟩ := Option.map_eq_some_iff.1 hi
      exact hXt (stA (N + 3)) (hX _ (by simp only [stA]; omega)) op (Array.mem_of_getElem? hop) ha)
    hsh hpay ⟨rfl, rfl, .refl _⟩ (by show (w.heap.extract 0 (N + 1)).size ≤ w.heap.size; rw [Array.size_extract]; omega) (fun b hb => by
      simp at hb
      show w.heap[b]? = (w.heap.extract 0 (N + 1))[b]?
      rw [Array.getElem?_extract]
      have : b < N + 1 := by omega
      simp [this, hwz]; try omega)
    (fun d' => by
      obtain ⟨m, hm⟩ := forGo (N := N) (c := gs.size) (ver := ver) (xs := xs) (Z := fun b => S b = true) (A := some ⟨b, off, none⟩) (cap := cap) (cs := caller :: cs) hc1 h6 xs.length 0 (by omega) d'
      rw [if_neg (by omega)] at hm
      exact ⟨m, hm _ _ _ _ _ _ _ _ _ _ _ _ _ _ _ _ _ _ _ _ _ hKF⟩)
  obtain ⟨gs1, w1, sl1, g1, q1, S1, rfl, hsz1, h01, ⟨⟨i2, i3, i7, i8, i9, i10, i11, i12, i13, i14, i18, i19, i20, i21, i22, i23, i24, i25, i26, i27, rfl⟩, hz1⟩, hL1, hP1, hg1, hsh1, hpay1, hhas, hout1, hgr1, hold1⟩ := done_frame hG hD
  refine fin_steps hr1 ?_
  have hold : ∀ b, b < N + 1 → w1.heap[b]? = w.heap[b]? := fun b hb => by
    have hz0 : ({ w.at d with heap := w.heap.extract 0 (N + 1) } : World).heap.size = N + 1 := by
      show (w.heap.extract 0 (N + 1)).size = N + 1
      rw [Array.size_extract]; omega
    rw [hold1 b (by rw [hz0]; exact hb)]
    show (w.heap.extract 0 (N + 1))[b]? = _
    rw [Array.getElem?_extract]
    simp [hb, hwz]; try omega
  have hmu1 := hsh1.1
  have m2 : w1.cell? ⟨N + 2, 2, none⟩ = some (.int .i64 ver) := by
    have : w1.heap[N + 2]? = _ := hmu1
    simp [World.cell?, this, geoN]
  have m3 : w1.cell? ⟨N + 2, 3, none⟩ = some (.slice (some ⟨N + 1, 0, none⟩) xs.length xs.length) := by
    have : w1.heap[N + 2]? = _ := hmu1
    simp [World.cell?, this, geoN]
  have hway := ns_tail (ver := ver) (xs := xs) (A := some ⟨b, off, none⟩) (cap := cap) (cs := caller :: cs) (c := gs.size) (Z := fun b => S b = true) (j2 := i2) (j3 := i3) (j7 := i7) (j8 := i8) (j9 := i9) (j10 := i10) (j11 := i11) (j12 := i12) (j13 := i13) (j14 := i14) (j18 := i18) (j19 := i19) (j20 := i20) (j21 := i21) (j22 := i22) (j23 := i23) (j24 := i24) (j25 := i25) (j26 := i26) (j27 := i27) m2 m3 (by omega)
  obtain ⟨N2, gs2, g2, w2, d2, sl2, t2, q2, hr2, hsz2, h02, ⟨⟨d3, rfl⟩, rfl⟩, hL2, hP2, hg2, _⟩ := way_besideO (Ok := Ok1 (geoN N gs.size ver xs fun b => S b = true).Sh) (fun n e h => h.1) (fun n e h X => h.2 X) hway _ gs1 w1.drawn sl1 t1 q1 (Nat.le_refl _) h01 hL1 (hP1.mono (by rw [hz1]; simp only [geoN]; omega)) hg1
  refine fin_steps hr2 ?_
  -- a frame again
  have hcells : w1.heap[N + 1]? = some (.cells (xs.map iv).toArray 3) := by
    obtain ⟨cs1, hc1', hc2⟩ := hpay1
    have hc1'' : w1.heap[N + 1]? = some (.cells cs1 3 (0, 0)) := hc1'
    have : cs1 = (xs.map iv).toArray := by
      apply Array.ext_getElem?
      intro i
      by_cases hi : i < xs.length
      · have := hhas i hi
        have e : w1.cell? ⟨N + 1, i, none⟩ = some (.int .i64 (xs.getD i 0)) := this
        simp only [World.cell?, hc1''] at e
        simp at e
        rw [e]
        simp [hi, iv]
      · have h5 : cs1.size = xs.length := hc2
        rw [Array.getElem?_eq_none (by omega), Array.getElem?_eq_none (by simp; omega)]
    rw [hc1'', this]
  let S' : Nat → Bool := fun b => S b || (decide (N + 2 ≤ b) && decide (b < N + 4 + 2 * xs.length))
  have hS1 : ∀ b, b < N + 2 → S' b = S b := fun b hb => by
    have : decide (N + 2 ≤ b) = false := by simp; omega
    simp [S', this]
  have hveil : ∀ b, b < N → ∀ (T : Nat → Question → Nat) (d : Nat), (pos (hid S' w1) T d).heap[b]? = u0.heap[b]? := fun b hb T d => by
    rw [pos_heap, hid_get, hS1 b (by omega), hold b (by omega), ← pold b hb]
    obtain ⟨T0, d0, hu⟩ := hA.veil
    rw [hu, pos_heap, hid_get]
  refine ns_end (ver := ver) (n := xs.length) (N := N) (W0 := W0) (Post := Post) (S := S') (X := fun _ => False) (caller := caller) (cs := cs) (u := hid S' w1) (veil_at (by rw [hS1 N (by omega)]; exact sN) ((hold N (by omega)).trans wres)) hW (fun u' e1 e2 e3 => h S' u' ⟨by rw [e1, hid_size, hz1], fun b hb => by
      rw [e2 b (by omega)]
      exact hveil b hb w.tape 0, by
      rw [e2 (N + 1) (by omega)]
      exact veil_at (by rw [hS1 _ (by omega)]; exact sC) hcells⟩) (w1.at d3) ?_ d2 gs2 sl2 t2 q2 h02 hL2 ?_ hg2 (fun _ h => h.elim)
  · refine ⟨⟨w1.tape, w1.drawn, rfl⟩, fun b hb => ?_, ?_, fun b hb => ?_, ?_, ?_, ?_⟩
    · show _ ∧ b < w1.heap.size
      simp only [S', Bool.or_eq_true, Bool.and_eq_true, decide_eq_true_eq] at hb
      rcases hb with hb | hb
      · exact ⟨(hA.low b hb).1, by have := hSlt b hb; omega⟩
      · omega
    · show W0.heap.size ≤ w1.heap.size; omega
    · show w1.heap[b]? = _
      rw [hold b (by omega)]; exact hA.old b hb
    · exact hout1.output.trans hA.out
    · exact hout1.tape.trans hA.tape
    · exact hA.os.trans hout1.os
  · refine ⟨hP2.clean, fun i a ha hm => ?_, hP2.over, hP2.hears, hP2.seen⟩
    refine (hP2.known i a ha hm).imp id (fun ⟨⟨ad, e, hsh⟩, hk⟩ => ⟨⟨ad, e, ?_⟩, hk⟩)
    simp only [S', Bool.or_eq_true, Bool.and_eq_true, decide_eq_true_eq]
    rcases hsh with ⟨e1, _⟩ | e1 | ⟨e1, _⟩
    · exact .inr (by rw [e1]; omega)
    · exact .inr (by rw [e1]; omega)
    · exact .inl e1

set_option maxRecDepth 100000 in
/-- ████ newSlot, BESIDE LEAVERS. ████ -/
theorem kh_newSlot {u : World} (h1 : 1 ≤ xs.length) (h6 : xs.length ≤ 6) (hrow : ∃ b off, A = some ⟨b, off, none⟩ ∧ b < u.heap.size ∧ ∀ j x, xs[j]? = some x → u.cell? ⟨b, off + j, none⟩ = some (.int .i64 x)) (hW : W0.heap.size ≤ u.heap.size)
    (h : ∀ S' u', NewAt u.heap.size u u' xs → Kh Try.prog W0 Post S' (fun _ => False) (G (caller.finish (.agg #[.int .i64 ver, .slice (some ⟨u.heap.size + 1, 0, none⟩) xs.length xs.length])) cs) u') :
    Kh Try.prog W0 Post S X (G ((base 42).at ⟨#[.int .i64 ver, .slice A xs.length cap, undef, undef, undef, undef, undef, undef, undef, undef, undef, undef, undef, undef, undef, undef, undef, undef, undef, undef, undef, undef, undef, undef, undef, undef, undef, undef], []⟩ [.code body42]) (caller :: cs)) u :=
  kh_fresh (ns_prologue h6 hW fun u' _ _ _ _ _ _ _ _ _ _ _ _ _ _ _ _ _ _ _ _ hP => ns_phase rfl hP h1 h6 hrow hW (fun a ha => ha) h)
end
end Go.Proofs.Ytlcjepgmmbdkmaa.Ph
