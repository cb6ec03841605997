/-
  A worker, whole: it is born, takes the lock, writes its word, lets go, and says that it is done.
-/
import Derived.Test.YtlcjepgmmbdkmaaLk
import Derived.Test.YtlcjepgmmbdkmaaUl
import Derived.Test.YtlcjepgmmbdkmaaDn
namespace Go.Proofs.Ytlcjepgmmbdkmaa.Ph
open Go.Conc Go.Proofs.Ytlcjepgmmbdkmaa.Auto Go.Proofs.Ytlcjepgmmbdkmaa.Trc Go.RowKit Go.Conc.Lib Go.ConcR.Gen
open Go.ConcM hiding Eff Eff.refl Eff.set Eff.later Eff.asked ShAt MuAt Pc Th Sh hd at_ After
open Go.ConcR (KK wgBlock WgAt stA smA rd wr mk)
set_option linter.unusedSimpArgs false
set_option linter.unusedVariables false

theorem loud50 : (Try.prog.funcs[(baseD 50).fn]?).any (·.norace) = false := by kernel_rfl
theorem loud52 : (Try.prog.funcs[(base 52).fn]?).any (·.norace) = false := by kernel_rfl

section
variable {P : Program} {main : Bool} {b : Frame} {a : Act} {cs : List Frame} {w : World} {fn : Func} {todo : List Item} {c : Frame}
theorem goes_leaveD0 {Q : Goroutine → World → Array Event → Prop} (hn : b.kind = .deferred) (hd : a.defers = []) (hf : P.funcs[b.fn]? = some fn) (hr : fn.results = #[]) (hc : c.mode = .returning) (h : Q (G c cs) w #[]) :
    (stepG P main (G { b.at a todo with mode := .returning } (c :: cs)) w).goes Q := by
  rw [stepG_leave_deferred hn hd hf (results_none hr _ P w) (events_results_none hr _ _) hc]; exact h
end
section
variable {main : Bool} {b : Frame} {a : Act} {kk : List Item} {cs : List Frame} {w : World} {ops : Array Oper} {i : Nat} {rest : List Nat} {o : Oper}
theorem stepG_store3 {x y : Operand} (ho : ops[i]? = some o) (hw : Region.wanted o (yielded ops a.tmps) = true) (hk : b.kind ≠ .early) (hop : o.op = .store 3 x y)
    {ad : Addr} {v : Int} {u : Value} (hx : a.eval x = .pointer (some ad)) (hy : a.eval y = .int .i64 v) (hc : w.cell? ad = some u) (hz : w.frozen? ad = false) (hq : (Try.prog.funcs[b.fn]?).any (·.norace) = false) :
    stepG Try.prog main (G (b.at a (.inRegion ops (i :: rest) :: kk)) cs) w = .go (G (b.at (a.put o.dst undef) (.inRegion ops rest :: kk)) cs) (w.setCell ad (.int .i64 v)) #[⟨.cell ad, true, false⟩] := by
  have hr : (execOp a.eval o).run Try.prog w = .ok .skip (w.setCell ad (.int .i64 v)) := by
    unfold execOp
    simp only [hop, hx, hy]
    simp [go_sem, stored, hc, hz]
  have he : (execOp a.eval o).events Try.prog w #[] = #[⟨.cell ad, true, false⟩] := by
    unfold execOp
    simp only [hop, hx, hy]
    simp [go_sem, storedEv, hc, hz]
  rw [stepG_none ho hw hk hr]
  unfold listed
  rw [he, seen_eq hq (by simp)]
theorem stepG_load3 {x : Operand} (ho : ops[i]? = some o) (hw : Region.wanted o (yielded ops a.tmps) = true) (hk : b.kind ≠ .early) (hop : o.op = .load 3 x)
    {ad : Addr} {v : Int} (hx : a.eval x = .pointer (some ad)) (hc : w.cell? ad = some (.int .i64 v)) (hq : (Try.prog.funcs[b.fn]?).any (·.norace) = false) :
    stepG Try.prog main (G (b.at a (.inRegion ops (i :: rest) :: kk)) cs) w = .go (G (b.at (a.put o.dst (.int .i64 v)) (.inRegion ops rest :: kk)) cs) w #[⟨.cell ad, false, false⟩] := by
  have hr : (execOp a.eval o).run Try.prog w = .ok (.value (.int .i64 v)) w := by
    unfold execOp
    simp only [hop, hx]
    simp [go_sem, hc]
  have he : (execOp a.eval o).events Try.prog w #[] = #[⟨.cell ad, false, false⟩] := by
    unfold execOp
    simp only [hop, hx]
    simp [go_sem, hc]
  rw [stepG_value ho hw hk hr]
  unfold listed
  rw [he, seen_eq hq (by simp)]
theorem stepG_load22 {x : Operand} (ho : ops[i]? = some o) (hw : Region.wanted o (yielded ops a.tmps) = true) (hk : b.kind ≠ .early) (hop : o.op = .load 22 x)
    {ad : Addr} {A : Option Addr} {n c : Nat} (hx : a.eval x = .pointer (some ad)) (hc : w.cell? ad = some (.slice A n c)) (hq : (Try.prog.funcs[b.fn]?).any (·.norace) = false) :
    stepG Try.prog main (G (b.at a (.inRegion ops (i :: rest) :: kk)) cs) w = .go (G (b.at (a.put o.dst (.slice A n c)) (.inRegion ops rest :: kk)) cs) w #[⟨.cell ad, false, false⟩] := by
  have hr : (execOp a.eval o).run Try.prog w = .ok (.value (.slice A n c)) w := by
    unfold execOp
    simp only [hop, hx]
    simp [go_sem, hc]
  have he : (execOp a.eval o).events Try.prog w #[] = #[⟨.cell ad, false, false⟩] := by
    unfold execOp
    simp only [hop, hx]
    simp [go_sem, hc]
  rw [stepG_value ho hw hk hr]
  unfold listed
  rw [he, seen_eq hq (by simp)]
end

/-- What is fixed of a worker. -/
structure WOk (Γ : Geo) (i bI bV : Nat) (x : Int) : Prop where
  lI : bI < Γ.Lw (i + 1)
  lV : bV < Γ.Lw (i + 1)
  iM : bI ≠ Γ.Mu ∧ bI ≠ Γ.Wg ∧ bI ≠ Γ.C
  vM : bV ≠ Γ.Mu ∧ bV ≠ Γ.Wg ∧ bV ≠ Γ.C
  hw : Γ.hw = .slice (some ⟨Γ.C, 0, none⟩) Γ.n Γ.n
  ety : Γ.ety = 3
  val : Γ.val i = .int .i64 x
  inn : i < Γ.n
  rI : Γ.Rd (num Γ i) (.cell ⟨bI, 0, none⟩)
  rV : Γ.Rd (num Γ i) (.cell ⟨bV, 0, none⟩)
  rH : Γ.Rd (num Γ i) (.cell ⟨Γ.Mu, 3, none⟩)
  own : Γ.Own (num Γ i) (.cell ⟨Γ.C, i, none⟩)
  bI : bI < Γ.B
  bV : bV < Γ.B
  bC : Γ.C < Γ.B
/-- What it knows. -/
structure KN (Γ : Geo) (i bI bV : Nat) (x : Int) (w : World) : Prop where
  live : ∃ S, ShAt Γ w S
  pay : Pay Γ w
  bi : w.cell? ⟨bI, 0, none⟩ = some (.int .i64 (i : Int))
  bv : w.cell? ⟨bV, 0, none⟩ = some (.int .i64 x)
section
variable {Γ : Geo} {i bI bV : Nat} {x : Int} {w w₁ : World} {T : Th}
theorem KN.ok (W : WOk Γ i bI bV x) : KOk Γ i (KN Γ i bI bV x) :=
  ⟨fun h r => ⟨r.live h.live, r.pay h.pay, (cellOf (r.low bI W.lI W.iM.1 W.iM.2.1 W.iM.2.2)).trans h.bi, (cellOf (r.low bV W.lV W.vM.1 W.vM.2.1 W.vM.2.2)).trans h.bv⟩, fun h => h.live⟩
theorem KN2.ok (W : WOk Γ i bI bV x) : KOk Γ i (fun w => KN Γ i bI bV x w ∧ Has Γ i (Γ.val i) w) :=
  ⟨fun h r => ⟨(KN.ok W).rely h.1 r, r.cell.trans h.2⟩, fun h => h.1.live⟩
theorem dw_read {ad : Addr} (h : Γ.Rd (num Γ i) (.cell ad)) (hb : ad.block < Γ.B) (hm : muteT T = false) : DW Γ i T w w #[⟨.cell ad, false, false⟩] := by
  refine ⟨EfI.refl i w, fun e he => ?_, fun x => absurd x (by rw [hm]; simp), fun _ => rfl⟩
  simp at he
  subst he
  refine ⟨⟨fun fn pos => ⟨rfl, hb, fun y hy => ?_⟩, by simp⟩, by simp, by simp⟩
  simp only [ofEvent_cell0, MemAct.touch?, Option.some.injEq] at hy
  subst hy
  exact .inr (.inr ⟨h, rfl, rfl⟩)
theorem pay_cell (h : Pay Γ w) (hi : i < Γ.n) : ∃ u, w.cell? ⟨Γ.C, i, none⟩ = some u := by
  obtain ⟨cs, h1, h2⟩ := h
  exact ⟨cs[i]'(by omega), by simp [World.cell?, h1, h2, hi]⟩
theorem pay_thaw (h : Pay Γ w) (i : Nat) : w.frozen? ⟨Γ.C, i, none⟩ = false := by
  obtain ⟨cs, h1, h2⟩ := h
  simp [World.frozen?, h1]
theorem pay_set (h : Pay Γ w) (v : Value) : Pay Γ (w.setCell ⟨Γ.C, i, none⟩ v) := by
  obtain ⟨cs, h1, h2⟩ := h
  rw [Pay, setCell_eq_setRow w Γ.C i _ Γ.ety (0, 0) _ h1, setRow_heap w Γ.C _ _ Γ.ety _ h1]
  simp [h2]
theorem has_set (h : Pay Γ w) (hi : i < Γ.n) (v : Value) : Has Γ i v (w.setCell ⟨Γ.C, i, none⟩ v) := by
  obtain ⟨cs, h1, h2⟩ := h
  have e : (w.setCell ⟨Γ.C, i, none⟩ v).heap[Γ.C]? = some (.cells (cs.setIfInBounds i v) Γ.ety (0, 0)) := by
    rw [setCell_eq_setRow w Γ.C i _ Γ.ety (0, 0) _ h1, setRow_heap w Γ.C _ _ Γ.ety _ h1]
    try simp
  simp [Has, World.cell?, e, h2, hi]
theorem other_set (h : Pay Γ w) {i' : Nat} (hi : i' ≠ i) (v : Value) : (w.setCell ⟨Γ.C, i, none⟩ v).cell? ⟨Γ.C, i', none⟩ = w.cell? ⟨Γ.C, i', none⟩ := by
  obtain ⟨cs, h1, h2⟩ := h
  have e : (w.setCell ⟨Γ.C, i, none⟩ v).heap[Γ.C]? = some (.cells (cs.setIfInBounds i v) Γ.ety (0, 0)) := by
    rw [setCell_eq_setRow w Γ.C i _ Γ.ety (0, 0) _ h1, setRow_heap w Γ.C _ _ Γ.ety _ h1]
    try simp
  simp [World.cell?, e, h1, Array.getElem?_setIfInBounds, Ne.symm hi]
theorem efi_set (h : Pay Γ w) (v : Value) : EfI Γ i w (w.setCell ⟨Γ.C, i, none⟩ v) := by
  have A := aside_setCell w ⟨Γ.C, i, none⟩ v
  exact ⟨⟨A.tape, A.output, by rw [A.os]; exact .refl _⟩, A.size, fun b hb => A.block b hb, fun h => pay_set h v, fun i' hi' => other_set h hi' v⟩
theorem dw_store (h : Pay Γ w) (v : Value) (ho : Γ.Own (num Γ i) (.cell ⟨Γ.C, i, none⟩)) (hb : Γ.C < Γ.B) (hm : muteT T = false) (hd : didT T = false) : DW Γ i T w (w.setCell ⟨Γ.C, i, none⟩ v) #[⟨.cell ⟨Γ.C, i, none⟩, true, false⟩] := by
  refine ⟨efi_set h v, fun e he => ?_, fun x => absurd x (by rw [hm]; simp), fun x => absurd x (by rw [hd]; simp)⟩
  simp at he
  subst he
  refine ⟨⟨fun fn pos => ⟨rfl, hb, fun y hy => ?_⟩, by simp⟩, by simp, by simp⟩
  simp only [ofEvent_cell0, MemAct.touch?, Option.some.injEq] at hy
  subst hy
  exact .inr (.inl ⟨ho, rfl⟩)
theorem kn_set (G₀ : GOk Γ) (W : WOk Γ i bI bV x) (h : KN Γ i bI bV x w) : KN Γ i bI bV x (w.setCell ⟨Γ.C, i, none⟩ (.int .i64 x)) ∧ Has Γ i (Γ.val i) (w.setCell ⟨Γ.C, i, none⟩ (.int .i64 x)) := by
  have A := aside_setCell w ⟨Γ.C, i, none⟩ (.int .i64 x)
  obtain ⟨S, hs⟩ := h.live
  refine ⟨⟨⟨S, (A.block Γ.Mu G₀.mc).trans hs.1, hs.2.of_block (A.block Γ.Wg G₀.wc)⟩, pay_set h.pay _, (cellOf (A.block bI W.iM.2.2)).trans h.bi, (cellOf (A.block bV W.vM.2.2)).trans h.bv⟩, ?_⟩
  rw [W.val]
  exact has_set h.pay W.inn _
end

noncomputable def bot : Frame := { (default : Frame) with fn := Try.prog.funcs.size, defers := [], mode := .panicking [goexitEntry] }
noncomputable def body50 : Code := Try.f50.body.getD .skip
def call50 (Γ : Geo) (bI bV : Nat) : Deferred := { target := .fn (.func 50) #[.pointer (some ⟨Γ.Wg, 0, none⟩), .pointer (some ⟨Γ.Mu, 0, none⟩), .pointer (some ⟨bI, 0, none⟩), .pointer (some ⟨bV, 0, none⟩)], args := #[] }
/-- The literal's own way out: it only leaves. -/
theorem quitsTail (T : Array Value) : QuitsD Try.prog 2 0 (G { (baseD 50).at ⟨T, []⟩ [] with mode := .returning } [bot]) := by
  refine QuitsD.ctl (g' := G bot []) rfl (fun w => ?_) ?_
  · simp [G, stepG, unwind, doReturn, results, Frame.at, baseD, bot, Try.func50, Try.f50, seen, GStep.after, goexitEntry]
  refine QuitsD.ctl (g' := { G bot [] with status := .finished }) rfl (fun w => ?_) ⟨rfl, rfl⟩
  simp [G, stepG, unwind, bot, goexitEntry, Frame.catches]
  rfl
theorem born_step (Γ : Geo) (bI bV : Nat) (w : World) : stepG Try.prog false (born Try.prog (call50 Γ bI bV)) w =
    .go (G ((baseD 50).at ⟨#[.pointer (some ⟨Γ.Wg, 0, none⟩), .pointer (some ⟨Γ.Mu, 0, none⟩), .pointer (some ⟨bI, 0, none⟩), .pointer (some ⟨bV, 0, none⟩), undef, undef, undef], []⟩ [.code body50]) [bot]) w #[] := by
  simp [born, call50, stepG, unwind, callDeferred, invoke, callFunc, Try.func50, Try.f50, seen, GStep.after, G, Frame.enter, Frame.at, baseD, bot, body50]

section
variable {Γ : Geo} {i bI bV : Nat} {x : Int}
set_option maxRecDepth 100000 in
set_option maxHeartbeats 16000000 in
/-- ████ A WORKER's WHOLE SCRIPT. ████ -/
theorem workerGo (G₀ : GOk Γ) (W : WOk Γ i bI bV x) (k : Nat) (w : World) (hF : KN Γ i bI bV x w) : GT Γ i k (at_ .ld) 4000 (born Try.prog (call50 Γ bI bV)) w := by
  have hK := KN.ok W
  refine Goes.step rfl fun w₁ h₁ => ?_
  replace hF := hK.rely hF h₁
  clear h₁
  rw [born_step]
  refine ⟨by refine idle_none ?_; intro e he; simp at he, ?_⟩
  simp only [body50, Try.f50, Option.getD_some]
  refine plainGo (n := 200) ?_
  repeat w_go hK.rely
  u_defer hK.rely hF
  repeat w_go hK.rely
  refine Goes.stop (fun _ r₁ => ?_)
  replace hF := hK.rely hF r₁
  clear r₁
  show Goes _ _ _ _ _ _ _ _
  -- the boxes
  u_in hK.rely hF
  rw [stepG_load3 rfl rfl (by k_ne) rfl rfl hF.bi loud50]
  simp only [goes_go]
  refine ⟨dw_read W.rI W.bI rfl, ?_⟩
  walk_nrm
  u_in hK.rely hF
  rw [stepG_load3 rfl rfl (by k_ne) rfl rfl hF.bv loud50]
  simp only [goes_go]
  refine ⟨dw_read W.rV W.bV rfl, ?_⟩
  walk_nrm
  refine plainGo (n := 200) ?_
  u_call Try.func52 nm52 Try.f52 hK.rely hF
  repeat w_go hK.rely
  u_call Try.func67 nm67 Try.f67 hK.rely hF
  refine Goes.stop (fun _ r₁ => ?_)
  replace hF := hK.rely hF r₁
  clear r₁
  show Goes _ _ _ _ _ _ _ _
  refine goes_le (by omega) (lockGo G₀ hK ?_ k _ hF)
  -- BEHIND Lock
  intro d
  refine ⟨4000, fun w hF => ?_⟩
  walk_nrm
  refine plainGo (n := 200) ?_
  repeat w_go hK.rely
  u_defer hK.rely hF
  repeat w_go hK.rely
  refine Goes.stop (fun _ r₁ => ?_)
  replace hF := hK.rely hF r₁
  clear r₁
  show Goes _ _ _ _ _ _ _ _
  u_in hK.rely hF
  obtain ⟨S, hs⟩ := hF.live
  have hhw := hs.cellHw
  rw [W.hw] at hhw
  rw [stepG_load22 rfl rfl (by k_ne) rfl rfl hhw loud52]
  clear hhw hs S
  simp only [goes_go]
  refine ⟨dw_read W.rH G₀.bM rfl, ?_⟩
  walk_nrm
  have hi1 : (i : Int) < (Γ.n : Int) := by have := W.inn; omega
  have hi0 : (0 : Int) ≤ (i : Int) := by omega
  refine plainGo (n := 200) ?_
  repeat w_go hK.rely
  refine Goes.stop (fun _ r₁ => ?_)
  replace hF := hK.rely hF r₁
  clear r₁
  show Goes _ _ _ _ _ _ _ _
  -- THE STORE
  u_in hK.rely hF
  obtain ⟨u, hu⟩ := pay_cell hF.pay W.inn
  rw [stepG_store3 rfl rfl (by k_ne) rfl rfl rfl hu (pay_thaw hF.pay i) loud52]
  simp only [goes_go]
  refine ⟨dw_store hF.pay _ W.own W.bC rfl rfl, ?_⟩
  have hF2 := kn_set G₀ W hF
  clear hu u hF hi0 hi1
  have hF := hF2
  clear hF2 hK
  have hK := KN2.ok W
  walk_nrm
  refine plainGo (n := 200) ?_
  repeat w_go hK.rely
  refine Goes.stop (fun _ r₁ => ?_)
  replace hF := hK.rely hF r₁
  clear r₁
  show Goes _ _ _ _ _ _ _ _
  u_in hK.rely hF
  rw [stepG_unwind_enter rfl Try.func68 nm68 rfl]
  simp only [goes_go]
  refine ⟨by refine idle_none ?_; intro e he; simp at he, ?_⟩
  walk_nrmf Try.f68
  refine plainGo (n := 200) ?_
  repeat w_go hK.rely
  u_call Try.func79 nm79 Try.f79 hK.rely hF
  refine Goes.stop (fun _ r₁ => ?_)
  replace hF := hK.rely hF r₁
  clear r₁
  show Goes _ _ _ _ _ _ _ _
  refine goes_le (by omega) (unlockGo G₀ hK (fun _ h => h.2) ?_ d _ hF)
  -- BEHIND Unlock
  intro d
  refine ⟨4000, fun w hF => ?_⟩
  walk_nrm
  refine plainGo (n := 200) ?_
  repeat w_go hK.rely
  refine Goes.stop (fun _ r₁ => ?_)
  replace hF := hK.rely hF r₁
  clear r₁
  show Goes _ _ _ _ _ _ _ _
  u_in hK.rely hF
  refine goes_leaveD0 rfl rfl Try.func68 rfl rfl ⟨by refine idle_none ?_; intro e he; simp at he, ?_⟩
  refine plainGo (n := 200) ?_
  u_leave0 Try.func52 hK.rely hF
  repeat w_go hK.rely
  refine Goes.stop (fun _ r₁ => ?_)
  replace hF := hK.rely hF r₁
  clear r₁
  show Goes _ _ _ _ _ _ _ _
  u_in hK.rely hF
  rw [stepG_unwind_enter rfl Try.func51 nm51 rfl]
  simp only [goes_go]
  refine ⟨by refine idle_none ?_; intro e he; simp at he, ?_⟩
  walk_nrmf Try.f51
  exact goes_le (by omega) (doneGo G₀ hK rfl (quitsTail _) _ _ hF)
end
end Go.Proofs.Ytlcjepgmmbdkmaa.Ph
