/-
  A phase of the machine: goroutine 0 starts workers that contend for one mutex and joins them by one group, beside goroutines that only leave: what is asked of each goroutine, stop by stop; the invariant.
-/
import Derived.Test.YtlcjepgmmbdkmaaGrp
import Derived.Test.YtlcjepgmmbdkmaaTrc
import Derived.Conc.MuStep0
import Derived.Conc.CrowdStepW
namespace Go.Proofs.Ytlcjepgmmbdkmaa.Ph
open Go.Conc Go.Proofs.Ytlcjepgmmbdkmaa.Auto Go.Proofs.Ytlcjepgmmbdkmaa.Trc
open Go.ConcN (sumTo upd upd_same upd_ne sumTo_upd RelBy get_map_set get_map_set_same)
open Go.ConcR (KK wgBlock WgAt stA smA rd wr mk g_of_ofEvents ofEvent_mk ofEvent_loc_mark loc_of_ofEvent)
open Go.ConcM (OsLater)
set_option linter.unusedSimpArgs false
set_option linter.unusedVariables false

/-- What a phase is about: the blocks of the mutex (with the slot behind it), of the group, of the words; how many words; what stands behind the mutex; the words; how many goroutines there are when it begins; how far memory is out of the starter's hands when so many are started. -/
structure Geo where
  tM : TypeId
  tW : TypeId
  ety : TypeId
  Mu : Nat
  Wg : Nat
  C : Nat
  n : Nat
  hv : Value
  hw : Value
  val : Nat → Value
  c : Nat
  Lw : Nat → Nat
  Sh : Go.Loc → Prop
  Own : Nat → Go.Loc → Prop
  Rd : Nat → Go.Loc → Prop
  B : Nat

def muI (m : Wd) : Int := (m.l : Int) + 2 * m.k + 4 * m.s + 8 * m.w
section
variable (Γ : Geo)
def MuAt (w : World) (s : Auto.Sh) : Prop := w.heap[Γ.Mu]? = some (.cells #[.int .i32 (muI s.m), .int .u32 (s.ms : Int), Γ.hv, Γ.hw] Γ.tM (0, 0))
def ShAt (w : World) (S : St) : Prop := MuAt Γ w S.s ∧ WgAt Γ.tW Γ.Wg w ((S.v : Int) * KK + (S.wt : Int)) (S.ws : Int)
def Pay (w : World) : Prop := ∃ cs : Array Value, w.heap[Γ.C]? = some (.cells cs Γ.ety (0, 0)) ∧ cs.size = Γ.n
def Has (i : Nat) (v : Value) (w : World) : Prop := w.cell? ⟨Γ.C, i, none⟩ = some v

/-- What worker i suffers. -/
structure RW (i : Nat) (w w₁ : World) : Prop where
  size : w.heap.size ≤ w₁.heap.size
  low : ∀ b, b < Γ.Lw (i + 1) → b ≠ Γ.Mu → b ≠ Γ.Wg → b ≠ Γ.C → w₁.heap[b]? = w.heap[b]?
  live : (∃ S, ShAt Γ w S) → ∃ S, ShAt Γ w₁ S
  pay : Pay Γ w → Pay Γ w₁
  cell : w₁.cell? ⟨Γ.C, i, none⟩ = w.cell? ⟨Γ.C, i, none⟩
/-- What the starter suffers. -/
structure RS (w w₁ : World) : Prop where
  size : w₁.heap.size = w.heap.size
  block : ∀ b, b ≠ Γ.Mu → b ≠ Γ.Wg → b ≠ Γ.C → w₁.heap[b]? = w.heap[b]?
  live : (∃ S, ShAt Γ w S) → ∃ S, ShAt Γ w₁ S
  pay : Pay Γ w → Pay Γ w₁
/-- The outside, but for the clocks. -/
structure Out (w w' : World) : Prop where
  tape : w'.tape = w.tape
  output : w'.output = w.output
  os : OsLater w.os w'.os
/-- A worker's step between stops: it may turn its own cell. -/
structure EfI (i : Nat) (w w' : World) : Prop where
  out : Out w w'
  size : w'.heap.size = w.heap.size
  block : ∀ b, b ≠ Γ.C → w'.heap[b]? = w.heap[b]?
  pay : Pay Γ w → Pay Γ w'
  cells : ∀ i', i' ≠ i → w'.cell? ⟨Γ.C, i', none⟩ = w.cell? ⟨Γ.C, i', none⟩
/-- The starter's, while j are started: it makes memory, and fills what is its own. -/
structure EfS (j : Nat) (w w' : World) : Prop where
  out : Out w w'
  size : w.heap.size ≤ w'.heap.size
  low : ∀ b, b < Γ.Lw j → w'.heap[b]? = w.heap[b]?
/-- A step at a stop: the mutex's block and the group's. -/
structure Eff (w w' : World) : Prop where
  out : Out w w'
  size : w'.heap.size = w.heap.size
  block : ∀ b, b ≠ Γ.Mu → b ≠ Γ.Wg → w'.heap[b]? = w.heap[b]?

/-- Behind 'release and merge' on the group: nothing of its own may count any more. -/
def muteT (T : Th) : Bool := match T.pc with | .wk | .d1 | .d2 | .d3 | .d4 | .quit => true | _ => false
/-- It has written its word. -/
def didT (T : Th) : Bool := match T.pc with | .ud | .u0 | .uc | .ux | .us | .uh | .ue | .wr | .wk | .d1 | .d2 | .d3 | .d4 | .quit => true | _ => false
/-- How many of its 'disable's stand open. -/
def deafT (T : Th) : Nat := match T.pc with | .ld | .la | .ur | .ud | .wr | .wk | .quit | .bad => 0 | _ => 1
def deafS (a : Sr) : Nat := match a.pc with | .kd | .go | .xd | .aq | .fin => 0 | _ => 1

def EvW (k : Nat) (e : Event) : Prop := (∀ fn pos, OkW Γ.Sh Γ.Own Γ.Rd Γ.B k { g := k, fn, pos, act := .ofEvent e }) ∧ e.loc ≠ .mark (.release (stA Γ.Wg))
def Ev0 (j : Nat) (e : Event) : Prop := (∀ fn pos, Ok0 Γ.Sh Γ.Own Γ.Rd Γ.c Γ.B j { g := 0, fn, pos, act := .ofEvent e }) ∧ e.loc ≠ .mark (.release (stA Γ.Wg))
def plainE (e : Event) : Prop := e.loc ≠ .mark .disable ∧ e.loc ≠ .mark .enable
/-- Worker i's number. -/
def num (i : Nat) : Nat := Γ.c + i
def DW (i : Nat) (T : Th) (w w' : World) (es : Array Event) : Prop :=
  EfI Γ i w w' ∧ (∀ e ∈ es, EvW Γ (num Γ i) e ∧ plainE e) ∧ (muteT T = true → es = #[]) ∧ (didT T = true → w'.cell? ⟨Γ.C, i, none⟩ = w.cell? ⟨Γ.C, i, none⟩)
def DS (j : Nat) (w w' : World) (es : Array Event) : Prop := EfS Γ j w w' ∧ ∀ e ∈ es, Ev0 Γ (Γ.c - 1 + j) e ∧ plainE e
/-- What a worker lists at a stop. -/
def EvSt (i : Nat) (T T' : Th) (es : Array Event) : Prop :=
  (∀ e ∈ es, EvW Γ (num Γ i) e) ∧ deafBehind (deafT T) es = (if T'.pc = .quit then 1 else deafT T') ∧
  (muteT T = true → ∀ j e, es[j]? = some e → (MemAct.ofEvent e).touch? = none ∨ ((∃ ad x, e = ⟨.cell ad, x, true⟩) ∧ 0 < deafBehind (deafT T) (es.extract 0 j))) ∧
  (T.pc = .wr → es = #[mk (.releaseMerge (stA Γ.Wg))])
def EvSs (j : Nat) (a a' : Sr) (es : Array Event) : Prop :=
  (∀ e ∈ es, Ev0 Γ (Γ.c - 1 + j) e) ∧ deafBehind (deafS a) es = deafS a' ∧ (a.pc = .aq → es = #[mk (.acquire (stA Γ.Wg))])

/-- What holds for sure of one that stands at a stop. -/
structure SafeW (T : Th) (S : St) : Prop where
  loc : Auto.Loc T
  bit : S.s.m.l ≤ 1 ∧ S.s.m.k ≤ 1 ∧ S.s.m.s ≤ 1
  few : S.s.m.w ≤ Γ.n ∧ S.s.ms ≤ 1
  r2 : T.pc = .r2 → S.s.m.s = 1 → S.s.m.l = 0 ∧ S.s.m.k = 0 ∧ 0 < S.s.m.w
  a1 : T.pc = .a1 → S.s.m.s = 1 ∧ S.s.m.l = 0 ∧ S.s.m.k = 0 ∧ 0 < S.s.m.w
  u0 : T.pc = .u0 → S.s.m.l = 1
  v : S.v ≤ Γ.n ∧ S.wt ≤ 1 ∧ S.ws ≤ 1
  d1 : T.pc = .d1 → 0 < S.v ∧ S.ws = 0
  d2 : (T.pc = .d2 ∨ T.pc = .d3) → S.v = 0 ∧ S.wt = 1 ∧ S.ws = 0
  d4 : T.pc = .d4 → S.v = 0 ∧ S.wt = 0 ∧ S.ws = 0
  key : (T.pc = .r2 → S.s.m.s = 0 → S.s.m.k = 1) ∧ (T.pc.loop = true → T.aw = true → S.s.m.s = 0 ∧ S.s.m.k = 1)
structure SafeS (a : Sr) (S : St) : Prop where
  v : S.v ≤ Γ.n ∧ S.wt ≤ 1 ∧ S.ws ≤ 1
  early : (a.pc = .ad ∨ a.pc = .w1 ∨ a.pc = .w2) → S.wt = 0 ∧ S.ws = 0
  ad : a.pc = .ad → S.v < Γ.n
  w3 : a.pc = .w3 → 0 < S.ws → S.v = 0 ∧ S.wt = 0 ∧ S.ws = 1
  w4 : a.pc = .w4 → S.v = 0 ∧ S.wt = 0 ∧ S.ws = 0

variable (P : Program)
/-- ████ THE LAW OF A WORKER's STOP. ████ -/
def WStp (i : Nat) (Nx : Th → Goroutine → World → Prop) (T : Th) (g : Goroutine) (w : World) : Prop :=
  g.status = .running ∧ g.offers = none ∧ ((T.pc = .us ∨ T.pc = .uh ∨ T.pc = .d4) → mayWake P g = true) ∧ (T.pc = .ur → Has Γ i (Γ.val i) w) ∧
  ∀ S, ShAt Γ w S → SafeW Γ T S →
    ((T.pc = .s1 ∧ S.s.ms = 0) → stepG P false g w = .go { g with status := .blocked } w #[]) ∧
    (¬ (T.pc = .s1 ∧ S.s.ms = 0) → ∃ (T' : Th) (S' : St) (g' : Goroutine) (w' : World) (es : Array Event), WMv T S T' S' ∧ stepG P false g w = .go g' w' es ∧ ShAt Γ w' S' ∧ Eff Γ w w' ∧ EvSt Γ i T T' es ∧
      (if T'.pc = .quit then ∃ q, QuitsD P q 1 g' else ∃ m, Goes P false (RW Γ i) (DW Γ i T') (Nx T') m g' w'))
/-- Stops by depth. -/
def WAt (i : Nat) : Nat → Th → Goroutine → World → Prop
  | 0, _, _, _ => True
  | d + 1, T, g, w => WStp Γ P i (WAt i d) T g w
variable (Fin : Goroutine → World → Prop)
/-- ████ THE LAW OF A STARTER's STOP. ████ -/
def SStp (Nx : Sr → Goroutine → World → Prop) (a : Sr) (g : Goroutine) (w : World) : Prop :=
  g.status = .running ∧ g.offers = none ∧
  (a.pc = .fin → Fin g w) ∧
  (a.pc = .go → ∃ g' child, stepG P true g w = .spawn g' child w #[] ∧ child.status = .running ∧ (Pay Γ w → (∃ S, ShAt Γ w S) → ∀ d, ∃ m, Goes P false (RW Γ (Γ.n - a.r)) (DW Γ (Γ.n - a.r) (at_ .ld)) (WAt Γ P (Γ.n - a.r) d (at_ .ld)) m child w) ∧
    ∃ m, Goes P true (RS Γ) (DS Γ (Γ.n - a.next.r)) (Nx a.next) m g' w) ∧
  (a.pc ≠ .fin → a.pc ≠ .go → ∀ S, ShAt Γ w S → SafeS Γ a S →
    ((a.pc = .w3 ∧ S.ws = 0) → stepG P true g w = .go { g with status := .blocked } w #[]) ∧
    (¬ (a.pc = .w3 ∧ S.ws = 0) → ∃ (a' : Sr) (S' : St) (g' : Goroutine) (w' : World) (es : Array Event), SMv a S a' S' ∧ stepG P true g w = .go g' w' es ∧ ShAt Γ w' S' ∧ Eff Γ w w' ∧ EvSs Γ (Γ.n - a.r) a a' es ∧
      ∃ m, Goes P true (RS Γ) (DS Γ (Γ.n - a'.r)) (Nx a') m g' w'))
def SAt : Nat → Sr → Goroutine → World → Prop
  | 0, _, _, _ => True
  | d + 1, a, g, w => SStp Γ P Fin (SAt d) a g w

/-! ### where each stands -/
variable (K : Nat)
abbrev GoW (i κ : Nat) (T : Th) (m : Nat) (g : Goroutine) (w : World) : Prop := Goes P false (RW Γ i) (DW Γ i T) (WAt Γ P i (κ + 1) T) m g w
abbrev GoS (κ : Nat) (a : Sr) (m : Nat) (g : Goroutine) (w : World) : Prop := Goes P true (RS Γ) (DS Γ (Γ.n - a.r)) (SAt Γ P Fin (κ + 1) a) m g w
def WSit (i κ : Nat) (T : Th) (φ d : Nat) (S : St) (g : Goroutine) (w : World) : Prop :=
  (T.pc ≠ .quit ∧ d = deafT T ∧ ∃ m, φ = K * m + 1 ∧ GoW Γ P i κ T m g w) ∨
  (T.pc = .s1 ∧ S.s.ms = 0 ∧ d = deafT T ∧ φ = 0 ∧ ∃ g₀, g = { g₀ with status := .blocked } ∧ GoW Γ P i κ T 0 g₀ w) ∨
  (T.pc = .quit ∧ ∃ q, φ = K * q ∧ QuitsD P q d g)
def SSit (κ : Nat) (a : Sr) (φ d : Nat) (S : St) (g : Goroutine) (w : World) : Prop :=
  (d = deafS a ∧ ∃ m, φ = K * m + 1 ∧ GoS Γ P Fin κ a m g w) ∨
  (a.pc = .w3 ∧ S.ws = 0 ∧ d = deafS a ∧ φ = 0 ∧ ∃ g₀, g = { g₀ with status := .blocked } ∧ GoS Γ P Fin κ a 0 g₀ w)
end

section
variable {Γ : Geo} {P : Program} {Fin : Goroutine → World → Prop} {K : Nat} {i κ φ d : Nat} {T : Th} {a : Sr} {S S' : St} {g : Goroutine} {w w₁ w₂ : World}
theorem RW.refl (i : Nat) (w : World) : RW Γ i w w := ⟨Nat.le_refl _, fun _ _ _ _ _ => rfl, id, id, rfl⟩
theorem RW.trans (h : RW Γ i w w₁) (k : RW Γ i w₁ w₂) : RW Γ i w w₂ :=
  ⟨Nat.le_trans h.size k.size, fun b h1 h2 h3 h4 => (k.low b h1 h2 h3 h4).trans (h.low b h1 h2 h3 h4), fun x => k.live (h.live x), fun x => k.pay (h.pay x), k.cell.trans h.cell⟩
theorem RS.refl (w : World) : RS Γ w w := ⟨rfl, fun _ _ _ _ => rfl, id, id⟩
theorem RS.trans (h : RS Γ w w₁) (k : RS Γ w₁ w₂) : RS Γ w w₂ :=
  ⟨k.size.trans h.size, fun b h1 h2 h3 => (k.block b h1 h2 h3).trans (h.block b h1 h2 h3), fun x => k.live (h.live x), fun x => k.pay (h.pay x)⟩
theorem GoW.running {m : Nat} (h : GoW Γ P i κ T m g w) : g.status = .running := Goes.running (fun _ _ x => x.1) w (RW.refl i w) h
theorem GoS.running {m : Nat} (h : GoS Γ P Fin κ a m g w) : g.status = .running := Goes.running (fun _ _ x => x.1) w (RS.refl w) h
theorem WSit.status (h : WSit Γ P K i κ T φ d S g w) : g.status = .running ∨ g.status = .blocked ∨ g.status = .finished := by
  rcases h with ⟨_, _, m, _, hg⟩ | ⟨_, _, _, _, g₀, rfl, _⟩ | ⟨_, q, _, hq⟩
  · exact .inl hg.running
  · exact .inr (.inl rfl)
  · exact hq.status.elim .inl fun x => .inr (.inr x)
theorem SSit.status (h : SSit Γ P Fin K κ a φ d S g w) : g.status = .running ∨ (g.status = .blocked ∧ a.pc = .w3 ∧ S.ws = 0) := by
  rcases h with ⟨_, m, _, hg⟩ | ⟨h1, h2, _, _, g₀, rfl, _⟩
  · exact .inl hg.running
  · exact .inr ⟨rfl, h1, h2⟩
theorem SSit.rely (h : SSit Γ P Fin K κ a φ d S g w) (r : RS Γ w w₁) : SSit Γ P Fin K κ a φ d S g w₁ := by
  rcases h with ⟨h1, m, h3, hg⟩ | ⟨h1, h2, h3, h4, g₀, h5, hg⟩
  · exact .inl ⟨h1, m, h3, Goes.rely (fun _ _ _ x y => x.trans y) hg r⟩
  · exact .inr ⟨h1, h2, h3, h4, g₀, h5, Goes.rely (fun _ _ _ x y => x.trans y) hg r⟩
theorem WSit.rely (h : WSit Γ P K i κ T φ d S g w) (r : RW Γ i w w₁) : WSit Γ P K i κ T φ d S g w₁ := by
  rcases h with ⟨h1, h2, m, h3, hg⟩ | ⟨h1, h2, h3, h4, g₀, h5, hg⟩ | h
  · exact .inl ⟨h1, h2, m, h3, Goes.rely (fun _ _ _ x y => x.trans y) hg r⟩
  · exact .inr (.inl ⟨h1, h2, h3, h4, g₀, h5, Goes.rely (fun _ _ _ x y => x.trans y) hg r⟩)
  · exact .inr (.inr h)

/-- Another one steps (x to x'): a worker stands as it stood, or is let try again. -/
theorem WSit.other {x x' : Goroutine} (h : WSit Γ P K i κ T φ d S g w) (r : RW Γ i w w₁) (hw : S.s.ms = 0 → S'.s.ms = 0 ∨ (mayWake P x = true ∧ x'.status = .running)) :
    ∃ φ', φ' ≤ φ + 1 ∧ WSit Γ P K i κ T φ' d S' (woken P x x' w₁ g) w₁ := by
  rcases h with ⟨h1, h2, m, h3, hg⟩ | ⟨h1, h2, h3, h4, g₀, rfl, hg⟩ | ⟨h1, q, h3, hq⟩
  · refine ⟨φ, by omega, .inl ⟨h1, h2, m, h3, ?_⟩⟩
    have : woken P x x' w₁ g = g := by unfold woken; split; exact again_running _ (.inl hg.running); rfl
    rw [this]
    exact Goes.rely (fun _ _ _ a b => a.trans b) hg r
  · have hg' := Goes.rely (fun _ _ _ a b => a.trans b) hg r
    have hst : WAt Γ P i (κ + 1) T g₀ w₁ := hg' w₁ (RW.refl _ _)
    have hnq : T.pc ≠ .quit := by rw [h1]; simp
    by_cases hc : (mayWake P x && x'.status != .blocked && x'.status != .waiting) = true
    · refine ⟨1, by omega, .inl ⟨hnq, h3, 0, by simp, ?_⟩⟩
      have : woken P x x' w₁ { g₀ with status := .blocked } = g₀ := by unfold woken; rw [if_pos hc]; exact Go.ConcR.again_blocked hst.1 hst.2.1 _
      rw [this]
      exact hg'
    · have : woken P x x' w₁ { g₀ with status := .blocked } = { g₀ with status := .blocked } := by unfold woken; rw [if_neg hc]
      rw [this]
      rcases hw h2 with h5 | ⟨h5, h6⟩
      · exact ⟨φ, by omega, .inr (.inl ⟨h1, h5, h3, h4, g₀, rfl, hg'⟩)⟩
      · exact absurd (by simp [h5, h6]) hc
  · exact ⟨φ, by omega, .inr (.inr ⟨h1, q, h3, by rw [woken_quitsD hq]; exact hq⟩)⟩
theorem SSit.other {x x' : Goroutine} (h : SSit Γ P Fin K κ a φ d S g w) (r : RS Γ w w₁) (hw : S.ws = 0 → S'.ws = 0 ∨ (mayWake P x = true ∧ x'.status = .running)) :
    ∃ φ', φ' ≤ φ + 1 ∧ SSit Γ P Fin K κ a φ' d S' (woken P x x' w₁ g) w₁ := by
  rcases h with ⟨h2, m, h3, hg⟩ | ⟨h1, h2, h3, h4, g₀, rfl, hg⟩
  · refine ⟨φ, by omega, .inl ⟨h2, m, h3, ?_⟩⟩
    have : woken P x x' w₁ g = g := by unfold woken; split; exact again_running _ (.inl hg.running); rfl
    rw [this]
    exact Goes.rely (fun _ _ _ a b => a.trans b) hg r
  · have hg' := Goes.rely (fun _ _ _ a b => a.trans b) hg r
    have hst : SAt Γ P Fin (κ + 1) a g₀ w₁ := hg' w₁ (RS.refl _)
    by_cases hc : (mayWake P x && x'.status != .blocked && x'.status != .waiting) = true
    · refine ⟨1, by omega, .inl ⟨h3, 0, by simp, ?_⟩⟩
      have : woken P x x' w₁ { g₀ with status := .blocked } = g₀ := by unfold woken; rw [if_pos hc]; exact Go.ConcR.again_blocked hst.1 hst.2.1 _
      rw [this]
      exact hg'
    · have : woken P x x' w₁ { g₀ with status := .blocked } = { g₀ with status := .blocked } := by unfold woken; rw [if_neg hc]
      rw [this]
      rcases hw h2 with h5 | ⟨h5, h6⟩
      · exact ⟨φ, by omega, .inr ⟨h1, h5, h3, h4, g₀, rfl, hg'⟩⟩
      · exact absurd (by simp [h5, h6]) hc
end

end Go.Proofs.Ytlcjepgmmbdkmaa.Ph
