/-
  A mutex of Go's and those who contend for it, as one abstract automaton, for any number of workers: what holds throughout.
-/
import Derived.KernelRfl
namespace Go.Proofs.Ytlcjepgmmbdkmaa.Auto
set_option linter.unusedSimpArgs false
set_option linter.unusedVariables false

/-- Where a worker stands. -/
inductive Pc where
  | ld | l0 | r0 | sq | c1 | ds | r1 | c2 | r3 | t1 | s1 | t2 | r2 | a1 | le | la | ur | ud | u0 | uc | ux | us | uh | ue
  | wr | wk | d1 | d2 | d3 | d4 | quit | bad
  deriving DecidableEq, Repr

/-- The mutex's word, part by part: held, woken, starving, waiters. -/
structure Wd where
  l : Nat
  k : Nat
  s : Nat
  w : Nat
  deriving DecidableEq, Repr
/-- .. and its semaphore. -/
structure Sh where
  m : Wd
  ms : Nat
  deriving DecidableEq, Repr
structure Th where
  pc : Pc
  old : Wd := ⟨0, 0, 0, 0⟩
  aw : Bool := false
  sv : Bool := false
  it : Nat := 0
  ws : Bool := false
  deriving DecidableEq, Repr
abbrev at_ (p : Pc) : Th := { pc := p }

/-- The loop's head. -/
def hd (T : Th) : Th := if T.old.s = 0 ∧ T.old.l = 1 then { T with pc := .sq } else { T with pc := .c2 }
/-- What a step may lead to (of the mutex alone). -/
inductive Mv : Th → Sh → Th → Sh → Prop
  | ld {T s} (h : T.pc = .ld) : Mv T s (at_ .l0) s
  | l0y {T s} (h : T.pc = .l0) (c : s.m.l = 0 ∧ s.m.k = 0 ∧ s.m.s = 0 ∧ s.m.w = 0) : Mv T s (at_ .le) ⟨⟨1, 0, 0, 0⟩, s.ms⟩
  | l0n {T s} (h : T.pc = .l0) : Mv T s (at_ .r0) s
  | r0 {T s} (h : T.pc = .r0) : Mv T s (hd { pc := .r0, old := s.m }) s
  | sqn {T s} (h : T.pc = .sq) : Mv T s { T with pc := .c2 } s
  | sqc {T s} (h : T.pc = .sq) (i : T.it < 4) (c : T.aw = false ∧ T.old.k = 0 ∧ 0 < T.old.w) : Mv T s { T with pc := .c1 } s
  | sqd {T s} (h : T.pc = .sq) (i : T.it < 4) (c : ¬ (T.aw = false ∧ T.old.k = 0 ∧ 0 < T.old.w)) : Mv T s { T with pc := .ds } s
  | c1y {T s} (h : T.pc = .c1) (c : s.m = T.old) : Mv T s { T with pc := .ds, aw := true } ⟨⟨s.m.l, 1, s.m.s, s.m.w⟩, s.ms⟩
  | c1n {T s} (h : T.pc = .c1) (c : s.m ≠ T.old) : Mv T s { T with pc := .ds } s
  | ds {T s} (h : T.pc = .ds) : Mv T s { T with pc := .r1 } s
  | r1 {T s} (h : T.pc = .r1) : Mv T s (hd { T with old := s.m, it := T.it + 1 }) s
  | c2l {T s} (h : T.pc = .c2) (c : s.m = T.old) (o : T.old.l = 0 ∧ T.old.s = 0) : Mv T s (at_ .le) ⟨⟨1, if T.aw then 0 else s.m.k, 0, s.m.w⟩, s.ms⟩
  | c2q {T s} (h : T.pc = .c2) (c : s.m = T.old) (o : ¬ (T.old.l = 0 ∧ T.old.s = 0)) : Mv T s { T with pc := if T.ws then .s1 else .t1 } ⟨⟨s.m.l, if T.aw then 0 else s.m.k, if T.sv = true ∧ T.old.l = 1 then 1 else s.m.s, s.m.w + 1⟩, s.ms⟩
  | c2n {T s} (h : T.pc = .c2) (c : s.m ≠ T.old) : Mv T s { T with pc := .r3 } s
  | r3 {T s} (h : T.pc = .r3) : Mv T s (hd { T with old := s.m }) s
  | t1 {T s} (x : Bool) (h : T.pc = .t1) : Mv T s { T with pc := .s1, ws := x } s
  | s1 {T s} (h : T.pc = .s1) (c : 0 < s.ms) : Mv T s { T with pc := if T.sv then .r2 else .t2 } ⟨s.m, s.ms - 1⟩
  | t2 {T s} (x : Bool) (h : T.pc = .t2) : Mv T s { T with pc := .r2, sv := x } s
  | r2s {T s} (h : T.pc = .r2) (c : s.m.s = 1) : Mv T s { T with pc := .a1, old := s.m } s
  | r2n {T s} (h : T.pc = .r2) (c : s.m.s = 0) : Mv T s (hd { T with old := s.m, aw := true, it := 0 }) s
  | a1 {T s} (h : T.pc = .a1) : Mv T s (at_ .le) ⟨⟨1, s.m.k, if T.sv = false ∨ T.old.w = 1 then 0 else 1, s.m.w - 1⟩, s.ms⟩
  | le {T s} (h : T.pc = .le) : Mv T s (at_ .la) s
  | la {T s} (h : T.pc = .la) : Mv T s (at_ .ur) s
  | ur {T s} (h : T.pc = .ur) : Mv T s (at_ .ud) s
  | ud {T s} (h : T.pc = .ud) : Mv T s (at_ .u0) s
  | u0e {T s} (h : T.pc = .u0) (c : s.m.s = 0 ∧ (s.m.w = 0 ∨ s.m.k = 1)) : Mv T s (at_ .ue) ⟨⟨0, s.m.k, s.m.s, s.m.w⟩, s.ms⟩
  | u0h {T s} (h : T.pc = .u0) (c : s.m.s = 1) : Mv T s (at_ .uh) ⟨⟨0, s.m.k, s.m.s, s.m.w⟩, s.ms⟩
  | u0c {T s} (h : T.pc = .u0) (c : s.m.s = 0 ∧ 0 < s.m.w ∧ s.m.k = 0) : Mv T s { pc := .uc, old := ⟨0, s.m.k, s.m.s, s.m.w⟩ } ⟨⟨0, s.m.k, s.m.s, s.m.w⟩, s.ms⟩
  | ucy {T s} (h : T.pc = .uc) (c : s.m = T.old) : Mv T s (at_ .us) ⟨⟨s.m.l, 1, s.m.s, s.m.w - 1⟩, s.ms⟩
  | ucn {T s} (h : T.pc = .uc) (c : s.m ≠ T.old) : Mv T s { T with pc := .ux } s
  | uxe {T s} (h : T.pc = .ux) (c : s.m.w = 0 ∨ s.m.l = 1 ∨ s.m.k = 1 ∨ s.m.s = 1) : Mv T s (at_ .ue) s
  | uxc {T s} (h : T.pc = .ux) (c : 0 < s.m.w ∧ s.m.l = 0 ∧ s.m.k = 0 ∧ s.m.s = 0) : Mv T s { pc := .uc, old := s.m } s
  | us {T s} (h : T.pc = .us) : Mv T s (at_ .ue) ⟨s.m, s.ms + 1⟩
  | uh {T s} (h : T.pc = .uh) : Mv T s (at_ .ue) ⟨s.m, s.ms + 1⟩
  | ue {T s} (h : T.pc = .ue) : Mv T s (at_ .wr) s

/-! ### counting -/
def cnt (f : Th → Nat) (ts : List Th) : Nat := (ts.map f).sum
theorem cnt_set (f : Th → Nat) : ∀ {ts : List Th} {i : Nat} {T T' : Th}, ts[i]? = some T → cnt f (ts.set i T') + f T = cnt f ts + f T'
  | [], i, T, T', h => by simp at h
  | X :: ts, 0, T, T', h => by
    simp at h; subst h
    simp [cnt]; omega
  | X :: ts, i + 1, T, T', h => by
    have := cnt_set f (ts := ts) (i := i) (T := T) (T' := T') (by simpa using h)
    simp [cnt] at this ⊢; omega
theorem cnt_ge (f : Th → Nat) : ∀ {ts : List Th} {i : Nat} {T : Th}, ts[i]? = some T → f T ≤ cnt f ts
  | [], i, T, h => by simp at h
  | X :: ts, 0, T, h => by simp at h; subst h; simp [cnt]
  | X :: ts, i + 1, T, h => by
    have := cnt_ge f (ts := ts) (i := i) (T := T) (by simpa using h)
    simp [cnt] at this ⊢; omega
theorem cnt_pos {f : Th → Nat} : ∀ {ts : List Th}, 0 < cnt f ts → ∃ (i : Nat) (T : Th), ts[i]? = some T ∧ 0 < f T
  | [], h => by simp [cnt] at h
  | X :: ts, h => by
    by_cases hx : 0 < f X
    · exact ⟨0, X, rfl, hx⟩
    · have : 0 < cnt f ts := by simp [cnt] at h ⊢; omega
      obtain ⟨i, T, hi, hf⟩ := cnt_pos this
      exact ⟨i + 1, T, by simpa using hi, hf⟩
theorem cnt_push (f : Th → Nat) (ts : List Th) (T : Th) : cnt f (ts ++ [T]) = cnt f ts + f T := by simp [cnt]

/-- It holds the lock. -/
def holdN (T : Th) : Nat := match T.pc with | .le | .la | .ur | .ud | .u0 => 1 | _ => 0
/-- It has queued. -/
def qN (T : Th) : Nat := match T.pc with | .t1 | .s1 | .t2 | .r2 | .a1 => 1 | _ => 0
/-- It has taken the semaphore. -/
def trN (T : Th) : Nat := match T.pc with | .t2 | .r2 => 1 | _ => 0
def a1N (T : Th) : Nat := match T.pc with | .a1 => 1 | _ => 0
def usN (T : Th) : Nat := match T.pc with | .us => 1 | _ => 0
def uhN (T : Th) : Nat := match T.pc with | .uh => 1 | _ => 0
/-- It is to look at the word once more. -/
def ucN (T : Th) : Nat := match T.pc with | .uc | .ux => 1 | _ => 0
def Pc.loop (p : Pc) : Bool := match p with | .sq | .c1 | .ds | .r1 | .c2 | .r3 => true | _ => false
/-- It was woken, and is in the loop. -/
def awN (T : Th) : Nat := if T.pc.loop = true ∧ T.aw = true then 1 else 0

/-- What holds of one worker. -/
structure Loc (T : Th) : Prop where
  ok : T.pc ≠ .bad
  bit : T.old.l ≤ 1 ∧ T.old.k ≤ 1 ∧ T.old.s ≤ 1
  aw : T.pc.loop = true → T.aw = true → T.old.k = 1 ∨ T.pc = .ds ∨ T.pc = .r1
  awS : T.pc.loop = true → T.aw = true → T.old.s = 0
  sv : T.pc.loop = true → T.sv = true → T.aw = true
  sq : T.pc = .sq → T.old.s = 0 ∧ T.old.l = 1
  c1 : T.pc = .c1 → T.aw = false ∧ T.old.k = 0 ∧ 0 < T.old.w ∧ T.old.s = 0 ∧ T.old.l = 1
  ds : (T.pc = .ds ∨ T.pc = .r1) → T.old.s = 0
  uc : T.pc = .uc → T.old.l = 0 ∧ T.old.k = 0 ∧ T.old.s = 0 ∧ 0 < T.old.w
  it : T.it ≤ 4
  it' : (T.pc = .c1 ∨ T.pc = .ds ∨ T.pc = .r1) → T.it ≤ 3

theorem hd_old (T : Th) : (hd T).old = T.old ∧ (hd T).aw = T.aw ∧ (hd T).sv = T.sv ∧ (hd T).it = T.it ∧ (hd T).ws = T.ws := by unfold hd; split <;> exact ⟨rfl, rfl, rfl, rfl, rfl⟩
theorem hd_pc (T : Th) : ((hd T).pc = .sq ∧ T.old.s = 0 ∧ T.old.l = 1) ∨ ((hd T).pc = .c2 ∧ ¬ (T.old.s = 0 ∧ T.old.l = 1)) := by
  unfold hd; split
  · rename_i h; exact .inl ⟨rfl, h⟩
  · rename_i h; exact .inr ⟨rfl, h⟩
theorem hd_loc {T : Th} (hb : T.old.l ≤ 1 ∧ T.old.k ≤ 1 ∧ T.old.s ≤ 1) (ha : T.aw = true → T.old.k = 1 ∧ T.old.s = 0) (hs : T.sv = true → T.aw = true) (hit : T.it ≤ 4) : Loc (hd T) := by
  unfold hd
  split
  · rename_i hq
    constructor <;> simp_all [Pc.loop]
  · rename_i hq
    constructor <;> simp_all [Pc.loop]
theorem hd_cnt (T : Th) : holdN (hd T) = 0 ∧ qN (hd T) = 0 ∧ trN (hd T) = 0 ∧ a1N (hd T) = 0 ∧ usN (hd T) = 0 ∧ uhN (hd T) = 0 ∧ ucN (hd T) = 0 ∧ awN (hd T) = if T.aw = true then 1 else 0 := by
  have h2 := (hd_old T).2.1
  rcases hd_pc T with ⟨hp, _⟩ | ⟨hp, _⟩ <;> simp [holdN, qN, trN, a1N, usN, uhN, ucN, awN, hp, h2, Pc.loop]
theorem loc_at {p : Pc} (h : p ≠ .bad) (h2 : p.loop = false) (h3 : p ≠ .uc) : Loc (at_ p) := by
  constructor <;> cases p <;> simp_all [Pc.loop]

/-- What the counters say of one that stands in the row. -/
structure Cs (ts : List Th) (T T' : Th) (ts' : List Th) : Prop where
  h : cnt holdN ts' + holdN T = cnt holdN ts + holdN T'
  q : cnt qN ts' + qN T = cnt qN ts + qN T'
  tr : cnt trN ts' + trN T = cnt trN ts + trN T'
  a1 : cnt a1N ts' + a1N T = cnt a1N ts + a1N T'
  us : cnt usN ts' + usN T = cnt usN ts + usN T'
  uh : cnt uhN ts' + uhN T = cnt uhN ts + uhN T'
  uc : cnt ucN ts' + ucN T = cnt ucN ts + ucN T'
  aw : cnt awN ts' + awN T = cnt awN ts + awN T'
  gh : holdN T ≤ cnt holdN ts
  gq : qN T ≤ cnt qN ts
  gtr : trN T ≤ cnt trN ts
  ga1 : a1N T ≤ cnt a1N ts
  gus : usN T ≤ cnt usN ts
  guh : uhN T ≤ cnt uhN ts
  guc : ucN T ≤ cnt ucN ts
  gaw : awN T ≤ cnt awN ts
theorem cs_of {ts : List Th} {i : Nat} {T : Th} (hi : ts[i]? = some T) (T' : Th) : Cs ts T T' (ts.set i T') :=
  ⟨cnt_set _ hi, cnt_set _ hi, cnt_set _ hi, cnt_set _ hi, cnt_set _ hi, cnt_set _ hi, cnt_set _ hi, cnt_set _ hi, cnt_ge _ hi, cnt_ge _ hi, cnt_ge _ hi, cnt_ge _ hi, cnt_ge _ hi, cnt_ge _ hi, cnt_ge _ hi, cnt_ge _ hi⟩
/-- All but the locals. -/
structure Glob (ts : List Th) (s : Sh) : Prop where
  bit : s.m.l ≤ 1 ∧ s.m.k ≤ 1 ∧ s.m.s ≤ 1
  hold : s.m.l = cnt holdN ts
  nrm : s.m.s = 0 → s.m.k = cnt usN ts + s.ms + cnt trN ts + cnt awN ts ∧ cnt uhN ts = 0 ∧ cnt a1N ts = 0 ∧ s.m.w + (cnt usN ts + s.ms + cnt trN ts) = cnt qN ts
  stv : s.m.s = 1 → s.m.k = 0 ∧ cnt usN ts = 0 ∧ cnt awN ts = 0 ∧ s.m.l + (cnt uhN ts + s.ms + cnt trN ts + cnt a1N ts) = 1 ∧ s.m.w = cnt qN ts
  see : s.m.l = 0 → s.m.s = 0 → s.m.k = 0 → 0 < s.m.w → 0 < cnt ucN ts
structure Inv (ts : List Th) (s : Sh) : Prop where
  g : Glob ts s
  loc : ∀ T ∈ ts, Loc T
theorem loc_set {ts : List Th} {i : Nat} {T' : Th} (l : ∀ T ∈ ts, Loc T) (h : Loc T') : ∀ T ∈ ts.set i T', Loc T := fun T hT => by
  rcases List.mem_or_eq_of_mem_set hT with h1 | h1
  · exact l T h1
  · rw [h1]; exact h

set_option maxHeartbeats 4000000 in
/-- The counters and the word. -/
theorem glob_step {ts ts' : List Th} {s s' : Sh} {T T' : Th} (g : Glob ts s) (l : Loc T) (c : Cs ts T T' ts') (hm : Mv T s T' s') : Glob ts' s' := by
  obtain ⟨b1, b2, b3⟩ := g.bit
  have hh := g.hold
  have hn := g.nrm
  have hst := g.stv
  have hse := g.see
  obtain ⟨c1, c2, c3, c4, c5, c6, c7, c8, g1, g2, g3, g4, g5, g6, g7, g8⟩ := c
  obtain ⟨lb1, lb2, lb3⟩ := l.bit
  have la := l.aw
  have lS := l.awS
  have ls := l.sv
  have lc := l.c1
  have lu := l.uc
  clear g l
  obtain ⟨⟨ml, mk, msv, mw⟩, ms⟩ := s
  obtain ⟨pc, ⟨ol, ok, os, ow⟩, aw, sv, it, ws⟩ := T
  generalize cnt holdN ts = H at *
  generalize hH : cnt holdN ts' = H' at *
  generalize cnt qN ts = Qc at *
  generalize hQc : cnt qN ts' = Qc' at *
  generalize cnt trN ts = Tr at *
  generalize hTr : cnt trN ts' = Tr' at *
  generalize cnt a1N ts = A1 at *
  generalize hA1 : cnt a1N ts' = A1' at *
  generalize cnt usN ts = Us at *
  generalize hUs : cnt usN ts' = Us' at *
  generalize cnt uhN ts = Uh at *
  generalize hUh : cnt uhN ts' = Uh' at *
  generalize cnt ucN ts = Uc at *
  generalize hUc : cnt ucN ts' = Uc' at *
  generalize cnt awN ts = Aw at *
  generalize hAw : cnt awN ts' = Aw' at *
  simp only at hh hn hst hse b1 b2 b3 lb1 lb2 lb3 la lS ls lc lu
  cases hm
  case ld h =>
    subst h
    (try simp only at c)
    simp [holdN, qN, trN, a1N, usN, uhN, ucN, awN, Pc.loop, at_] at c1 c2 c3 c4 c5 c6 c7 c8 g1 g2 g3 g4 g5 g6 g7 g8 <;> (try simp [Pc.loop] at la lS ls lc lu) <;> (try simp only [true_and, false_and, not_false_eq_true] at c) <;> refine ⟨⟨?_, ?_, ?_⟩, ?_, ?_, ?_, ?_⟩ <;> simp only [hH, hQc, hTr, hA1, hUs, hUh, hUc, hAw, reduceIte, Bool.false_eq_true, true_and, false_and, true_or, false_or, Bool.true_eq_false] <;> (try split) <;> omega
  case l0y h c =>
    subst h
    (try simp only at c)
    simp [holdN, qN, trN, a1N, usN, uhN, ucN, awN, Pc.loop, at_] at c1 c2 c3 c4 c5 c6 c7 c8 g1 g2 g3 g4 g5 g6 g7 g8 <;> (try simp [Pc.loop] at la lS ls lc lu) <;> (try simp only [true_and, false_and, not_false_eq_true] at c) <;> refine ⟨⟨?_, ?_, ?_⟩, ?_, ?_, ?_, ?_⟩ <;> simp only [hH, hQc, hTr, hA1, hUs, hUh, hUc, hAw, reduceIte, Bool.false_eq_true, true_and, false_and, true_or, false_or, Bool.true_eq_false] <;> (try split) <;> omega
  case l0n h =>
    subst h
    (try simp only at c)
    simp [holdN, qN, trN, a1N, usN, uhN, ucN, awN, Pc.loop, at_] at c1 c2 c3 c4 c5 c6 c7 c8 g1 g2 g3 g4 g5 g6 g7 g8 <;> (try simp [Pc.loop] at la lS ls lc lu) <;> (try simp only [true_and, false_and, not_false_eq_true] at c) <;> refine ⟨⟨?_, ?_, ?_⟩, ?_, ?_, ?_, ?_⟩ <;> simp only [hH, hQc, hTr, hA1, hUs, hUh, hUc, hAw, reduceIte, Bool.false_eq_true, true_and, false_and, true_or, false_or, Bool.true_eq_false] <;> (try split) <;> omega
  case r0 h =>
    subst h
    (try simp only at c)
    simp only [(hd_cnt _).1, (hd_cnt _).2.1, (hd_cnt _).2.2.1, (hd_cnt _).2.2.2.1, (hd_cnt _).2.2.2.2.1, (hd_cnt _).2.2.2.2.2.1, (hd_cnt _).2.2.2.2.2.2.1, (hd_cnt _).2.2.2.2.2.2.2] at c1 c2 c3 c4 c5 c6 c7 c8
    simp [holdN, qN, trN, a1N, usN, uhN, ucN, awN, Pc.loop, at_] at c1 c2 c3 c4 c5 c6 c7 c8 g1 g2 g3 g4 g5 g6 g7 g8 <;> (try simp [Pc.loop] at la lS ls lc lu) <;> (try simp only [true_and, false_and, not_false_eq_true] at c) <;> refine ⟨⟨?_, ?_, ?_⟩, ?_, ?_, ?_, ?_⟩ <;> simp only [hH, hQc, hTr, hA1, hUs, hUh, hUc, hAw, reduceIte, Bool.false_eq_true, true_and, false_and, true_or, false_or, Bool.true_eq_false] <;> (try split) <;> omega
  case sqn h =>
    subst h
    (try simp only at c)
    cases aw
    · simp [holdN, qN, trN, a1N, usN, uhN, ucN, awN, Pc.loop, at_] at c1 c2 c3 c4 c5 c6 c7 c8 g1 g2 g3 g4 g5 g6 g7 g8 <;> (try simp [Pc.loop] at la lS ls lc lu) <;> (try simp only [true_and, false_and, not_false_eq_true] at c) <;> refine ⟨⟨?_, ?_, ?_⟩, ?_, ?_, ?_, ?_⟩ <;> simp only [hH, hQc, hTr, hA1, hUs, hUh, hUc, hAw, reduceIte, Bool.false_eq_true, true_and, false_and, true_or, false_or, Bool.true_eq_false] <;> (try split) <;> omega
    · simp [holdN, qN, trN, a1N, usN, uhN, ucN, awN, Pc.loop, at_] at c1 c2 c3 c4 c5 c6 c7 c8 g1 g2 g3 g4 g5 g6 g7 g8 <;> (try simp [Pc.loop] at la lS ls lc lu) <;> (try simp only [true_and, false_and, not_false_eq_true] at c) <;> refine ⟨⟨?_, ?_, ?_⟩, ?_, ?_, ?_, ?_⟩ <;> simp only [hH, hQc, hTr, hA1, hUs, hUh, hUc, hAw, reduceIte, Bool.false_eq_true, true_and, false_and, true_or, false_or, Bool.true_eq_false] <;> (try split) <;> omega
  case sqc h i c =>
    subst h
    (try simp only at c)
    cases aw
    · simp [holdN, qN, trN, a1N, usN, uhN, ucN, awN, Pc.loop, at_] at c1 c2 c3 c4 c5 c6 c7 c8 g1 g2 g3 g4 g5 g6 g7 g8 <;> (try simp [Pc.loop] at la lS ls lc lu) <;> (try simp only [true_and, false_and, not_false_eq_true] at c) <;> refine ⟨⟨?_, ?_, ?_⟩, ?_, ?_, ?_, ?_⟩ <;> simp only [hH, hQc, hTr, hA1, hUs, hUh, hUc, hAw, reduceIte, Bool.false_eq_true, true_and, false_and, true_or, false_or, Bool.true_eq_false] <;> (try split) <;> omega
    · simp [holdN, qN, trN, a1N, usN, uhN, ucN, awN, Pc.loop, at_] at c1 c2 c3 c4 c5 c6 c7 c8 g1 g2 g3 g4 g5 g6 g7 g8 <;> (try simp [Pc.loop] at la lS ls lc lu) <;> (try simp only [true_and, false_and, not_false_eq_true] at c) <;> refine ⟨⟨?_, ?_, ?_⟩, ?_, ?_, ?_, ?_⟩ <;> simp only [hH, hQc, hTr, hA1, hUs, hUh, hUc, hAw, reduceIte, Bool.false_eq_true, true_and, false_and, true_or, false_or, Bool.true_eq_false] <;> (try split) <;> omega
  case sqd h i c =>
    subst h
    (try simp only at c)
    cases aw
    · simp [holdN, qN, trN, a1N, usN, uhN, ucN, awN, Pc.loop, at_] at c1 c2 c3 c4 c5 c6 c7 c8 g1 g2 g3 g4 g5 g6 g7 g8 <;> (try simp [Pc.loop] at la lS ls lc lu) <;> (try simp only [true_and, false_and, not_false_eq_true] at c) <;> refine ⟨⟨?_, ?_, ?_⟩, ?_, ?_, ?_, ?_⟩ <;> simp only [hH, hQc, hTr, hA1, hUs, hUh, hUc, hAw, reduceIte, Bool.false_eq_true, true_and, false_and, true_or, false_or, Bool.true_eq_false] <;> (try split) <;> omega
    · simp [holdN, qN, trN, a1N, usN, uhN, ucN, awN, Pc.loop, at_] at c1 c2 c3 c4 c5 c6 c7 c8 g1 g2 g3 g4 g5 g6 g7 g8 <;> (try simp [Pc.loop] at la lS ls lc lu) <;> (try simp only [true_and, false_and, not_false_eq_true] at c) <;> refine ⟨⟨?_, ?_, ?_⟩, ?_, ?_, ?_, ?_⟩ <;> simp only [hH, hQc, hTr, hA1, hUs, hUh, hUc, hAw, reduceIte, Bool.false_eq_true, true_and, false_and, true_or, false_or, Bool.true_eq_false] <;> (try split) <;> omega
  case c1y h c =>
    subst h
    (try simp only at c)
    cases aw
    · simp only [Wd.mk.injEq] at c
      obtain ⟨rfl, rfl, rfl, rfl⟩ := c
      simp [holdN, qN, trN, a1N, usN, uhN, ucN, awN, Pc.loop, at_] at c1 c2 c3 c4 c5 c6 c7 c8 g1 g2 g3 g4 g5 g6 g7 g8 <;> (try simp [Pc.loop] at la lS ls lc lu) <;> (try simp only [true_and, false_and, not_false_eq_true] at c) <;> refine ⟨⟨?_, ?_, ?_⟩, ?_, ?_, ?_, ?_⟩ <;> simp only [hH, hQc, hTr, hA1, hUs, hUh, hUc, hAw, reduceIte, Bool.false_eq_true, true_and, false_and, true_or, false_or, Bool.true_eq_false] <;> (try split) <;> omega
    · simp only [Wd.mk.injEq] at c
      obtain ⟨rfl, rfl, rfl, rfl⟩ := c
      simp [holdN, qN, trN, a1N, usN, uhN, ucN, awN, Pc.loop, at_] at c1 c2 c3 c4 c5 c6 c7 c8 g1 g2 g3 g4 g5 g6 g7 g8 <;> (try simp [Pc.loop] at la lS ls lc lu) <;> (try simp only [true_and, false_and, not_false_eq_true] at c) <;> refine ⟨⟨?_, ?_, ?_⟩, ?_, ?_, ?_, ?_⟩ <;> simp only [hH, hQc, hTr, hA1, hUs, hUh, hUc, hAw, reduceIte, Bool.false_eq_true, true_and, false_and, true_or, false_or, Bool.true_eq_false] <;> (try split) <;> omega
  case c1n h c =>
    subst h
    (try simp only at c)
    cases aw
    · simp [holdN, qN, trN, a1N, usN, uhN, ucN, awN, Pc.loop, at_] at c1 c2 c3 c4 c5 c6 c7 c8 g1 g2 g3 g4 g5 g6 g7 g8 <;> (try simp [Pc.loop] at la lS ls lc lu) <;> (try simp only [true_and, false_and, not_false_eq_true] at c) <;> refine ⟨⟨?_, ?_, ?_⟩, ?_, ?_, ?_, ?_⟩ <;> simp only [hH, hQc, hTr, hA1, hUs, hUh, hUc, hAw, reduceIte, Bool.false_eq_true, true_and, false_and, true_or, false_or, Bool.true_eq_false] <;> (try split) <;> omega
    · simp [holdN, qN, trN, a1N, usN, uhN, ucN, awN, Pc.loop, at_] at c1 c2 c3 c4 c5 c6 c7 c8 g1 g2 g3 g4 g5 g6 g7 g8 <;> (try simp [Pc.loop] at la lS ls lc lu) <;> (try simp only [true_and, false_and, not_false_eq_true] at c) <;> refine ⟨⟨?_, ?_, ?_⟩, ?_, ?_, ?_, ?_⟩ <;> simp only [hH, hQc, hTr, hA1, hUs, hUh, hUc, hAw, reduceIte, Bool.false_eq_true, true_and, false_and, true_or, false_or, Bool.true_eq_false] <;> (try split) <;> omega
  case ds h =>
    subst h
    (try simp only at c)
    cases aw
    · simp [holdN, qN, trN, a1N, usN, uhN, ucN, awN, Pc.loop, at_] at c1 c2 c3 c4 c5 c6 c7 c8 g1 g2 g3 g4 g5 g6 g7 g8 <;> (try simp [Pc.loop] at la lS ls lc lu) <;> (try simp only [true_and, false_and, not_false_eq_true] at c) <;> refine ⟨⟨?_, ?_, ?_⟩, ?_, ?_, ?_, ?_⟩ <;> simp only [hH, hQc, hTr, hA1, hUs, hUh, hUc, hAw, reduceIte, Bool.false_eq_true, true_and, false_and, true_or, false_or, Bool.true_eq_false] <;> (try split) <;> omega
    · simp [holdN, qN, trN, a1N, usN, uhN, ucN, awN, Pc.loop, at_] at c1 c2 c3 c4 c5 c6 c7 c8 g1 g2 g3 g4 g5 g6 g7 g8 <;> (try simp [Pc.loop] at la lS ls lc lu) <;> (try simp only [true_and, false_and, not_false_eq_true] at c) <;> refine ⟨⟨?_, ?_, ?_⟩, ?_, ?_, ?_, ?_⟩ <;> simp only [hH, hQc, hTr, hA1, hUs, hUh, hUc, hAw, reduceIte, Bool.false_eq_true, true_and, false_and, true_or, false_or, Bool.true_eq_false] <;> (try split) <;> omega
  case r1 h =>
    subst h
    (try simp only at c)
    cases aw
    · simp only [(hd_cnt _).1, (hd_cnt _).2.1, (hd_cnt _).2.2.1, (hd_cnt _).2.2.2.1, (hd_cnt _).2.2.2.2.1, (hd_cnt _).2.2.2.2.2.1, (hd_cnt _).2.2.2.2.2.2.1, (hd_cnt _).2.2.2.2.2.2.2] at c1 c2 c3 c4 c5 c6 c7 c8
      simp [holdN, qN, trN, a1N, usN, uhN, ucN, awN, Pc.loop, at_] at c1 c2 c3 c4 c5 c6 c7 c8 g1 g2 g3 g4 g5 g6 g7 g8 <;> (try simp [Pc.loop] at la lS ls lc lu) <;> (try simp only [true_and, false_and, not_false_eq_true] at c) <;> refine ⟨⟨?_, ?_, ?_⟩, ?_, ?_, ?_, ?_⟩ <;> simp only [hH, hQc, hTr, hA1, hUs, hUh, hUc, hAw, reduceIte, Bool.false_eq_true, true_and, false_and, true_or, false_or, Bool.true_eq_false] <;> (try split) <;> omega
    · simp only [(hd_cnt _).1, (hd_cnt _).2.1, (hd_cnt _).2.2.1, (hd_cnt _).2.2.2.1, (hd_cnt _).2.2.2.2.1, (hd_cnt _).2.2.2.2.2.1, (hd_cnt _).2.2.2.2.2.2.1, (hd_cnt _).2.2.2.2.2.2.2] at c1 c2 c3 c4 c5 c6 c7 c8
      simp [holdN, qN, trN, a1N, usN, uhN, ucN, awN, Pc.loop, at_] at c1 c2 c3 c4 c5 c6 c7 c8 g1 g2 g3 g4 g5 g6 g7 g8 <;> (try simp [Pc.loop] at la lS ls lc lu) <;> (try simp only [true_and, false_and, not_false_eq_true] at c) <;> refine ⟨⟨?_, ?_, ?_⟩, ?_, ?_, ?_, ?_⟩ <;> simp only [hH, hQc, hTr, hA1, hUs, hUh, hUc, hAw, reduceIte, Bool.false_eq_true, true_and, false_and, true_or, false_or, Bool.true_eq_false] <;> (try split) <;> omega
  case c2l h c o =>
    subst h
    (try simp only at c)
    cases aw
    · simp only [Wd.mk.injEq] at c
      obtain ⟨rfl, rfl, rfl, rfl⟩ := c
      (try simp at o)
      simp [holdN, qN, trN, a1N, usN, uhN, ucN, awN, Pc.loop, at_] at c1 c2 c3 c4 c5 c6 c7 c8 g1 g2 g3 g4 g5 g6 g7 g8 <;> (try simp [Pc.loop] at la lS ls lc lu) <;> (try simp only [true_and, false_and, not_false_eq_true] at c) <;> refine ⟨⟨?_, ?_, ?_⟩, ?_, ?_, ?_, ?_⟩ <;> simp only [hH, hQc, hTr, hA1, hUs, hUh, hUc, hAw, reduceIte, Bool.false_eq_true, true_and, false_and, true_or, false_or, Bool.true_eq_false] <;> (try split) <;> omega
    · simp only [Wd.mk.injEq] at c
      obtain ⟨rfl, rfl, rfl, rfl⟩ := c
      (try simp at o)
      simp [holdN, qN, trN, a1N, usN, uhN, ucN, awN, Pc.loop, at_] at c1 c2 c3 c4 c5 c6 c7 c8 g1 g2 g3 g4 g5 g6 g7 g8 <;> (try simp [Pc.loop] at la lS ls lc lu) <;> (try simp only [true_and, false_and, not_false_eq_true] at c) <;> refine ⟨⟨?_, ?_, ?_⟩, ?_, ?_, ?_, ?_⟩ <;> simp only [hH, hQc, hTr, hA1, hUs, hUh, hUc, hAw, reduceIte, Bool.false_eq_true, true_and, false_and, true_or, false_or, Bool.true_eq_false] <;> (try split) <;> omega
  case c2q h c o =>
    subst h
    (try simp only at c)
    cases aw
    · cases sv
      · cases ws
        · simp only [Wd.mk.injEq] at c
          obtain ⟨rfl, rfl, rfl, rfl⟩ := c
          (try simp at o)
          simp [holdN, qN, trN, a1N, usN, uhN, ucN, awN, Pc.loop, at_] at c1 c2 c3 c4 c5 c6 c7 c8 g1 g2 g3 g4 g5 g6 g7 g8 <;> (try simp [Pc.loop] at la lS ls lc lu) <;> (try simp only [true_and, false_and, not_false_eq_true] at c) <;> refine ⟨⟨?_, ?_, ?_⟩, ?_, ?_, ?_, ?_⟩ <;> simp only [hH, hQc, hTr, hA1, hUs, hUh, hUc, hAw, reduceIte, Bool.false_eq_true, true_and, false_and, true_or, false_or, Bool.true_eq_false] <;> (try split) <;> omega
        · simp only [Wd.mk.injEq] at c
          obtain ⟨rfl, rfl, rfl, rfl⟩ := c
          (try simp at o)
          simp [holdN, qN, trN, a1N, usN, uhN, ucN, awN, Pc.loop, at_] at c1 c2 c3 c4 c5 c6 c7 c8 g1 g2 g3 g4 g5 g6 g7 g8 <;> (try simp [Pc.loop] at la lS ls lc lu) <;> (try simp only [true_and, false_and, not_false_eq_true] at c) <;> refine ⟨⟨?_, ?_, ?_⟩, ?_, ?_, ?_, ?_⟩ <;> simp only [hH, hQc, hTr, hA1, hUs, hUh, hUc, hAw, reduceIte, Bool.false_eq_true, true_and, false_and, true_or, false_or, Bool.true_eq_false] <;> (try split) <;> omega
      · cases ws
        · simp only [Wd.mk.injEq] at c
          obtain ⟨rfl, rfl, rfl, rfl⟩ := c
          (try simp at o)
          simp [holdN, qN, trN, a1N, usN, uhN, ucN, awN, Pc.loop, at_] at c1 c2 c3 c4 c5 c6 c7 c8 g1 g2 g3 g4 g5 g6 g7 g8 <;> (try simp [Pc.loop] at la lS ls lc lu) <;> (try simp only [true_and, false_and, not_false_eq_true] at c) <;> refine ⟨⟨?_, ?_, ?_⟩, ?_, ?_, ?_, ?_⟩ <;> simp only [hH, hQc, hTr, hA1, hUs, hUh, hUc, hAw, reduceIte, Bool.false_eq_true, true_and, false_and, true_or, false_or, Bool.true_eq_false] <;> (try split) <;> omega
        · simp only [Wd.mk.injEq] at c
          obtain ⟨rfl, rfl, rfl, rfl⟩ := c
          (try simp at o)
          simp [holdN, qN, trN, a1N, usN, uhN, ucN, awN, Pc.loop, at_] at c1 c2 c3 c4 c5 c6 c7 c8 g1 g2 g3 g4 g5 g6 g7 g8 <;> (try simp [Pc.loop] at la lS ls lc lu) <;> (try simp only [true_and, false_and, not_false_eq_true] at c) <;> refine ⟨⟨?_, ?_, ?_⟩, ?_, ?_, ?_, ?_⟩ <;> simp only [hH, hQc, hTr, hA1, hUs, hUh, hUc, hAw, reduceIte, Bool.false_eq_true, true_and, false_and, true_or, false_or, Bool.true_eq_false] <;> (try split) <;> omega
    · cases sv
      · cases ws
        · simp only [Wd.mk.injEq] at c
          obtain ⟨rfl, rfl, rfl, rfl⟩ := c
          (try simp at o)
          simp [holdN, qN, trN, a1N, usN, uhN, ucN, awN, Pc.loop, at_] at c1 c2 c3 c4 c5 c6 c7 c8 g1 g2 g3 g4 g5 g6 g7 g8 <;> (try simp [Pc.loop] at la lS ls lc lu) <;> (try simp only [true_and, false_and, not_false_eq_true] at c) <;> refine ⟨⟨?_, ?_, ?_⟩, ?_, ?_, ?_, ?_⟩ <;> simp only [hH, hQc, hTr, hA1, hUs, hUh, hUc, hAw, reduceIte, Bool.false_eq_true, true_and, false_and, true_or, false_or, Bool.true_eq_false] <;> (try split) <;> omega
        · simp only [Wd.mk.injEq] at c
          obtain ⟨rfl, rfl, rfl, rfl⟩ := c
          (try simp at o)
          simp [holdN, qN, trN, a1N, usN, uhN, ucN, awN, Pc.loop, at_] at c1 c2 c3 c4 c5 c6 c7 c8 g1 g2 g3 g4 g5 g6 g7 g8 <;> (try simp [Pc.loop] at la lS ls lc lu) <;> (try simp only [true_and, false_and, not_false_eq_true] at c) <;> refine ⟨⟨?_, ?_, ?_⟩, ?_, ?_, ?_, ?_⟩ <;> simp only [hH, hQc, hTr, hA1, hUs, hUh, hUc, hAw, reduceIte, Bool.false_eq_true, true_and, false_and, true_or, false_or, Bool.true_eq_false] <;> (try split) <;> omega
      · cases ws
        · simp only [Wd.mk.injEq] at c
          obtain ⟨rfl, rfl, rfl, rfl⟩ := c
          (try simp at o)
          simp [holdN, qN, trN, a1N, usN, uhN, ucN, awN, Pc.loop, at_] at c1 c2 c3 c4 c5 c6 c7 c8 g1 g2 g3 g4 g5 g6 g7 g8 <;> (try simp [Pc.loop] at la lS ls lc lu) <;> (try simp only [true_and, false_and, not_false_eq_true] at c) <;> refine ⟨⟨?_, ?_, ?_⟩, ?_, ?_, ?_, ?_⟩ <;> simp only [hH, hQc, hTr, hA1, hUs, hUh, hUc, hAw, reduceIte, Bool.false_eq_true, true_and, false_and, true_or, false_or, Bool.true_eq_false] <;> (try split) <;> omega
        · simp only [Wd.mk.injEq] at c
          obtain ⟨rfl, rfl, rfl, rfl⟩ := c
          (try simp at o)
          simp [holdN, qN, trN, a1N, usN, uhN, ucN, awN, Pc.loop, at_] at c1 c2 c3 c4 c5 c6 c7 c8 g1 g2 g3 g4 g5 g6 g7 g8 <;> (try simp [Pc.loop] at la lS ls lc lu) <;> (try simp only [true_and, false_and, not_false_eq_true] at c) <;> refine ⟨⟨?_, ?_, ?_⟩, ?_, ?_, ?_, ?_⟩ <;> simp only [hH, hQc, hTr, hA1, hUs, hUh, hUc, hAw, reduceIte, Bool.false_eq_true, true_and, false_and, true_or, false_or, Bool.true_eq_false] <;> (try split) <;> omega
  case c2n h c =>
    subst h
    (try simp only at c)
    cases aw
    · simp [holdN, qN, trN, a1N, usN, uhN, ucN, awN, Pc.loop, at_] at c1 c2 c3 c4 c5 c6 c7 c8 g1 g2 g3 g4 g5 g6 g7 g8 <;> (try simp [Pc.loop] at la lS ls lc lu) <;> (try simp only [true_and, false_and, not_false_eq_true] at c) <;> refine ⟨⟨?_, ?_, ?_⟩, ?_, ?_, ?_, ?_⟩ <;> simp only [hH, hQc, hTr, hA1, hUs, hUh, hUc, hAw, reduceIte, Bool.false_eq_true, true_and, false_and, true_or, false_or, Bool.true_eq_false] <;> (try split) <;> omega
    · simp [holdN, qN, trN, a1N, usN, uhN, ucN, awN, Pc.loop, at_] at c1 c2 c3 c4 c5 c6 c7 c8 g1 g2 g3 g4 g5 g6 g7 g8 <;> (try simp [Pc.loop] at la lS ls lc lu) <;> (try simp only [true_and, false_and, not_false_eq_true] at c) <;> refine ⟨⟨?_, ?_, ?_⟩, ?_, ?_, ?_, ?_⟩ <;> simp only [hH, hQc, hTr, hA1, hUs, hUh, hUc, hAw, reduceIte, Bool.false_eq_true, true_and, false_and, true_or, false_or, Bool.true_eq_false] <;> (try split) <;> omega
  case r3 h =>
    subst h
    (try simp only at c)
    cases aw
    · simp only [(hd_cnt _).1, (hd_cnt _).2.1, (hd_cnt _).2.2.1, (hd_cnt _).2.2.2.1, (hd_cnt _).2.2.2.2.1, (hd_cnt _).2.2.2.2.2.1, (hd_cnt _).2.2.2.2.2.2.1, (hd_cnt _).2.2.2.2.2.2.2] at c1 c2 c3 c4 c5 c6 c7 c8
      simp [holdN, qN, trN, a1N, usN, uhN, ucN, awN, Pc.loop, at_] at c1 c2 c3 c4 c5 c6 c7 c8 g1 g2 g3 g4 g5 g6 g7 g8 <;> (try simp [Pc.loop] at la lS ls lc lu) <;> (try simp only [true_and, false_and, not_false_eq_true] at c) <;> refine ⟨⟨?_, ?_, ?_⟩, ?_, ?_, ?_, ?_⟩ <;> simp only [hH, hQc, hTr, hA1, hUs, hUh, hUc, hAw, reduceIte, Bool.false_eq_true, true_and, false_and, true_or, false_or, Bool.true_eq_false] <;> (try split) <;> omega
    · simp only [(hd_cnt _).1, (hd_cnt _).2.1, (hd_cnt _).2.2.1, (hd_cnt _).2.2.2.1, (hd_cnt _).2.2.2.2.1, (hd_cnt _).2.2.2.2.2.1, (hd_cnt _).2.2.2.2.2.2.1, (hd_cnt _).2.2.2.2.2.2.2] at c1 c2 c3 c4 c5 c6 c7 c8
      simp [holdN, qN, trN, a1N, usN, uhN, ucN, awN, Pc.loop, at_] at c1 c2 c3 c4 c5 c6 c7 c8 g1 g2 g3 g4 g5 g6 g7 g8 <;> (try simp [Pc.loop] at la lS ls lc lu) <;> (try simp only [true_and, false_and, not_false_eq_true] at c) <;> refine ⟨⟨?_, ?_, ?_⟩, ?_, ?_, ?_, ?_⟩ <;> simp only [hH, hQc, hTr, hA1, hUs, hUh, hUc, hAw, reduceIte, Bool.false_eq_true, true_and, false_and, true_or, false_or, Bool.true_eq_false] <;> (try split) <;> omega
  case t1 x h =>
    subst h
    (try simp only at c)
    simp [holdN, qN, trN, a1N, usN, uhN, ucN, awN, Pc.loop, at_] at c1 c2 c3 c4 c5 c6 c7 c8 g1 g2 g3 g4 g5 g6 g7 g8 <;> (try simp [Pc.loop] at la lS ls lc lu) <;> (try simp only [true_and, false_and, not_false_eq_true] at c) <;> refine ⟨⟨?_, ?_, ?_⟩, ?_, ?_, ?_, ?_⟩ <;> simp only [hH, hQc, hTr, hA1, hUs, hUh, hUc, hAw, reduceIte, Bool.false_eq_true, true_and, false_and, true_or, false_or, Bool.true_eq_false] <;> (try split) <;> omega
  case s1 h c =>
    subst h
    (try simp only at c)
    cases sv
    · simp [holdN, qN, trN, a1N, usN, uhN, ucN, awN, Pc.loop, at_] at c1 c2 c3 c4 c5 c6 c7 c8 g1 g2 g3 g4 g5 g6 g7 g8 <;> (try simp [Pc.loop] at la lS ls lc lu) <;> (try simp only [true_and, false_and, not_false_eq_true] at c) <;> refine ⟨⟨?_, ?_, ?_⟩, ?_, ?_, ?_, ?_⟩ <;> simp only [hH, hQc, hTr, hA1, hUs, hUh, hUc, hAw, reduceIte, Bool.false_eq_true, true_and, false_and, true_or, false_or, Bool.true_eq_false] <;> (try split) <;> omega
    · simp [holdN, qN, trN, a1N, usN, uhN, ucN, awN, Pc.loop, at_] at c1 c2 c3 c4 c5 c6 c7 c8 g1 g2 g3 g4 g5 g6 g7 g8 <;> (try simp [Pc.loop] at la lS ls lc lu) <;> (try simp only [true_and, false_and, not_false_eq_true] at c) <;> refine ⟨⟨?_, ?_, ?_⟩, ?_, ?_, ?_, ?_⟩ <;> simp only [hH, hQc, hTr, hA1, hUs, hUh, hUc, hAw, reduceIte, Bool.false_eq_true, true_and, false_and, true_or, false_or, Bool.true_eq_false] <;> (try split) <;> omega
  case t2 x h =>
    subst h
    (try simp only at c)
    simp [holdN, qN, trN, a1N, usN, uhN, ucN, awN, Pc.loop, at_] at c1 c2 c3 c4 c5 c6 c7 c8 g1 g2 g3 g4 g5 g6 g7 g8 <;> (try simp [Pc.loop] at la lS ls lc lu) <;> (try simp only [true_and, false_and, not_false_eq_true] at c) <;> refine ⟨⟨?_, ?_, ?_⟩, ?_, ?_, ?_, ?_⟩ <;> simp only [hH, hQc, hTr, hA1, hUs, hUh, hUc, hAw, reduceIte, Bool.false_eq_true, true_and, false_and, true_or, false_or, Bool.true_eq_false] <;> (try split) <;> omega
  case r2s h c =>
    subst h
    (try simp only at c)
    simp [holdN, qN, trN, a1N, usN, uhN, ucN, awN, Pc.loop, at_] at c1 c2 c3 c4 c5 c6 c7 c8 g1 g2 g3 g4 g5 g6 g7 g8 <;> (try simp [Pc.loop] at la lS ls lc lu) <;> (try simp only [true_and, false_and, not_false_eq_true] at c) <;> refine ⟨⟨?_, ?_, ?_⟩, ?_, ?_, ?_, ?_⟩ <;> simp only [hH, hQc, hTr, hA1, hUs, hUh, hUc, hAw, reduceIte, Bool.false_eq_true, true_and, false_and, true_or, false_or, Bool.true_eq_false] <;> (try split) <;> omega
  case r2n h c =>
    subst h
    (try simp only at c)
    simp only [(hd_cnt _).1, (hd_cnt _).2.1, (hd_cnt _).2.2.1, (hd_cnt _).2.2.2.1, (hd_cnt _).2.2.2.2.1, (hd_cnt _).2.2.2.2.2.1, (hd_cnt _).2.2.2.2.2.2.1, (hd_cnt _).2.2.2.2.2.2.2] at c1 c2 c3 c4 c5 c6 c7 c8
    simp [holdN, qN, trN, a1N, usN, uhN, ucN, awN, Pc.loop, at_] at c1 c2 c3 c4 c5 c6 c7 c8 g1 g2 g3 g4 g5 g6 g7 g8 <;> (try simp [Pc.loop] at la lS ls lc lu) <;> (try simp only [true_and, false_and, not_false_eq_true] at c) <;> refine ⟨⟨?_, ?_, ?_⟩, ?_, ?_, ?_, ?_⟩ <;> simp only [hH, hQc, hTr, hA1, hUs, hUh, hUc, hAw, reduceIte, Bool.false_eq_true, true_and, false_and, true_or, false_or, Bool.true_eq_false] <;> (try split) <;> omega
  case a1 h =>
    subst h
    (try simp only at c)
    cases sv
    · simp [holdN, qN, trN, a1N, usN, uhN, ucN, awN, Pc.loop, at_] at c1 c2 c3 c4 c5 c6 c7 c8 g1 g2 g3 g4 g5 g6 g7 g8 <;> (try simp [Pc.loop] at la lS ls lc lu) <;> (try simp only [true_and, false_and, not_false_eq_true] at c) <;> refine ⟨⟨?_, ?_, ?_⟩, ?_, ?_, ?_, ?_⟩ <;> simp only [hH, hQc, hTr, hA1, hUs, hUh, hUc, hAw, reduceIte, Bool.false_eq_true, true_and, false_and, true_or, false_or, Bool.true_eq_false] <;> (try split) <;> omega
    · simp [holdN, qN, trN, a1N, usN, uhN, ucN, awN, Pc.loop, at_] at c1 c2 c3 c4 c5 c6 c7 c8 g1 g2 g3 g4 g5 g6 g7 g8 <;> (try simp [Pc.loop] at la lS ls lc lu) <;> (try simp only [true_and, false_and, not_false_eq_true] at c) <;> refine ⟨⟨?_, ?_, ?_⟩, ?_, ?_, ?_, ?_⟩ <;> simp only [hH, hQc, hTr, hA1, hUs, hUh, hUc, hAw, reduceIte, Bool.false_eq_true, true_and, false_and, true_or, false_or, Bool.true_eq_false] <;> (try split) <;> omega
  case le h =>
    subst h
    (try simp only at c)
    simp [holdN, qN, trN, a1N, usN, uhN, ucN, awN, Pc.loop, at_] at c1 c2 c3 c4 c5 c6 c7 c8 g1 g2 g3 g4 g5 g6 g7 g8 <;> (try simp [Pc.loop] at la lS ls lc lu) <;> (try simp only [true_and, false_and, not_false_eq_true] at c) <;> refine ⟨⟨?_, ?_, ?_⟩, ?_, ?_, ?_, ?_⟩ <;> simp only [hH, hQc, hTr, hA1, hUs, hUh, hUc, hAw, reduceIte, Bool.false_eq_true, true_and, false_and, true_or, false_or, Bool.true_eq_false] <;> (try split) <;> omega
  case la h =>
    subst h
    (try simp only at c)
    simp [holdN, qN, trN, a1N, usN, uhN, ucN, awN, Pc.loop, at_] at c1 c2 c3 c4 c5 c6 c7 c8 g1 g2 g3 g4 g5 g6 g7 g8 <;> (try simp [Pc.loop] at la lS ls lc lu) <;> (try simp only [true_and, false_and, not_false_eq_true] at c) <;> refine ⟨⟨?_, ?_, ?_⟩, ?_, ?_, ?_, ?_⟩ <;> simp only [hH, hQc, hTr, hA1, hUs, hUh, hUc, hAw, reduceIte, Bool.false_eq_true, true_and, false_and, true_or, false_or, Bool.true_eq_false] <;> (try split) <;> omega
  case ur h =>
    subst h
    (try simp only at c)
    simp [holdN, qN, trN, a1N, usN, uhN, ucN, awN, Pc.loop, at_] at c1 c2 c3 c4 c5 c6 c7 c8 g1 g2 g3 g4 g5 g6 g7 g8 <;> (try simp [Pc.loop] at la lS ls lc lu) <;> (try simp only [true_and, false_and, not_false_eq_true] at c) <;> refine ⟨⟨?_, ?_, ?_⟩, ?_, ?_, ?_, ?_⟩ <;> simp only [hH, hQc, hTr, hA1, hUs, hUh, hUc, hAw, reduceIte, Bool.false_eq_true, true_and, false_and, true_or, false_or, Bool.true_eq_false] <;> (try split) <;> omega
  case ud h =>
    subst h
    (try simp only at c)
    simp [holdN, qN, trN, a1N, usN, uhN, ucN, awN, Pc.loop, at_] at c1 c2 c3 c4 c5 c6 c7 c8 g1 g2 g3 g4 g5 g6 g7 g8 <;> (try simp [Pc.loop] at la lS ls lc lu) <;> (try simp only [true_and, false_and, not_false_eq_true] at c) <;> refine ⟨⟨?_, ?_, ?_⟩, ?_, ?_, ?_, ?_⟩ <;> simp only [hH, hQc, hTr, hA1, hUs, hUh, hUc, hAw, reduceIte, Bool.false_eq_true, true_and, false_and, true_or, false_or, Bool.true_eq_false] <;> (try split) <;> omega
  case u0e h c =>
    subst h
    (try simp only at c)
    simp [holdN, qN, trN, a1N, usN, uhN, ucN, awN, Pc.loop, at_] at c1 c2 c3 c4 c5 c6 c7 c8 g1 g2 g3 g4 g5 g6 g7 g8 <;> (try simp [Pc.loop] at la lS ls lc lu) <;> (try simp only [true_and, false_and, not_false_eq_true] at c) <;> refine ⟨⟨?_, ?_, ?_⟩, ?_, ?_, ?_, ?_⟩ <;> simp only [hH, hQc, hTr, hA1, hUs, hUh, hUc, hAw, reduceIte, Bool.false_eq_true, true_and, false_and, true_or, false_or, Bool.true_eq_false] <;> (try split) <;> omega
  case u0h h c =>
    subst h
    (try simp only at c)
    simp [holdN, qN, trN, a1N, usN, uhN, ucN, awN, Pc.loop, at_] at c1 c2 c3 c4 c5 c6 c7 c8 g1 g2 g3 g4 g5 g6 g7 g8 <;> (try simp [Pc.loop] at la lS ls lc lu) <;> (try simp only [true_and, false_and, not_false_eq_true] at c) <;> refine ⟨⟨?_, ?_, ?_⟩, ?_, ?_, ?_, ?_⟩ <;> simp only [hH, hQc, hTr, hA1, hUs, hUh, hUc, hAw, reduceIte, Bool.false_eq_true, true_and, false_and, true_or, false_or, Bool.true_eq_false] <;> (try split) <;> omega
  case u0c h c =>
    subst h
    (try simp only at c)
    simp [holdN, qN, trN, a1N, usN, uhN, ucN, awN, Pc.loop, at_] at c1 c2 c3 c4 c5 c6 c7 c8 g1 g2 g3 g4 g5 g6 g7 g8 <;> (try simp [Pc.loop] at la lS ls lc lu) <;> (try simp only [true_and, false_and, not_false_eq_true] at c) <;> refine ⟨⟨?_, ?_, ?_⟩, ?_, ?_, ?_, ?_⟩ <;> simp only [hH, hQc, hTr, hA1, hUs, hUh, hUc, hAw, reduceIte, Bool.false_eq_true, true_and, false_and, true_or, false_or, Bool.true_eq_false] <;> (try split) <;> omega
  case ucy h c =>
    subst h
    (try simp only at c)
    simp only [Wd.mk.injEq] at c
    obtain ⟨rfl, rfl, rfl, rfl⟩ := c
    simp [holdN, qN, trN, a1N, usN, uhN, ucN, awN, Pc.loop, at_] at c1 c2 c3 c4 c5 c6 c7 c8 g1 g2 g3 g4 g5 g6 g7 g8 <;> (try simp [Pc.loop] at la lS ls lc lu) <;> (try simp only [true_and, false_and, not_false_eq_true] at c) <;> refine ⟨⟨?_, ?_, ?_⟩, ?_, ?_, ?_, ?_⟩ <;> simp only [hH, hQc, hTr, hA1, hUs, hUh, hUc, hAw, reduceIte, Bool.false_eq_true, true_and, false_and, true_or, false_or, Bool.true_eq_false] <;> (try split) <;> omega
  case ucn h c =>
    subst h
    (try simp only at c)
    simp [holdN, qN, trN, a1N, usN, uhN, ucN, awN, Pc.loop, at_] at c1 c2 c3 c4 c5 c6 c7 c8 g1 g2 g3 g4 g5 g6 g7 g8 <;> (try simp [Pc.loop] at la lS ls lc lu) <;> (try simp only [true_and, false_and, not_false_eq_true] at c) <;> refine ⟨⟨?_, ?_, ?_⟩, ?_, ?_, ?_, ?_⟩ <;> simp only [hH, hQc, hTr, hA1, hUs, hUh, hUc, hAw, reduceIte, Bool.false_eq_true, true_and, false_and, true_or, false_or, Bool.true_eq_false] <;> (try split) <;> omega
  case uxe h c =>
    subst h
    (try simp only at c)
    simp [holdN, qN, trN, a1N, usN, uhN, ucN, awN, Pc.loop, at_] at c1 c2 c3 c4 c5 c6 c7 c8 g1 g2 g3 g4 g5 g6 g7 g8 <;> (try simp [Pc.loop] at la lS ls lc lu) <;> (try simp only [true_and, false_and, not_false_eq_true] at c) <;> refine ⟨⟨?_, ?_, ?_⟩, ?_, ?_, ?_, ?_⟩ <;> simp only [hH, hQc, hTr, hA1, hUs, hUh, hUc, hAw, reduceIte, Bool.false_eq_true, true_and, false_and, true_or, false_or, Bool.true_eq_false] <;> (try split) <;> omega
  case uxc h c =>
    subst h
    (try simp only at c)
    simp [holdN, qN, trN, a1N, usN, uhN, ucN, awN, Pc.loop, at_] at c1 c2 c3 c4 c5 c6 c7 c8 g1 g2 g3 g4 g5 g6 g7 g8 <;> (try simp [Pc.loop] at la lS ls lc lu) <;> (try simp only [true_and, false_and, not_false_eq_true] at c) <;> refine ⟨⟨?_, ?_, ?_⟩, ?_, ?_, ?_, ?_⟩ <;> simp only [hH, hQc, hTr, hA1, hUs, hUh, hUc, hAw, reduceIte, Bool.false_eq_true, true_and, false_and, true_or, false_or, Bool.true_eq_false] <;> (try split) <;> omega
  case us h =>
    subst h
    (try simp only at c)
    simp [holdN, qN, trN, a1N, usN, uhN, ucN, awN, Pc.loop, at_] at c1 c2 c3 c4 c5 c6 c7 c8 g1 g2 g3 g4 g5 g6 g7 g8 <;> (try simp [Pc.loop] at la lS ls lc lu) <;> (try simp only [true_and, false_and, not_false_eq_true] at c) <;> refine ⟨⟨?_, ?_, ?_⟩, ?_, ?_, ?_, ?_⟩ <;> simp only [hH, hQc, hTr, hA1, hUs, hUh, hUc, hAw, reduceIte, Bool.false_eq_true, true_and, false_and, true_or, false_or, Bool.true_eq_false] <;> (try split) <;> omega
  case uh h =>
    subst h
    (try simp only at c)
    simp [holdN, qN, trN, a1N, usN, uhN, ucN, awN, Pc.loop, at_] at c1 c2 c3 c4 c5 c6 c7 c8 g1 g2 g3 g4 g5 g6 g7 g8 <;> (try simp [Pc.loop] at la lS ls lc lu) <;> (try simp only [true_and, false_and, not_false_eq_true] at c) <;> refine ⟨⟨?_, ?_, ?_⟩, ?_, ?_, ?_, ?_⟩ <;> simp only [hH, hQc, hTr, hA1, hUs, hUh, hUc, hAw, reduceIte, Bool.false_eq_true, true_and, false_and, true_or, false_or, Bool.true_eq_false] <;> (try split) <;> omega
  case ue h =>
    subst h
    (try simp only at c)
    simp [holdN, qN, trN, a1N, usN, uhN, ucN, awN, Pc.loop, at_] at c1 c2 c3 c4 c5 c6 c7 c8 g1 g2 g3 g4 g5 g6 g7 g8 <;> (try simp [Pc.loop] at la lS ls lc lu) <;> (try simp only [true_and, false_and, not_false_eq_true] at c) <;> refine ⟨⟨?_, ?_, ?_⟩, ?_, ?_, ?_, ?_⟩ <;> simp only [hH, hQc, hTr, hA1, hUs, hUh, hUc, hAw, reduceIte, Bool.false_eq_true, true_and, false_and, true_or, false_or, Bool.true_eq_false] <;> (try split) <;> omega

/-- What is known of the word when it is read by one who was woken. -/
theorem read_aw {ts : List Th} {s : Sh} {i : Nat} {T : Th} (g : Glob ts s) (hi : ts[i]? = some T) (h : 0 < awN T ∨ 0 < trN T) : (s.m.s = 0 → s.m.k = 1) ∧ (0 < awN T → s.m.s = 0) := by
  have h1 := cnt_ge awN hi
  have h2 := cnt_ge trN hi
  obtain ⟨b1, b2, b3⟩ := g.bit
  have hn := g.nrm
  have hst := g.stv
  refine ⟨fun h0 => ?_, fun h0 => ?_⟩ <;> omega
/-- The locals. -/
theorem loc_step {ts : List Th} {s s' : Sh} {i : Nat} {T T' : Th} (g : Glob ts s) (l : Loc T) (hi : ts[i]? = some T) (hm : Mv T s T' s') : Loc T' := by
  have hb := g.bit
  have hr := read_aw g hi
  have lb := l.bit
  have la := l.aw
  have lS := l.awS
  have ls := l.sv
  have lq := l.sq
  have lc := l.c1
  have ld := l.ds
  have lu := l.uc
  have li := l.it
  have li' := l.it'
  cases hm
  case ld h => exact loc_at (by decide) rfl (by decide)
  case l0y h c => exact loc_at (by decide) rfl (by decide)
  case l0n h => exact loc_at (by decide) rfl (by decide)
  case r0 h => exact hd_loc hb (fun h => by cases h) (fun h => by cases h) (by show (0 : Nat) ≤ 4; omega)
  case sqn h => constructor <;> simp_all [Pc.loop]
  case sqc h i c => constructor <;> simp_all [Pc.loop] <;> omega
  case sqd h i c => constructor <;> simp_all [Pc.loop] <;> omega
  case c1y h c => constructor <;> simp_all [Pc.loop]
  case c1n h c => constructor <;> simp_all [Pc.loop]
  case ds h => constructor <;> simp_all [Pc.loop]
  case r1 h =>
    refine hd_loc hb (fun h1 => ?_) (fun h1 => ?_) ?_
    · have h2 : 0 < awN T := by simp [awN, h, Pc.loop, show T.aw = true from h1]
      have h3 := (hr (.inl h2)).2 h2
      exact ⟨(hr (.inl h2)).1 h3, h3⟩
    · exact ls (by rw [h]; rfl) h1
    · have := li' (.inr (.inr h)); show T.it + 1 ≤ 4; omega
  case c2l h c o => exact loc_at (by decide) rfl (by decide)
  case c2q h c o => cases hw : T.ws <;> constructor <;> simp_all [Pc.loop]
  case c2n h c => constructor <;> simp_all [Pc.loop]
  case r3 h =>
    refine hd_loc hb (fun h1 => ?_) (fun h1 => ?_) li
    · have h2 : 0 < awN T := by simp [awN, h, Pc.loop, show T.aw = true from h1]
      have h3 := (hr (.inl h2)).2 h2
      exact ⟨(hr (.inl h2)).1 h3, h3⟩
    · exact ls (by rw [h]; rfl) h1
  case t1 x h => constructor <;> simp_all [Pc.loop]
  case s1 h c => cases hw : T.sv <;> constructor <;> simp_all [Pc.loop]
  case t2 x h => constructor <;> simp_all [Pc.loop]
  case r2s h c => constructor <;> simp_all [Pc.loop]
  case r2n h c =>
    refine hd_loc hb (fun _ => ⟨(hr (.inr (by simp [trN, h]))).1 c, c⟩) (fun _ => rfl) (by show (0 : Nat) ≤ 4; omega)
  case a1 h => exact loc_at (by decide) rfl (by decide)
  case le h => exact loc_at (by decide) rfl (by decide)
  case la h => exact loc_at (by decide) rfl (by decide)
  case ur h => exact loc_at (by decide) rfl (by decide)
  case ud h => exact loc_at (by decide) rfl (by decide)
  case u0e h c => exact loc_at (by decide) rfl (by decide)
  case u0h h c => exact loc_at (by decide) rfl (by decide)
  case u0c h c => constructor <;> simp_all [Pc.loop]
  case ucy h c => exact loc_at (by decide) rfl (by decide)
  case ucn h c => constructor <;> simp_all [Pc.loop]
  case uxe h c => exact loc_at (by decide) rfl (by decide)
  case uxc h c => constructor <;> simp_all [Pc.loop]
  case us h => exact loc_at (by decide) rfl (by decide)
  case uh h => exact loc_at (by decide) rfl (by decide)
  case ue h => exact loc_at (by decide) rfl (by decide)

/-- ████ A step of a contender keeps all. ████ -/
theorem Inv.step {ts : List Th} {s s' : Sh} {i : Nat} {T T' : Th} (h : Inv ts s) (hi : ts[i]? = some T) (hm : Mv T s T' s') : Inv (ts.set i T') s' :=
  have l := h.loc T (List.mem_of_getElem? hi)
  ⟨glob_step h.g l (cs_of hi T') hm, loc_set h.loc (loc_step h.g l hi hm)⟩

/-! ### What the text takes for granted (else it throws) -/
theorem Inv.held {ts : List Th} {s : Sh} {i : Nat} {T : Th} (h : Inv ts s) (hi : ts[i]? = some T) (hp : holdN T = 1) : s.m.l = 1 := by
  have := cnt_ge holdN hi
  have := h.g.hold
  have := h.g.bit
  omega
theorem Inv.given {ts : List Th} {s : Sh} {i : Nat} {T : Th} (h : Inv ts s) (hi : ts[i]? = some T) (hp : T.pc = .r2) (hs : s.m.s = 1) : s.m.l = 0 ∧ s.m.k = 0 ∧ 0 < s.m.w := by
  have h1 := cnt_ge trN hi
  have h2 := cnt_ge qN hi
  simp [trN, qN, hp] at h1 h2
  have := h.g.stv hs
  omega
theorem Inv.taken {ts : List Th} {s : Sh} {i : Nat} {T : Th} (h : Inv ts s) (hi : ts[i]? = some T) (hp : T.pc = .a1) : s.m.s = 1 ∧ s.m.l = 0 ∧ s.m.k = 0 ∧ 0 < s.m.w := by
  have h1 := cnt_ge a1N hi
  have h2 := cnt_ge qN hi
  simp [a1N, qN, hp] at h1 h2
  have hn := h.g.nrm
  have hst := h.g.stv
  obtain ⟨b1, b2, b3⟩ := h.g.bit
  omega
/-- The word stays small: no more wait than contend. -/
theorem Inv.few {ts : List Th} {s : Sh} (h : Inv ts s) : s.m.w ≤ cnt qN ts ∧ s.ms ≤ 1 := by
  have hn := h.g.nrm
  have hst := h.g.stv
  obtain ⟨b1, b2, b3⟩ := h.g.bit
  omega

/-! ### Somebody can go on -/
/-- It waits for the semaphore. -/
def Th.stuck (T : Th) (s : Sh) : Prop := T.pc = .s1 ∧ s.ms = 0
/-- It is still about the lock. -/
def Pc.locks (p : Pc) : Bool := match p with | .wr | .wk | .d1 | .d2 | .d3 | .d4 | .quit | .bad => false | _ => true
theorem Inv.live {ts : List Th} {s : Sh} (h : Inv ts s) (hx : ∃ T ∈ ts, T.pc = .s1) (hs : s.ms = 0) : ∃ (i : Nat) (T : Th), ts[i]? = some T ∧ T.pc.locks = true ∧ T.pc ≠ .s1 := by
  have key : ∀ f : Th → Nat, (∀ T, 0 < f T → T.pc.locks = true ∧ T.pc ≠ .s1) → 0 < cnt f ts → ∃ (i : Nat) (T : Th), ts[i]? = some T ∧ T.pc.locks = true ∧ T.pc ≠ .s1 := fun f hf hc => by
    obtain ⟨i, T, hi, ht⟩ := cnt_pos hc
    exact ⟨i, T, hi, hf T ht⟩
  obtain ⟨X, hX, hXp⟩ := hx
  obtain ⟨j, hj⟩ := List.getElem?_of_mem hX
  have hq : 0 < cnt qN ts := by have := cnt_ge qN hj; simp [qN, hXp] at this; omega
  have hn := h.g.nrm
  have hst := h.g.stv
  have hse := h.g.see
  have hh := h.g.hold
  obtain ⟨b1, b2, b3⟩ := h.g.bit
  rcases Nat.eq_zero_or_pos (cnt holdN ts) with h1 | h1
  · rcases Nat.eq_zero_or_pos (cnt usN ts) with h2 | h2
    · rcases Nat.eq_zero_or_pos (cnt uhN ts) with h3 | h3
      · rcases Nat.eq_zero_or_pos (cnt trN ts) with h4 | h4
        · rcases Nat.eq_zero_or_pos (cnt awN ts) with h5 | h5
          · rcases Nat.eq_zero_or_pos (cnt a1N ts) with h6 | h6
            · exact key ucN (fun T hT => by unfold ucN at hT; split at hT <;> simp_all [Pc.locks]) (by omega)
            · exact key a1N (fun T hT => by unfold a1N at hT; split at hT <;> simp_all [Pc.locks]) h6
          · exact key awN (fun T hT => by
              unfold awN at hT
              split at hT
              · rename_i hc
                obtain ⟨hc1, -⟩ := hc
                cases hp : T.pc <;> simp_all [Pc.loop, Pc.locks]
              · omega) h5
        · exact key trN (fun T hT => by unfold trN at hT; split at hT <;> simp_all [Pc.locks]) h4
      · exact key uhN (fun T hT => by unfold uhN at hT; split at hT <;> simp_all [Pc.locks]) h3
    · exact key usN (fun T hT => by unfold usN at hT; split at hT <;> simp_all [Pc.locks]) h2
  · exact key holdN (fun T hT => by unfold holdN at hT; split at hT <;> simp_all [Pc.locks]) h1

end Go.Proofs.Ytlcjepgmmbdkmaa.Auto
