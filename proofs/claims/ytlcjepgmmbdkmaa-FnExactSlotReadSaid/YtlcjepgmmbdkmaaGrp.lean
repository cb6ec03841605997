/-
  The contenders, the group that joins them and the one who starts them and waits, as one abstract automaton.
-/
import Derived.Test.YtlcjepgmmbdkmaaAutoR
namespace Go.Proofs.Ytlcjepgmmbdkmaa.Auto
set_option linter.unusedSimpArgs false
set_option linter.unusedVariables false

/-- What is shared: the mutex; the group's counter, whether it is waited for, its semaphore. -/
structure St where
  s : Sh
  v : Nat
  wt : Nat
  ws : Nat
/-- Where the starter stands. -/
inductive Sp where
  | kd | ad | ke | go | xd | w1 | w2 | w3 | w4 | xe | aq | fin
  deriving DecidableEq, Repr
/-- .. with so many still to start; what it has seen of the counter. -/
structure Sr where
  pc : Sp
  r : Nat
  old : Nat := 0

/-- A worker's step. -/
inductive WMv : Th → St → Th → St → Prop
  | lock {T T' s s' v wt ws} (h : Mv T s T' s') : WMv T ⟨s, v, wt, ws⟩ T' ⟨s', v, wt, ws⟩
  | wr {T S} (h : T.pc = .wr) : WMv T S (at_ .wk) S
  | wk {T S} (h : T.pc = .wk) : WMv T S (at_ .d1) S
  | d1q {T S} (h : T.pc = .d1) (c : ¬ (S.v = 1 ∧ S.wt = 1)) : WMv T S (at_ .quit) ⟨S.s, S.v - 1, S.wt, S.ws⟩
  | d1l {T S} (h : T.pc = .d1) (c : S.v = 1 ∧ S.wt = 1) : WMv T S (at_ .d2) ⟨S.s, 0, S.wt, S.ws⟩
  | d2 {T S} (h : T.pc = .d2) : WMv T S (at_ .d3) S
  | d3 {T S} (h : T.pc = .d3) : WMv T S (at_ .d4) ⟨S.s, S.v, 0, S.ws⟩
  | d4 {T S} (h : T.pc = .d4) : WMv T S (at_ .quit) ⟨S.s, S.v, S.wt, S.ws + 1⟩
/-- The starter's. -/
inductive SMv : Sr → St → Sr → St → Prop
  | kd {a S} (h : a.pc = .kd) : SMv a S ⟨.ad, a.r, 0⟩ S
  | ad {a S} (h : a.pc = .ad) : SMv a S ⟨.ke, a.r, 0⟩ ⟨S.s, S.v + 1, S.wt, S.ws⟩
  | ke {a S} (h : a.pc = .ke) : SMv a S ⟨.go, a.r, 0⟩ S
  | xd {a S} (h : a.pc = .xd) : SMv a S ⟨.w1, a.r, 0⟩ S
  | w1z {a S} (h : a.pc = .w1) (c : S.v = 0) : SMv a S ⟨.xe, a.r, 0⟩ S
  | w1n {a S} (h : a.pc = .w1) (c : S.v ≠ 0) : SMv a S ⟨.w2, a.r, S.v⟩ S
  | w2y {a S} (h : a.pc = .w2) (c : S.v = a.old) : SMv a S ⟨.w3, a.r, 0⟩ ⟨S.s, S.v, 1, S.ws⟩
  | w2n {a S} (h : a.pc = .w2) (c : S.v ≠ a.old) : SMv a S ⟨.w1, a.r, 0⟩ S
  | w3 {a S} (h : a.pc = .w3) (c : 0 < S.ws) : SMv a S ⟨.w4, a.r, 0⟩ ⟨S.s, S.v, S.wt, S.ws - 1⟩
  | w4 {a S} (h : a.pc = .w4) : SMv a S ⟨.xe, a.r, 0⟩ S
  | xe {a S} (h : a.pc = .xe) : SMv a S ⟨.aq, a.r, 0⟩ S
  | aq {a S} (h : a.pc = .aq) : SMv a S ⟨.fin, a.r, 0⟩ S
/-- Behind a go statement. -/
def Sr.next (a : Sr) : Sr := if a.r = 1 then ⟨.xd, 0, 0⟩ else ⟨.kd, a.r - 1, 0⟩

/-- It has still to say that it is done. -/
def pdN (T : Th) : Nat := match T.pc with | .d2 | .d3 | .d4 | .quit => 0 | _ => 1
def d23N (T : Th) : Nat := match T.pc with | .d2 | .d3 => 1 | _ => 0
def d4N (T : Th) : Nat := match T.pc with | .d4 => 1 | _ => 0

structure GInv (ts : List Th) (a : Sr) (S : St) : Prop where
  inv : Inv ts S.s
  v : S.v = cnt pdN ts + (if a.pc = .ke ∨ a.pc = .go then 1 else 0)
  early : (a.pc = .kd ∨ a.pc = .ad ∨ a.pc = .ke ∨ a.pc = .go ∨ a.pc = .xd ∨ a.pc = .w1 ∨ a.pc = .w2) → S.wt = 0 ∧ S.ws = 0 ∧ cnt d23N ts = 0 ∧ cnt d4N ts = 0
  mid : a.pc = .w3 → (0 < S.v → S.wt = 1 ∧ S.ws = 0 ∧ cnt d23N ts = 0 ∧ cnt d4N ts = 0) ∧ (S.v = 0 → S.wt = cnt d23N ts ∧ cnt d23N ts + cnt d4N ts + S.ws = 1)
  late : (a.pc = .w4 ∨ a.pc = .xe ∨ a.pc = .aq ∨ a.pc = .fin) → S.v = 0 ∧ S.wt = 0 ∧ S.ws = 0 ∧ cnt d23N ts = 0 ∧ cnt d4N ts = 0
  r : (a.pc = .kd ∨ a.pc = .ad ∨ a.pc = .ke ∨ a.pc = .go) → 0 < a.r
  r0 : ¬ (a.pc = .kd ∨ a.pc = .ad ∨ a.pc = .ke ∨ a.pc = .go) → a.r = 0
  old : a.pc = .w2 → 0 < a.old

/-- About the lock, or just behind. -/
def Pc.pre (p : Pc) : Bool := match p with | .wk | .d1 | .d2 | .d3 | .d4 | .quit | .bad => false | _ => true
theorem hd_pre (T : Th) : (hd T).pc.pre = true := by rcases hd_pc T with ⟨hp, _⟩ | ⟨hp, _⟩ <;> rw [hp] <;> rfl
theorem mv_pre {T T' : Th} {s s' : Sh} (h : Mv T s T' s') : T.pc.pre = true ∧ T'.pc.pre = true := by
  cases h <;> refine ⟨by rw [‹T.pc = _›]; rfl, ?_⟩ <;> first | exact hd_pre _ | rfl | (show Pc.pre (if _ then _ else _) = true; split <;> rfl)
theorem pd_pre {T : Th} (h : T.pc.pre = true) : pdN T = 1 ∧ d23N T = 0 ∧ d4N T = 0 := by
  cases hp : T.pc <;> simp [hp, Pc.pre] at h <;> simp [pdN, d23N, d4N, hp]
theorem loc_wmv {ts : List Th} {S S' : St} {i : Nat} {T T' : Th} (h : Inv ts S.s) (hi : ts[i]? = some T) (hm : WMv T S T' S') : Inv (ts.set i T') S'.s := by
  have plain : ∀ p : Pc, p ≠ .bad → p.loop = false → p ≠ .uc → (T.pc = .wr ∨ T.pc = .wk ∨ T.pc = .d1 ∨ T.pc = .d2 ∨ T.pc = .d3 ∨ T.pc = .d4) → (p = .wk ∨ p = .d1 ∨ p = .d2 ∨ p = .d3 ∨ p = .d4 ∨ p = .quit) → Inv (ts.set i (at_ p)) S.s := by
    intro p hb hl hu hT hp
    have c := cs_of hi (at_ p)
    have z : ∀ X : Th, (X.pc = .wr ∨ X.pc = .wk ∨ X.pc = .d1 ∨ X.pc = .d2 ∨ X.pc = .d3 ∨ X.pc = .d4 ∨ X.pc = .quit) → holdN X = 0 ∧ qN X = 0 ∧ trN X = 0 ∧ a1N X = 0 ∧ usN X = 0 ∧ uhN X = 0 ∧ ucN X = 0 ∧ awN X = 0 := by
      intro X hX
      rcases hX with h | h | h | h | h | h | h <;> simp [holdN, qN, trN, a1N, usN, uhN, ucN, awN, Pc.loop, h]
    obtain ⟨x1, x2, x3, x4, x5, x6, x7, x8⟩ := z T (by rcases hT with h | h | h | h | h | h <;> simp [h])
    obtain ⟨y1, y2, y3, y4, y5, y6, y7, y8⟩ := z (at_ p) (by rcases hp with h | h | h | h | h | h <;> simp [h])
    obtain ⟨c1, c2, c3, c4, c5, c6, c7, c8, -, -, -, -, -, -, -, -⟩ := c
    rw [x1, y1] at c1; rw [x2, y2] at c2; rw [x3, y3] at c3; rw [x4, y4] at c4; rw [x5, y5] at c5; rw [x6, y6] at c6; rw [x7, y7] at c7; rw [x8, y8] at c8
    simp only [Nat.add_zero] at c1 c2 c3 c4 c5 c6 c7 c8
    refine ⟨⟨h.g.bit, ?_, ?_, ?_, ?_⟩, loc_set h.loc (loc_at hb hl hu)⟩
    · rw [c1]; exact h.g.hold
    · rw [c2, c3, c4, c5, c6, c8]; exact h.g.nrm
    · rw [c2, c3, c4, c5, c6, c8]; exact h.g.stv
    · rw [c7]; exact h.g.see
  cases hm
  case lock h' => exact h.step hi h'
  case wr h' => exact plain _ (by decide) rfl (by decide) (by simp [h']) (by simp)
  case wk h' => exact plain _ (by decide) rfl (by decide) (by simp [h']) (by simp)
  case d1q h' c => exact plain _ (by decide) rfl (by decide) (by simp [h']) (by simp)
  case d1l h' c => exact plain _ (by decide) rfl (by decide) (by simp [h']) (by simp)
  case d2 h' => exact plain _ (by decide) rfl (by decide) (by simp [h']) (by simp)
  case d3 h' => exact plain _ (by decide) rfl (by decide) (by simp [h']) (by simp)
  case d4 h' => exact plain _ (by decide) rfl (by decide) (by simp [h']) (by simp)

/-- ████ A worker's step keeps all. ████ -/
theorem GInv.worker {ts : List Th} {a : Sr} {S S' : St} {i : Nat} {T T' : Th} (h : GInv ts a S) (hi : ts[i]? = some T) (hm : WMv T S T' S') : GInv (ts.set i T') a S' := by
  have hI := loc_wmv h.inv hi hm
  have e1 := cnt_set pdN (T' := T') hi
  have e2 := cnt_set d23N (T' := T') hi
  have e3 := cnt_set d4N (T' := T') hi
  have g1 := cnt_ge pdN hi
  have g2 := cnt_ge d23N hi
  have g3 := cnt_ge d4N hi
  have hv := h.v
  have he := h.early
  have hmid := h.mid
  have hl := h.late
  have hal : (a.pc = .kd ∨ a.pc = .ad ∨ a.pc = .ke ∨ a.pc = .go ∨ a.pc = .xd ∨ a.pc = .w1 ∨ a.pc = .w2) ∨ a.pc = .w3 ∨ (a.pc = .w4 ∨ a.pc = .xe ∨ a.pc = .aq ∨ a.pc = .fin) := by cases a.pc <;> simp
  obtain ⟨s, v, wt, ws⟩ := S
  cases hm
  case lock s' h' =>
    obtain ⟨p1, p2⟩ := mv_pre h'
    obtain ⟨x1, x2, x3⟩ := pd_pre p1
    obtain ⟨y1, y2, y3⟩ := pd_pre p2
    rw [x1, y1] at e1; rw [x2, y2] at e2; rw [x3, y3] at e3
    have e1' : cnt pdN (ts.set i T') = cnt pdN ts := by omega
    have e2' : cnt d23N (ts.set i T') = cnt d23N ts := by omega
    have e3' : cnt d4N (ts.set i T') = cnt d4N ts := by omega
    refine ⟨hI, by rw [e1']; exact hv, by rw [e2', e3']; exact he, by rw [e2', e3']; exact hmid, by rw [e2', e3']; exact hl, h.r, h.r0, h.old⟩
  all_goals generalize hb : (if a.pc = .ke ∨ a.pc = .go then 1 else 0) = b at hv
  case wr h' =>
    simp only [pdN, d23N, d4N, h'] at e1 e2 e3 g1 g2 g3
    simp only at hv he hmid hl
    refine ⟨hI, ?_, fun hx => ?_, fun hx => ?_, fun hx => ?_, h.r, h.r0, h.old⟩
    · show _ = cnt pdN _ + _; rw [hb]; simp only; omega
    · have := he hx; simp only; omega
    · have := hmid hx; simp only; omega
    · have := hl hx; simp only; omega
  case wk h' =>
    simp only [pdN, d23N, d4N, h'] at e1 e2 e3 g1 g2 g3
    simp only at hv he hmid hl
    refine ⟨hI, ?_, fun hx => ?_, fun hx => ?_, fun hx => ?_, h.r, h.r0, h.old⟩
    · show _ = cnt pdN _ + _; rw [hb]; simp only; omega
    · have := he hx; simp only; omega
    · have := hmid hx; simp only; omega
    · have := hl hx; simp only; omega
  case d1q h' c =>
    simp only [pdN, d23N, d4N, h'] at e1 e2 e3 g1 g2 g3
    simp only at hv he hmid hl c
    refine ⟨hI, ?_, fun hx => ?_, fun hx => ?_, fun hx => ?_, h.r, h.r0, h.old⟩
    · show _ = cnt pdN _ + _; rw [hb]; simp only; omega
    · have := he hx; simp only; omega
    · have := hmid hx; simp only; omega
    · have := hl hx; simp only; omega
  case d1l h' c =>
    simp only [pdN, d23N, d4N, h'] at e1 e2 e3 g1 g2 g3
    simp only at hv he hmid hl c
    refine ⟨hI, ?_, fun hx => ?_, fun hx => ?_, fun hx => ?_, h.r, h.r0, h.old⟩
    · show _ = cnt pdN _ + _; rw [hb]; simp only; omega
    · have := he hx; simp only; omega
    · have := hmid hx; simp only; omega
    · have := hl hx; simp only; omega
  case d2 h' =>
    simp only [pdN, d23N, d4N, h'] at e1 e2 e3 g1 g2 g3
    simp only at hv he hmid hl
    refine ⟨hI, ?_, fun hx => ?_, fun hx => ?_, fun hx => ?_, h.r, h.r0, h.old⟩
    · show _ = cnt pdN _ + _; rw [hb]; simp only; omega
    · have := he hx; simp only; omega
    · have := hmid hx; simp only; omega
    · have := hl hx; simp only; omega
  case d3 h' =>
    simp only [pdN, d23N, d4N, h'] at e1 e2 e3 g1 g2 g3
    simp only at hv he hmid hl
    refine ⟨hI, ?_, fun hx => ?_, fun hx => ?_, fun hx => ?_, h.r, h.r0, h.old⟩
    · show _ = cnt pdN _ + _; rw [hb]; simp only; omega
    · have := he hx; simp only; omega
    · have := hmid hx; simp only; omega
    · have := hl hx; simp only; omega
  case d4 h' =>
    simp only [pdN, d23N, d4N, h'] at e1 e2 e3 g1 g2 g3
    simp only at hv he hmid hl
    refine ⟨hI, ?_, fun hx => ?_, fun hx => ?_, fun hx => ?_, h.r, h.r0, h.old⟩
    · show _ = cnt pdN _ + _; rw [hb]; simp only; omega
    · have := he hx; simp only; omega
    · have := hmid hx; simp only; omega
    · have := hl hx; simp only; omega

theorem cnt_snoc (f : Th → Nat) (ts : List Th) (T : Th) : cnt f (ts ++ [T]) = cnt f ts + f T := cnt_push f ts T
/-- ████ The starter's step keeps all. ████ -/
theorem GInv.starter {ts : List Th} {a a' : Sr} {S S' : St} (h : GInv ts a S) (hm : SMv a S a' S') : GInv ts a' S' := by
  have hv := h.v
  have he := h.early
  have hmid := h.mid
  have hl := h.late
  have hr := h.r
  have hr0 := h.r0
  have ho := h.old
  have hI := h.inv
  cases hm
  case kd h' =>
    simp [h'] at hv he hmid hl hr hr0 ho
    refine ⟨hI, ?_, ?_, ?_, ?_, ?_, ?_, ?_⟩ <;> simp <;> omega
  case ad h' =>
    simp [h'] at hv he hmid hl hr hr0 ho
    refine ⟨hI, ?_, ?_, ?_, ?_, ?_, ?_, ?_⟩ <;> simp <;> omega
  case ke h' =>
    simp [h'] at hv he hmid hl hr hr0 ho
    refine ⟨hI, ?_, ?_, ?_, ?_, ?_, ?_, ?_⟩ <;> simp <;> omega
  case xd h' =>
    simp [h'] at hv he hmid hl hr hr0 ho
    refine ⟨hI, ?_, ?_, ?_, ?_, ?_, ?_, ?_⟩ <;> simp <;> omega
  case w1z h' c =>
    simp [h'] at hv he hmid hl hr hr0 ho
    refine ⟨hI, ?_, ?_, ?_, ?_, ?_, ?_, ?_⟩ <;> simp <;> omega
  case w1n h' c =>
    simp [h'] at hv he hmid hl hr hr0 ho
    refine ⟨hI, ?_, ?_, ?_, ?_, ?_, ?_, ?_⟩ <;> simp <;> omega
  case w2y h' c =>
    simp [h'] at hv he hmid hl hr hr0 ho
    refine ⟨hI, ?_, ?_, ?_, ?_, ?_, ?_, ?_⟩ <;> simp <;> omega
  case w2n h' c =>
    simp [h'] at hv he hmid hl hr hr0 ho
    refine ⟨hI, ?_, ?_, ?_, ?_, ?_, ?_, ?_⟩ <;> simp <;> omega
  case w3 h' c =>
    simp [h'] at hv he hmid hl hr hr0 ho
    refine ⟨hI, ?_, ?_, ?_, ?_, ?_, ?_, ?_⟩ <;> simp <;> omega
  case w4 h' =>
    simp [h'] at hv he hmid hl hr hr0 ho
    refine ⟨hI, ?_, ?_, ?_, ?_, ?_, ?_, ?_⟩ <;> simp <;> omega
  case xe h' =>
    simp [h'] at hv he hmid hl hr hr0 ho
    refine ⟨hI, ?_, ?_, ?_, ?_, ?_, ?_, ?_⟩ <;> simp <;> omega
  case aq h' =>
    simp [h'] at hv he hmid hl hr hr0 ho
    refine ⟨hI, ?_, ?_, ?_, ?_, ?_, ?_, ?_⟩ <;> simp <;> omega
/-- ████ A go statement: one more. ████ -/
theorem GInv.fork {ts : List Th} {a : Sr} {S : St} (h : GInv ts a S) (hg : a.pc = .go) : GInv (ts ++ [at_ .ld]) a.next S := by
  have hv := h.v
  have he := h.early
  have hr := h.r
  simp [hg] at hv he hr
  have c : ∀ f : Th → Nat, cnt f (ts ++ [at_ .ld]) = cnt f ts + f (at_ .ld) := fun f => cnt_push f ts _
  have hI : Inv (ts ++ [at_ .ld]) S.s := by
    refine ⟨⟨h.inv.g.bit, ?_, ?_, ?_, ?_⟩, fun T hT => ?_⟩
    · rw [c]; exact h.inv.g.hold
    · rw [c, c, c, c, c, c]; exact h.inv.g.nrm
    · rw [c, c, c, c, c, c]; exact h.inv.g.stv
    · rw [c]; exact h.inv.g.see
    · rcases List.mem_append.1 hT with h1 | h1
      · exact h.inv.loc T h1
      · rw [List.mem_singleton.1 h1]; exact loc_at (by decide) rfl (by decide)
  have x1 : pdN (at_ .ld) = 1 := rfl
  have x2 : d23N (at_ .ld) = 0 := rfl
  have x3 : d4N (at_ .ld) = 0 := rfl
  unfold Sr.next
  split
  · refine ⟨hI, ?_, ?_, ?_, ?_, ?_, ?_, ?_⟩ <;> simp [c, x1, x2, x3] <;> omega
  · refine ⟨hI, ?_, ?_, ?_, ?_, ?_, ?_, ?_⟩ <;> simp [c, x1, x2, x3] <;> omega

/-! ### Somebody can go on; it comes to an end -/
/-- It can take a step (or is done). -/
def Th.can (T : Th) (S : St) : Prop := T.pc ≠ .quit ∧ T.pc ≠ .bad ∧ ¬ (T.pc = .s1 ∧ S.s.ms = 0)
theorem GInv.live {ts : List Th} {a : Sr} {S : St} (h : GInv ts a S) (hw : a.pc = .w3) (hs : S.ws = 0) : ∃ (i : Nat) (T : Th), ts[i]? = some T ∧ T.can S := by
  have hmid := h.mid hw
  have hv := h.v
  simp [hw] at hv
  rcases Nat.eq_zero_or_pos S.v with h0 | h0
  · have := hmid.2 h0
    rcases Nat.eq_zero_or_pos (cnt d23N ts) with h1 | h1
    · obtain ⟨i, T, hi, ht⟩ := cnt_pos (f := d4N) (ts := ts) (by omega)
      refine ⟨i, T, hi, ?_⟩
      unfold d4N at ht
      split at ht <;> simp_all [Th.can]
    · obtain ⟨i, T, hi, ht⟩ := cnt_pos h1
      refine ⟨i, T, hi, ?_⟩
      unfold d23N at ht
      split at ht <;> simp_all [Th.can]
  · obtain ⟨i, T, hi, ht⟩ := cnt_pos (f := pdN) (ts := ts) (by omega)
    have hb := (h.inv.loc T (List.mem_of_getElem? hi)).ok
    by_cases hp : T.pc = .s1 ∧ S.s.ms = 0
    · obtain ⟨j, X, hj, hx1, hx2⟩ := h.inv.live ⟨T, List.mem_of_getElem? hi, hp.1⟩ hp.2
      refine ⟨j, X, hj, ?_, (h.inv.loc X (List.mem_of_getElem? hj)).ok, fun x => hx2 x.1⟩
      intro e
      rw [e] at hx1
      cases hx1
    · refine ⟨i, T, hi, ?_, hb, hp⟩
      intro e
      simp [pdN, e] at ht

/-- The starter's part of what may still be turned. -/
def swN (a : Sr) : Nat := match a.pc with
  | .kd | .ad => 300 * a.r + 50
  | .ke | .go => 300 * a.r + 40
  | .xd | .w1 | .w2 => 30
  | .w3 => 20
  | _ => 10
def slN (v : Nat) (a : Sr) : Nat := match a.pc with
  | .kd => 1
  | .ke => 1
  | .xd => 5
  | .w1 => 2
  | .w2 => if v = a.old then 1 else 3
  | .w4 => 3
  | .xe => 2
  | .aq => 1
  | _ => 0
theorem slN_le (v : Nat) (a : Sr) : slN v a ≤ 200 := by
  unfold slN
  split <;> (try split) <;> omega
def Phi (ts : List Th) (a : Sr) (S : St) : Nat := cnt wtN ts + 10 * S.s.ms + S.ws + swN a
/-- THE RANK: M is more than all that is near can be. -/
def rank (M : Nat) (ts : List Th) (a : Sr) (S : St) : Nat := Phi ts a S * M + (lams ts S.s.m + slN S.v a)

theorem wmv_less {S S' : St} {T T' : Th} (l : Loc T) (hm : WMv T S T' S') : wtN T' + 10 * S'.s.ms + S'.ws < wtN T + 10 * S.s.ms + S.ws ∨ (wtN T' + 10 * S'.s.ms + S'.ws = wtN T + 10 * S.s.ms + S.ws ∧ S'.s.m = S.s.m ∧ S'.v = S.v ∧ lamN S'.s.m T' < lamN S.s.m T) := by
  cases hm
  case lock h => rcases step_less l h with h1 | ⟨h1, h2, h3⟩
                 · exact .inl (by simp only; omega)
                 · exact .inr ⟨by simp only; omega, h2, rfl, h3⟩
  case wr h => exact .inr ⟨by simp [wtN, h], rfl, rfl, by simp [lamN, h]⟩
  case wk h => exact .inr ⟨by simp [wtN, h], rfl, rfl, by simp [lamN, h]⟩
  case d1q h c => exact .inl (by simp [wtN, h])
  case d1l h c => exact .inl (by simp [wtN, h])
  case d2 h => exact .inr ⟨by simp [wtN, h], rfl, rfl, by simp [lamN, h]⟩
  case d3 h => exact .inl (by simp [wtN, h])
  case d4 h => exact .inl (by simp [wtN, h]; omega)
theorem rank_worker {M : Nat} {ts : List Th} {a : Sr} {S S' : St} {i : Nat} {T T' : Th} (hM : 200 * ts.length + 200 < M) (hi : ts[i]? = some T) (l : Loc T) (hm : WMv T S T' S') : rank M (ts.set i T') a S' < rank M ts a S := by
  have e := cnt_set wtN (T' := T') hi
  have g := cnt_ge wtN hi
  have hl := lams_le S'.s.m (ts.set i T')
  have hs := slN_le S'.v a
  rw [List.length_set] at hl
  unfold rank Phi
  rcases wmv_less l hm with h1 | ⟨h1, h2, h3, h4⟩
  · have hlt : cnt wtN (ts.set i T') + 10 * S'.s.ms + S'.ws + swN a + 1 ≤ cnt wtN ts + 10 * S.s.ms + S.ws + swN a := by omega
    have := Nat.mul_le_mul_right M hlt
    rw [Nat.add_mul, Nat.one_mul] at this
    omega
  · have e2 := cnt_set (lamN S.s.m) (T' := T') hi
    have g2 := cnt_ge (lamN S.s.m) hi
    rw [h2] at h4
    rw [h2, h3]
    have e3 : cnt wtN (ts.set i T') + 10 * S'.s.ms + S'.ws + swN a = cnt wtN ts + 10 * S.s.ms + S.ws + swN a := by omega
    rw [e3]
    unfold lams
    omega
theorem smv_less {a a' : Sr} {S S' : St} (hm : SMv a S a' S') : S'.s = S.s ∧ (S'.ws + swN a' < S.ws + swN a ∨ (S'.ws + swN a' = S.ws + swN a ∧ slN S'.v a' < slN S.v a)) := by
  cases hm
  case kd h => exact ⟨rfl, .inr ⟨by simp [swN, h], by simp [slN, h]⟩⟩
  case ad h => exact ⟨rfl, .inl (by simp [swN, h])⟩
  case ke h => exact ⟨rfl, .inr ⟨by simp [swN, h], by simp [slN, h]⟩⟩
  case xd h => exact ⟨rfl, .inr ⟨by simp [swN, h], by simp [slN, h]⟩⟩
  case w1z h c => exact ⟨rfl, .inl (by simp [swN, h])⟩
  case w1n h c => exact ⟨rfl, .inr ⟨by simp [swN, h], by simp [slN, h]⟩⟩
  case w2y h c => exact ⟨rfl, .inl (by simp [swN, h])⟩
  case w2n h c => exact ⟨rfl, .inr ⟨by simp [swN, h], by simp [slN, h, c]⟩⟩
  case w3 h c => exact ⟨rfl, .inl (by simp [swN, h]; omega)⟩
  case w4 h => exact ⟨rfl, .inr ⟨by simp [swN, h], by simp [slN, h]⟩⟩
  case xe h => exact ⟨rfl, .inr ⟨by simp [swN, h], by simp [slN, h]⟩⟩
  case aq h => exact ⟨rfl, .inr ⟨by simp [swN, h], by simp [slN, h]⟩⟩
theorem rank_starter {M : Nat} {ts : List Th} {a a' : Sr} {S S' : St} (hM : 200 * ts.length + 200 < M) (hm : SMv a S a' S') : rank M ts a' S' < rank M ts a S := by
  have hl := lams_le S'.s.m ts
  have hs := slN_le S'.v a'
  obtain ⟨h0, h1 | ⟨h1, h2⟩⟩ := smv_less hm
  · unfold rank Phi
    rw [h0] at hl ⊢
    have hlt : cnt wtN ts + 10 * S.s.ms + S'.ws + swN a' + 1 ≤ cnt wtN ts + 10 * S.s.ms + S.ws + swN a := by omega
    have := Nat.mul_le_mul_right M hlt
    rw [Nat.add_mul, Nat.one_mul] at this
    omega
  · unfold rank Phi
    rw [h0]
    have e3 : cnt wtN ts + 10 * S.s.ms + S'.ws + swN a' = cnt wtN ts + 10 * S.s.ms + S.ws + swN a := by omega
    rw [e3]
    omega
theorem rank_fork {M : Nat} {ts : List Th} {a : Sr} {S : St} (hM : 200 * (ts.length + 1) + 200 < M) (hg : a.pc = .go) (hr : 0 < a.r) : rank M (ts ++ [at_ .ld]) a.next S < rank M ts a S := by
  have hl := lams_le S.s.m (ts ++ [at_ .ld])
  have hs := slN_le S.v a.next
  simp at hl
  have e : cnt wtN (ts ++ [at_ .ld]) = cnt wtN ts + 104 := cnt_push wtN ts _
  have hn : swN a.next + 105 ≤ swN a := by
    unfold Sr.next
    split
    · rename_i h; simp [swN, hg, h]
    · simp [swN, hg]; omega
  unfold rank Phi
  have hlt : cnt wtN (ts ++ [at_ .ld]) + 10 * S.s.ms + S.ws + swN a.next + 1 ≤ cnt wtN ts + 10 * S.s.ms + S.ws + swN a := by omega
  have := Nat.mul_le_mul_right M hlt
  rw [Nat.add_mul, Nat.one_mul] at this
  omega

end Go.Proofs.Ytlcjepgmmbdkmaa.Auto
