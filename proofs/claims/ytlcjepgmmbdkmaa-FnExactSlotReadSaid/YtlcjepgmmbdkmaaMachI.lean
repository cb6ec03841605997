/-
  A phase of the machine: the invariant, and how a step of a worker's keeps it.
-/
import Derived.Test.YtlcjepgmmbdkmaaMach
namespace Go.Proofs.Ytlcjepgmmbdkmaa.Ph
open Go.Conc Go.Proofs.Ytlcjepgmmbdkmaa.Auto Go.Proofs.Ytlcjepgmmbdkmaa.Trc
open Go.ConcN (sumTo upd upd_same upd_ne sumTo_upd le_sumTo sumTo_congr RelBy get_map_set get_map_set_same)
open Go.ConcR (KK wgBlock WgAt stA smA rd wr mk g_of_ofEvents ofEvent_mk ofEvent_loc_mark loc_of_ofEvent)
open Go.ConcM (OsLater)
set_option linter.unusedSimpArgs false
set_option linter.unusedVariables false

structure GeoOk (Γ : Geo) (W₀ : World) : Prop where
  c1 : 1 ≤ Γ.c
  mw : Γ.Mu ≠ Γ.Wg
  mc : Γ.Mu ≠ Γ.C
  wc : Γ.Wg ≠ Γ.C
  bM : W₀.heap.size ≤ Γ.Mu
  bW : W₀.heap.size ≤ Γ.Wg
  bC : W₀.heap.size ≤ Γ.C
  lM : Γ.Mu < Γ.Lw 0
  lW : Γ.Wg < Γ.Lw 0
  lC : Γ.C < Γ.Lw 0
  mono : ∀ i j, i ≤ j → Γ.Lw i ≤ Γ.Lw j
  low : W₀.heap.size ≤ Γ.Lw 0
  ap : Apart Γ.Sh Γ.Own Γ.Rd

/-- More than there ever are. -/
def KK_ (Γ : Geo) : Nat := Γ.c + Γ.n + 2
def MM (Γ : Geo) : Nat := 200 * (Γ.c + Γ.n + 2) + 401

section
variable (Γ : Geo) (P : Program) (Fin : Goroutine → World → Prop)
structure Cx (W₀ : World) (ts : List Th) (a : Sr) (S : St) (gs : Array Goroutine) (w : World) (t : Trace) (κ φ : Nat → Nat) (κ0 φ0 : Nat) : Prop where
  size : gs.size = ts.length + 1
  len : ts.length = Γ.c - 1 + (Γ.n - a.r)
  ar : a.r ≤ Γ.n
  gi : GInv ts a S
  bd : cnt pdN ts + a.r ≤ Γ.n
  sh : ShAt Γ w S
  pay : Pay Γ w
  out : Out W₀ w
  grow : W₀.heap.size ≤ w.heap.size
  old : ∀ b, b < W₀.heap.size → w.heap[b]? = W₀.heap[b]?
  oldq : ∀ (p : Nat) T, ts[p]? = some T → p + 1 < Γ.c → T.pc = .quit
  wk : ∀ (p : Nat) T, ts[p]? = some T → ∃ g, gs[p + 1]? = some g ∧ WSit Γ P (KK_ Γ) (p + 1 - Γ.c) (κ p) T (φ p) (Deaf t (p + 1)) S g w
  st : ∃ g, gs[0]? = some g ∧ SSit Γ P Fin (KK_ Γ) κ0 a φ0 (Deaf t 0) S g w
  dat : ∀ (p : Nat) T, ts[p]? = some T → Γ.c ≤ p + 1 → didT T = true → Has Γ (p + 1 - Γ.c) (Γ.val (p + 1 - Γ.c)) w
  ft : FT Γ.Sh Γ.Own Γ.Rd Γ.c Γ.B t ts.length
  above : ∀ k, gs.size ≤ k → Deaf t k = 0
  rel : ∀ (p : Nat) T, ts[p]? = some T → Γ.c ≤ p + 1 → muteT T = true → ∃ r, RelBy (stA Γ.Wg) t (p + 1) r
  norel : NoRelease (stA Γ.Wg) t
  acq : a.pc = .fin → ∃ q, t.act? q = some (.mark (.acquire (stA Γ.Wg))) ∧ t.g? q = some 0 ∧ t.heard q ∧ ∀ p, Γ.c ≤ p + 1 → p < ts.length → ∃ r, RelBy (stA Γ.Wg) t (p + 1) r ∧ r < q
  rkw : ∀ (p : Nat) T, ts[p]? = some T → T.pc ≠ .quit → rank (MM Γ) ts a S ≤ κ p
  rks : rank (MM Γ) ts a S ≤ κ0
end

section
variable {Γ : Geo} {P : Program} {Fin : Goroutine → World → Prop} {W₀ : World} {ts : List Th} {a : Sr} {S S' : St} {gs : Array Goroutine} {w w' : World} {t : Trace} {κ φ : Nat → Nat} {κ0 φ0 : Nat} {sl : Option (Nat × Nat)}

theorem others_up {j p : Nat} {φ φ' : Nat → Nat} {y : Nat} (hp : p < j) (h : ∀ i, i < j → i ≠ p → φ' i ≤ φ i + 1) (hy : φ' p = y) : sumTo j φ' + φ p ≤ sumTo j φ + y + (j - 1) := by
  induction j with
  | zero => omega
  | succ j ih =>
    simp only [sumTo]
    by_cases e : p = j
    · subst e
      have : ∀ k, k ≤ p → sumTo k φ' ≤ sumTo k φ + k := by
        intro k hk
        induction k with
        | zero => simp [sumTo]
        | succ k ihk =>
          have h1 := ihk (by omega)
          have h2 := h k (by omega) (by omega)
          simp only [sumTo]; omega
      have := this p (Nat.le_refl _)
      omega
    · have h1 := ih (by omega) (fun i hi hne => h i (by omega) hne)
      have h2 := h j (by omega) (fun e' => e e'.symm)
      omega
theorem others_up0 {j : Nat} {φ φ' : Nat → Nat} (h : ∀ i, i < j → φ' i ≤ φ i + 1) : sumTo j φ' ≤ sumTo j φ + j := by
  induction j with
  | zero => simp [sumTo]
  | succ j ih =>
    have h1 := ih (fun i hi => h i (by omega))
    have h2 := h j (by omega)
    simp only [sumTo]; omega

theorem relby_other {k r g : Nat} {fn : FuncId} {pos : String} {es : Array Event} {x : Addr} (h : RelBy x t k r) (hg : g ≠ k) : RelBy x (t ++ MemOp.ofEvents g fn pos es) k r :=
  h.appOther (fun op hop => by obtain ⟨e, _, rfl⟩ := Go.Conc.mem_ofEvents hop; rfl) hg
theorem deaf_other {k g : Nat} {fn : FuncId} {pos : String} {es : Array Event} (hg : g ≠ k) : Deaf (t ++ MemOp.ofEvents g fn pos es) k = Deaf t k :=
  Deaf_other t hg _ (fun op hop => by obtain ⟨e, _, rfl⟩ := Go.Conc.mem_ofEvents hop; rfl)

/-- ████ A WORKER GOES: whatever step. ████ -/
theorem Cx.wgo (h : Cx Γ P Fin W₀ ts a S gs w t κ φ κ0 φ0) {p : Nat} {T T' : Th} {g g' : Goroutine} {es : Array Event} {κ' y : Nat}
    (hT : ts[p]? = some T) (hg : gs[p + 1]? = some g) (hs : stepG P false g w = .go g' w' es)
    (hgi : GInv (ts.set p T') a S') (hbd : cnt pdN (ts.set p T') ≤ cnt pdN ts) (hsh : ShAt Γ w' S') (hpay : Pay Γ w') (hout : Out w w') (hsz : w'.heap.size = w.heap.size) (hold : ∀ b, b < W₀.heap.size → w'.heap[b]? = w.heap[b]?)
    (hq : T.pc = .quit → T'.pc = .quit) (hsit : WSit Γ P (KK_ Γ) (p + 1 - Γ.c) κ' T' y (deafBehind (Deaf t (p + 1)) es) S' g' w')
    (hrw : ∀ i, i ≠ p + 1 - Γ.c → RW Γ i w w') (hrw0 : Γ.c ≤ p + 1 ∨ ∀ i, RW Γ i w w') (hrs : RS Γ w w') (hms : S.s.ms = 0 → S'.s.ms = 0 ∨ (mayWake P g = true ∧ g'.status = .running)) (hws : S.ws = 0 → S'.ws = 0 ∨ (mayWake P g = true ∧ g'.status = .running))
    (hdat : Γ.c ≤ p + 1 → didT T' = true → Has Γ (p + 1 - Γ.c) (Γ.val (p + 1 - Γ.c)) w') (hft : FT Γ.Sh Γ.Own Γ.Rd Γ.c Γ.B (t ++ MemOp.ofEvents (p + 1) g.frame.fn g.frame.place es) ts.length) (hnr : ∀ e ∈ es, e.loc ≠ .mark (.release (stA Γ.Wg)))
    (hrel : Γ.c ≤ p + 1 → muteT T' = true → ∃ r, RelBy (stA Γ.Wg) (t ++ MemOp.ofEvents (p + 1) g.frame.fn g.frame.place es) (p + 1) r)
    (hkeep : a.pc = .fin → ∀ r, RelBy (stA Γ.Wg) t (p + 1) r → RelBy (stA Γ.Wg) (t ++ MemOp.ofEvents (p + 1) g.frame.fn g.frame.place es) (p + 1) r)
    (hrk : rank (MM Γ) (ts.set p T') a S' ≤ rank (MM Γ) ts a S) (hrk' : T'.pc ≠ .quit → rank (MM Γ) (ts.set p T') a S' ≤ κ')
    (hlt : rank (MM Γ) (ts.set p T') a S' < rank (MM Γ) ts a S ∨ y + KK_ Γ ≤ φ p) :
    ∃ gs' φ' φ0', runT P (crowd gs w sl) (p + 1) = (.next (crowd gs' w' sl), MemOp.ofEvents (p + 1) g.frame.fn g.frame.place es) ∧
      Cx Γ P Fin W₀ (ts.set p T') a S' gs' w' (t ++ MemOp.ofEvents (p + 1) g.frame.fn g.frame.place es) (upd κ p κ') φ' κ0 φ0' ∧
      (rank (MM Γ) (ts.set p T') a S' < rank (MM Γ) ts a S ∨ (rank (MM Γ) (ts.set p T') a S' = rank (MM Γ) ts a S ∧ φ0' + sumTo ts.length φ' < φ0 + sumTo ts.length φ)) := by
  have hpl : p < ts.length := (List.getElem?_eq_some_iff.1 hT).1
  have hpg : p + 1 < gs.size := by rw [h.size]; omega
  have hrun := runT_crowd_go (P := P) (sl := sl) (i := p + 1) hg (by simpa using hs)
  -- the others
  have hoth : ∀ q X, ts[q]? = some X → q ≠ p → ∃ φq, φq ≤ φ q + 1 ∧ ∃ gq, gs[q + 1]? = some gq ∧ WSit Γ P (KK_ Γ) (q + 1 - Γ.c) (κ q) X φq (Deaf (t ++ MemOp.ofEvents (p + 1) g.frame.fn g.frame.place es) (q + 1)) S' (woken P g g' w' gq) w' := by
    intro q X hX hne
    obtain ⟨gq, hgq, hsq⟩ := h.wk q X hX
    rw [deaf_other (t := t) (k := q + 1) (g := p + 1) (by omega)]
    rcases Nat.lt_or_ge (q + 1) Γ.c with hlt' | hge
    · -- an old leaver
      have hXq := h.oldq q X hX hlt'
      rcases hsq with ⟨h1, _⟩ | ⟨h1, _⟩ | ⟨h1, k, h2, h3⟩
      · exact absurd hXq h1
      · rw [hXq] at h1; cases h1
      · exact ⟨φ q, by omega, gq, hgq, .inr (.inr ⟨h1, k, h2, by rw [woken_quitsD h3]; exact h3⟩)⟩
    · have r : RW Γ (q + 1 - Γ.c) w w' := by
        rcases hrw0 with h0 | h0
        · exact hrw _ (by omega)
        · exact h0 _
      obtain ⟨φq, hφ, hw⟩ := hsq.other r hms (x := g) (x' := g')
      exact ⟨φq, hφ, gq, hgq, hw⟩
  obtain ⟨g0, hg0, hs0⟩ := h.st
  obtain ⟨φ0', hφ0, hs0'⟩ := hs0.other hrs hws (x := g) (x' := g')
  -- choose the others' measures
  have hch : ∀ q, ∃ φq, (q ≠ p → φq ≤ φ q + 1) ∧ (q = p → φq = y) ∧ ∀ X, ts[q]? = some X → q ≠ p → ∃ gq, gs[q + 1]? = some gq ∧ WSit Γ P (KK_ Γ) (q + 1 - Γ.c) (κ q) X φq (Deaf (t ++ MemOp.ofEvents (p + 1) g.frame.fn g.frame.place es) (q + 1)) S' (woken P g g' w' gq) w' := by
    intro q
    by_cases e : q = p
    · exact ⟨y, fun x => absurd e x, fun _ => rfl, fun _ _ x => absurd e x⟩
    · cases hX : ts[q]? with
      | none => exact ⟨φ q, fun _ => by omega, fun x => absurd x e, fun X hX' => by cases hX'⟩
      | some X =>
        obtain ⟨φq, h1, h2⟩ := hoth q X hX e
        exact ⟨φq, fun _ => h1, fun x => absurd x e, fun X' hX' _ => by cases hX'; exact h2⟩
  obtain ⟨φ', hφ'⟩ := Classical.axiomOfChoice hch
  have hsum := others_up (j := ts.length) (p := p) (φ := φ) (φ' := φ') hpl (fun q _ hne => (hφ' q).1 hne) ((hφ' p).2.1 rfl)
  have hlen := h.len
  have har := h.ar
  refine ⟨_, φ', φ0', hrun, ⟨by simp [h.size], by simp [h.len], h.ar, hgi, by have := h.bd; omega, hsh, hpay, ⟨hout.tape.trans h.out.tape, hout.output.trans h.out.output, h.out.os.trans hout.os⟩, by rw [hsz]; exact h.grow, fun b hb => (hold b hb).trans (h.old b hb), fun q X hX hlt' => ?_, fun q X hX => ?_, ?_, fun q X hX hge hd => ?_, by simpa using hft, fun k hk => ?_, fun q X hX hge hm => ?_, h.norel.app fun op hop e => ?_, fun ha => ?_, fun q X hX hnq => ?_, Nat.le_trans hrk h.rks⟩, ?_⟩
  · by_cases e : q = p
    · subst e
      rw [List.getElem?_set_self hpl] at hX
      cases hX
      exact hq (h.oldq q T hT hlt')
    · rw [List.getElem?_set_ne (Ne.symm e)] at hX
      exact h.oldq q X hX hlt'
  · by_cases e : q = p
    · subst e
      rw [List.getElem?_set_self hpl] at hX
      cases hX
      refine ⟨g', get_map_set_same _ _ _ hpg, ?_⟩
      rw [upd_same, (hφ' q).2.1 rfl, Deaf_own]
      exact hsit
    · rw [List.getElem?_set_ne (Ne.symm e)] at hX
      obtain ⟨gq, hgq, hw⟩ := (hφ' q).2.2 X hX e
      refine ⟨woken P g g' w' gq, by rw [get_map_set _ _ _ _ (by omega), hgq]; rfl, ?_⟩
      rw [upd_ne κ κ' e]
      exact hw
  · refine ⟨woken P g g' w' g0, by rw [get_map_set _ _ _ _ (by omega), hg0]; rfl, ?_⟩
    rw [deaf_other (t := t) (k := 0) (g := p + 1) (by omega)]
    exact hs0'
  · by_cases e : q = p
    · subst e
      rw [List.getElem?_set_self hpl] at hX
      cases hX
      exact hdat hge hd
    · rw [List.getElem?_set_ne (Ne.symm e)] at hX
      have h1 := h.dat q X hX hge hd
      have r : RW Γ (q + 1 - Γ.c) w w' := by
        rcases hrw0 with h0 | h0
        · exact hrw _ (by omega)
        · exact h0 _
      exact r.cell.trans h1
  · rw [deaf_other (t := t) (k := k) (g := p + 1) (by simp at hk; omega)]
    exact h.above k (by simpa using hk)
  · by_cases e : q = p
    · subst e
      rw [List.getElem?_set_self hpl] at hX
      cases hX
      exact hrel hge hm
    · rw [List.getElem?_set_ne (Ne.symm e)] at hX
      obtain ⟨r, hr⟩ := h.rel q X hX hge hm
      exact ⟨r, relby_other hr (by omega)⟩
  · obtain ⟨x, hx, rfl⟩ := Go.Conc.mem_ofEvents hop
    exact hnr x hx (loc_of_ofEvent e)
  · obtain ⟨q, h1, h2, h3, h4⟩ := h.acq ha
    have hql := lt_of_act? h1
    refine ⟨q, by rw [act?_old hql]; exact h1, by rw [g?_old hql]; exact h2, (heard_old hql).2 h3, fun p' hc' hp' => ?_⟩
    obtain ⟨r, hr, hrq⟩ := h4 p' hc' (by simpa using hp')
    by_cases e : p' = p
    · subst e; exact ⟨r, hkeep ha r hr, hrq⟩
    · exact ⟨r, relby_other hr (by omega), hrq⟩
  · by_cases e : q = p
    · subst e
      rw [List.getElem?_set_self hpl] at hX
      cases hX
      rw [upd_same]
      exact hrk' hnq
    · rw [List.getElem?_set_ne (Ne.symm e)] at hX
      rw [upd_ne κ κ' e]
      exact Nat.le_trans hrk (h.rkw q X hX hnq)
  · rcases hlt with hl | hl
    · exact .inl hl
    · rcases Nat.lt_or_ge (rank (MM Γ) (ts.set p T') a S') (rank (MM Γ) ts a S) with h1 | h1
      · exact .inl h1
      · refine .inr ⟨by omega, ?_⟩
        have : KK_ Γ = Γ.c + Γ.n + 2 := rfl
        omega
end

end Go.Proofs.Ytlcjepgmmbdkmaa.Ph
