/-
  A phase of the machine: the starter's steps; the run to its end; a frame again.
-/
import Derived.Test.YtlcjepgmmbdkmaaMachS
namespace Go.Proofs.Ytlcjepgmmbdkmaa.Ph
open Go.Conc Go.Proofs.Ytlcjepgmmbdkmaa.Auto Go.Proofs.Ytlcjepgmmbdkmaa.Trc
open Go.ConcN (sumTo upd upd_same upd_ne sumTo_upd le_sumTo sumTo_congr RelBy get_map_set get_map_set_same)
open Go.ConcR (KK wgBlock WgAt stA smA rd wr mk g_of_ofEvents ofEvent_mk ofEvent_loc_mark loc_of_ofEvent)
open Go.ConcM (OsLater)
set_option linter.unusedSimpArgs false
set_option linter.unusedVariables false

theorem smv_facts {a a' : Sr} {S S' : St} (h : SMv a S a' S') : a'.r = a.r ∧ S'.s = S.s ∧ (S.ws = 0 → S'.ws = 0) ∧ a.pc ≠ .fin ∧ a.pc ≠ .go ∧ (a'.pc = .fin → a.pc = .aq) := by
  cases h <;> refine ⟨rfl, rfl, fun x => ?_, by rw [‹a.pc = _›]; simp, by rw [‹a.pc = _›]; simp, fun x => ?_⟩ <;> simp_all

section
variable {Γ : Geo} {P : Program} {Fin : Goroutine → World → Prop} {W₀ : World} {ts : List Th} {a a' : Sr} {S S' : St} {gs : Array Goroutine} {w w' : World} {t : Trace} {κ φ : Nat → Nat} {κ0 φ0 : Nat} {sl : Option (Nat × Nat)}

theorem safeS_of (gi : GInv ts a S) (bd : cnt pdN ts + a.r ≤ Γ.n) : SafeS Γ a S := by
  have hv := gi.v
  have hr := gi.r
  have he := gi.early
  have hm := gi.mid
  have hl := gi.late
  have hal : (a.pc = .kd ∨ a.pc = .ad ∨ a.pc = .ke ∨ a.pc = .go ∨ a.pc = .xd ∨ a.pc = .w1 ∨ a.pc = .w2) ∨ a.pc = .w3 ∨ (a.pc = .w4 ∨ a.pc = .xe ∨ a.pc = .aq ∨ a.pc = .fin) := by cases a.pc <;> simp
  have hb : (if a.pc = .ke ∨ a.pc = .go then 1 else 0) ≤ a.r := by
    split
    · exact hr (by rename_i h; rcases h with h | h <;> simp [h])
    · omega
  refine ⟨?_, fun h1 => ?_, fun h1 => ?_, fun h1 h2 => ?_, fun h1 => ?_⟩
  · generalize (if a.pc = .ke ∨ a.pc = .go then 1 else 0) = b at hv hb
    rcases hal with h | h | h
    · have := he h; omega
    · have := hm h; omega
    · have := hl h; omega
  · have := he (by rcases h1 with h | h | h <;> simp [h]); omega
  · have := hr (by simp [h1])
    simp [h1] at hv
    omega
  · have := hm h1; omega
  · have := hl (by simp [h1]); omega

theorem EfS.rw (G : GeoOk Γ W₀) {i j : Nat} (h : EfS Γ j w w') (hi : i < j) : RW Γ i w w' := by
  have h0 := G.mono 0 j (Nat.zero_le _)
  have hM := h.low Γ.Mu (by have := G.lM; omega)
  have hW := h.low Γ.Wg (by have := G.lW; omega)
  have hC := h.low Γ.C (by have := G.lC; omega)
  exact ⟨h.size, fun b hb _ _ _ => h.low b (Nat.lt_of_lt_of_le hb (G.mono _ _ (by omega))), fun ⟨S, hS⟩ => ⟨S, hS.of_blocks hM hW⟩, fun hp => hp.of_block hC, World.cell?_of_block (a := ⟨Γ.C, i, none⟩) hC⟩
theorem ok0_of {j : Nat} {fn : FuncId} {pos : String} {es : Array Event} (h : ∀ e ∈ es, Ev0 Γ j e) : ∀ op ∈ MemOp.ofEvents 0 fn pos es, Ok0 Γ.Sh Γ.Own Γ.Rd Γ.c Γ.B j op := by
  intro op hop
  obtain ⟨e, he, rfl⟩ := Go.Conc.mem_ofEvents hop
  exact (h e he).1 fn pos

/-- ████ THE STARTER GOES. ████ -/
theorem Cx.sgo (G : GeoOk Γ W₀) (h : Cx Γ P Fin W₀ ts a S gs w t κ φ κ0 φ0) {g g' : Goroutine} {es : Array Event} {κ' y : Nat}
    (hg : gs[0]? = some g) (hs : stepG P true g w = .go g' w' es) (hr : a'.r = a.r) (hgi : GInv ts a' S') (hsh : ShAt Γ w' S') (hpay : Pay Γ w') (hout : Out w w') (hsz : w.heap.size ≤ w'.heap.size) (hold : ∀ b, b < W₀.heap.size → w'.heap[b]? = w.heap[b]?)
    (hsit : SSit Γ P Fin (KK_ Γ) κ' a' y (deafBehind (Deaf t 0) es) S' g' w') (hrw : ∀ i, i < Γ.n - a.r → RW Γ i w w') (hms : S.s.ms = 0 → S'.s.ms = 0)
    (hes : ∀ e ∈ es, Ev0 Γ (Γ.c - 1 + (Γ.n - a.r)) e)
    (hacq : a'.pc = .fin → a.pc = .fin ∨ a.pc = .aq ∧ es = #[Go.ConcR.mk (.acquire (stA Γ.Wg))] ∧ Deaf t 0 = 0)
    (hrk : rank (MM Γ) ts a' S' ≤ rank (MM Γ) ts a S) (hrk' : rank (MM Γ) ts a' S' ≤ κ')
    (hlt : rank (MM Γ) ts a' S' < rank (MM Γ) ts a S ∨ y + KK_ Γ ≤ φ0) :
    ∃ m₁ ops μ', runT P (crowd gs w sl) 0 = (.next m₁, ops) ∧ Lt2' μ' (meas Γ ts a S φ φ0) ∧ PInv Γ P Fin W₀ μ' m₁ (t ++ ops) := by
  have hc1 := G.c1
  have hpg : 0 < gs.size := by rw [h.size]; omega
  have hrun := runT_crowd_go (P := P) (sl := sl) (i := 0) hg (by simpa using hs)
  have hoth : ∀ q X, ts[q]? = some X → ∃ φq, φq ≤ φ q + 1 ∧ ∃ gq, gs[q + 1]? = some gq ∧ WSit Γ P (KK_ Γ) (q + 1 - Γ.c) (κ q) X φq (Deaf (t ++ MemOp.ofEvents 0 g.frame.fn g.frame.place es) (q + 1)) S' (woken P g g' w' gq) w' := by
    intro q X hX
    have hql : q < ts.length := (List.getElem?_eq_some_iff.1 hX).1
    obtain ⟨gq, hgq, hsq⟩ := h.wk q X hX
    rw [deaf_other (t := t) (k := q + 1) (g := 0) (by omega)]
    rcases Nat.lt_or_ge (q + 1) Γ.c with hlt' | hge
    · have hXq := h.oldq q X hX hlt'
      rcases hsq with ⟨h1, _⟩ | ⟨h1, _⟩ | ⟨h1, k, h2, h3⟩
      · exact absurd hXq h1
      · rw [hXq] at h1; cases h1
      · exact ⟨φ q, by omega, gq, hgq, .inr (.inr ⟨h1, k, h2, by rw [woken_quitsD h3]; exact h3⟩)⟩
    · have hlen := h.len
      obtain ⟨φq, hφ, hw⟩ := hsq.other (hrw _ (by omega)) (fun e => .inl (hms e)) (x := g) (x' := g')
      exact ⟨φq, hφ, gq, hgq, hw⟩
  have hch : ∀ q, ∃ φq, φq ≤ φ q + 1 ∧ ∀ X, ts[q]? = some X → ∃ gq, gs[q + 1]? = some gq ∧ WSit Γ P (KK_ Γ) (q + 1 - Γ.c) (κ q) X φq (Deaf (t ++ MemOp.ofEvents 0 g.frame.fn g.frame.place es) (q + 1)) S' (woken P g g' w' gq) w' := by
    intro q
    cases hX : ts[q]? with
    | none => exact ⟨φ q, by omega, fun X hX' => by cases hX'⟩
    | some X =>
      obtain ⟨φq, h1, h2⟩ := hoth q X hX
      exact ⟨φq, h1, fun X' hX' => by cases hX'; exact h2⟩
  obtain ⟨φ', hφ'⟩ := Classical.axiomOfChoice hch
  have hsum := others_up0 (j := ts.length) (φ := φ) (φ' := φ') (fun q _ => (hφ' q).1)
  have hlen := h.len
  have har := h.ar
  refine ⟨_, _, meas Γ ts a' S' φ' y, hrun, ?_, ts, a', S', _, w', κ, φ', κ', y, sl, rfl, ⟨by simp [h.size], by rw [hr]; exact h.len, by rw [hr]; exact h.ar, hgi, by rw [hr]; exact h.bd, hsh, hpay, ⟨hout.tape.trans h.out.tape, hout.output.trans h.out.output, h.out.os.trans hout.os⟩, Nat.le_trans h.grow hsz, fun b hb => (hold b hb).trans (h.old b hb), h.oldq, fun q X hX => ?_, ?_, fun q X hX hge hd => ?_, ?_, fun k hk => ?_, fun q X hX hge hm => ?_, h.norel.app fun op hop e => ?_, fun ha => ?_, fun q X hX hnq => Nat.le_trans hrk (h.rkw q X hX hnq), hrk'⟩, rfl⟩
  · refine lex_of rfl ?_
    rcases hlt with hl | hl
    · exact .inl hl
    · rcases Nat.lt_or_ge (rank (MM Γ) ts a' S') (rank (MM Γ) ts a S) with h1 | h1
      · exact .inl h1
      · refine .inr ⟨by omega, ?_⟩
        have : KK_ Γ = Γ.c + Γ.n + 2 := rfl
        omega
  · obtain ⟨gq, hgq, hw⟩ := (hφ' q).2 X hX
    exact ⟨woken P g g' w' gq, by rw [get_map_set _ _ _ _ (by omega), hgq]; rfl, hw⟩
  · refine ⟨g', get_map_set_same _ _ _ hpg, ?_⟩
    rw [Deaf_own]
    exact hsit
  · have h1 := h.dat q X hX hge hd
    have hql : q < ts.length := (List.getElem?_eq_some_iff.1 hX).1
    exact (hrw _ (by omega)).cell.trans h1
  · refine h.ft.app0 G.ap G.c1 ?_
    rw [hlen]
    exact ok0_of hes
  · rw [deaf_other (t := t) (k := k) (g := 0) (by simp at hk; omega)]
    exact h.above k (by simpa using hk)
  · obtain ⟨r, hr'⟩ := h.rel q X hX hge hm
    exact ⟨r, relby_other hr' (by omega)⟩
  · obtain ⟨x, hx, rfl⟩ := Go.Conc.mem_ofEvents hop
    exact (hes x hx).2 (loc_of_ofEvent e)
  · rcases hacq ha with ha1 | ⟨ha1, he, hd0⟩
    · obtain ⟨q, h1, h2, h3, h4⟩ := h.acq ha1
      have hql := lt_of_act? h1
      refine ⟨q, by rw [act?_old hql]; exact h1, by rw [g?_old hql]; exact h2, (heard_old hql).2 h3, fun p' hc' hp' => ?_⟩
      obtain ⟨r, hr', hrq⟩ := h4 p' hc' hp'
      exact ⟨r, relby_other hr' (by omega), hrq⟩
    subst he
    have e1 : MemOp.ofEvents 0 g.frame.fn g.frame.place #[Go.ConcR.mk (.acquire (stA Γ.Wg))] = #[{ g := 0, fn := g.frame.fn, pos := g.frame.place, act := .mark (.acquire (stA Γ.Wg)) }] := by rw [ofEvents_eq]; simp [ofEvent_mk]
    have hy : (t ++ MemOp.ofEvents 0 g.frame.fn g.frame.place #[Go.ConcR.mk (.acquire (stA Γ.Wg))])[t.size]? = some { g := 0, fn := g.frame.fn, pos := g.frame.place, act := .mark (.acquire (stA Γ.Wg)) } := by rw [e1]; simp
    refine ⟨t.size, by rw [act?_of hy], by simp [Trace.g?, hy], ⟨0, by simp [Trace.g?, hy], by rw [deaf_old (Nat.le_refl _)]; exact hd0⟩, fun p hc hp => ?_⟩
    obtain ⟨X, hX⟩ : ∃ X, ts[p]? = some X := ⟨_, List.getElem?_eq_getElem hp⟩
    have hq := fin_quit h.gi (by simp [ha1]) hX
    obtain ⟨r, hr'⟩ := h.rel p X hX hc (by simp [muteT, hq])
    exact ⟨r, relby_other hr' (by omega), lt_of_act? hr'.act⟩

/-- It blocks at the group's semaphore. -/
theorem Cx.sblk (h : Cx Γ P Fin W₀ ts a S gs w t κ φ κ0 φ0) {g : Goroutine} (hg : gs[0]? = some g) (hs : stepG P true g w = .go { g with status := .blocked } w #[])
    (hp1 : a.pc = .w3) (hp2 : S.ws = 0) (hd : Deaf t 0 = deafS a) (hgo : GoS Γ P Fin κ0 a 0 g w) (hφ : 0 < φ0) :
    ∃ m₁ ops μ', runT P (crowd gs w sl) 0 = (.next m₁, ops) ∧ Lt2' μ' (meas Γ ts a S φ φ0) ∧ PInv Γ P Fin W₀ μ' m₁ (t ++ ops) := by
  have hpg : 0 < gs.size := by rw [h.size]; omega
  have hrun := runT_crowd_go (P := P) (sl := sl) (i := 0) hg (by simpa using hs)
  rw [map_blocked rfl, ofEvents_nil] at hrun
  refine ⟨_, _, meas Γ ts a S φ 0, hrun, lex_of rfl (.inr ⟨rfl, by omega⟩), ts, a, S, _, w, κ, φ, κ0, 0, sl, rfl, ?_, rfl⟩
  rw [Array.append_empty]
  refine ⟨by simp [h.size], h.len, h.ar, h.gi, h.bd, h.sh, h.pay, h.out, h.grow, h.old, h.oldq, fun q X hX => ?_, ?_, h.dat, h.ft, fun k hk => h.above k (by simpa using hk), h.rel, h.norel, h.acq, h.rkw, h.rks⟩
  · obtain ⟨gq, hgq, hw⟩ := h.wk q X hX
    exact ⟨gq, by rw [Array.getElem?_setIfInBounds_ne (by omega)]; exact hgq, hw⟩
  · exact ⟨_, by rw [Array.getElem?_setIfInBounds_self_of_lt hpg], .inr ⟨hp1, hp2, hd, rfl, g, rfl, hgo⟩⟩

theorem relby_still {u : Trace} {k r : Nat} {x : Addr} (h : RelBy x t k r) (hu : ∀ op ∈ u, op.act.touch? = none) : RelBy x (t ++ u) k r :=
  h.app fun i hi _ hc => by
    obtain ⟨y, hy, _⟩ := hc
    obtain ⟨op, hop, hoy⟩ := touch_of hy
    rcases getElem?_append_cases hop with ⟨hlt, _⟩ | ⟨_, hou⟩
    · omega
    · rw [hu op hou] at hoy; cases hoy

/-- ████ A go STATEMENT. ████ -/
theorem Cx.sfork (G : GeoOk Γ W₀) (h : Cx Γ P Fin W₀ ts a S gs w t κ φ κ0 φ0) {g g' child : Goroutine} (hg : gs[0]? = some g) (hpc : a.pc = .go) (hs : stepG P true g w = .spawn g' child w #[])
    (hch : ∀ d, ∃ m, Goes P false (RW Γ (Γ.n - a.r)) (DW Γ (Γ.n - a.r) (at_ .ld)) (WAt Γ P (Γ.n - a.r) d (at_ .ld)) m child w) {m0 : Nat}
    (hgo : Goes P true (RS Γ) (DS Γ (Γ.n - a.next.r)) (SAt Γ P Fin κ0 a.next) m0 g' w) (hd0 : Deaf t 0 = 0) :
    ∃ m₁ ops μ', runT P (crowd gs w sl) 0 = (.next m₁, ops) ∧ Lt2' μ' (meas Γ ts a S φ φ0) ∧ PInv Γ P Fin W₀ μ' m₁ (t ++ ops) := by
  have hc1 := G.c1
  have hpg : 0 < gs.size := by rw [h.size]; omega
  have hsize := h.size
  have hlen := h.len
  have har := h.ar
  have hr0 : 0 < a.r := h.gi.r (by simp [hpc])
  have hnr : a.next.r = a.r - 1 := by unfold Sr.next; split <;> (simp; try omega)
  have hrun := runT_crowd_spawn (P := P) (sl := sl) (i := 0) hg (by simpa using hs)
  obtain ⟨x, hx⟩ : ∃ x : MemOp, x = { g := 0, fn := g.frame.fn, pos := g.frame.place, act := .go gs.size } := ⟨_, rfl⟩
  obtain ⟨y, hy⟩ : ∃ y : MemOp, y = { g := gs.size, fn := child.frame.fn, pos := g.frame.place, act := .start } := ⟨_, rfl⟩
  have eops : ((MemOp.ofEvents 0 g.frame.fn g.frame.place #[]).push x).push y = #[x, y] := by rw [ofEvents_nil]; simp
  rw [← hx, ← hy, eops] at hrun
  have hnt : ∀ op ∈ #[x, y], op.act.touch? = none := by
    intro op hop
    simp only [List.mem_toArray, List.mem_cons, List.not_mem_nil, or_false] at hop
    rcases hop with rfl | rfl
    · rw [hx]; rfl
    · rw [hy]; rfl
  have hdf : ∀ k, Deaf (t ++ #[x, y]) k = Deaf t k := fun k => Go.ConcN.Deaf_still t k _ (by
    intro op hop
    simp only [List.mem_toArray, List.mem_cons, List.not_mem_nil, or_false] at hop
    rcases hop with rfl | rfl
    · rw [hx]; simp
    · rw [hy]; simp)
  have hrk := rank_fork (M := MM Γ) (ts := ts) (S := S) (by unfold MM; omega) hpc hr0
  obtain ⟨mc, hmc⟩ := hch (rank (MM Γ) ts a S + 1)
  have hκ := h.rks
  obtain ⟨k0, hk0⟩ : ∃ k, κ0 = k + 1 := ⟨κ0 - 1, by omega⟩
  rw [hk0] at hgo
  refine ⟨_, _, meas Γ (ts ++ [at_ .ld]) a.next S (upd φ ts.length (KK_ Γ * mc + 1)) (KK_ Γ * m0 + 1), hrun, Prod.Lex.left _ _ hrk, ts ++ [at_ .ld], a.next, S, _, w, upd κ ts.length (rank (MM Γ) ts a S), upd φ ts.length (KK_ Γ * mc + 1), k0, KK_ Γ * m0 + 1, sl, rfl, ?_, rfl⟩
  have hgx : ∀ (q : Nat) X, (ts ++ [at_ .ld])[q]? = some X → (ts[q]? = some X ∧ q < ts.length) ∨ (q = ts.length ∧ X = at_ .ld) := by
    intro q X hX
    rcases Nat.lt_or_ge q ts.length with h1 | h1
    · rw [List.getElem?_append_left h1] at hX; exact .inl ⟨hX, h1⟩
    · rw [List.getElem?_append_right h1] at hX
      have : q - ts.length = 0 := by
        rcases Nat.eq_zero_or_pos (q - ts.length) with h2 | h2
        · exact h2
        · rw [List.getElem?_eq_none (by simp; omega)] at hX; cases hX
      rw [this] at hX
      simp at hX
      exact .inr ⟨by omega, hX.symm⟩
  refine ⟨by simp [hsize], by rw [hnr]; simp; omega, by omega, h.gi.fork hpc, ?_, h.sh, h.pay, h.out, h.grow, h.old, fun q X hX hlt => ?_, fun q X hX => ?_, ?_, fun q X hX hge hd => ?_, ?_, fun k hk => ?_, fun q X hX hge hm => ?_, h.norel.app fun op hop e => ?_, fun e => ?_, fun q X hX hnq => ?_, by omega⟩
  · have e : cnt pdN (ts ++ [at_ .ld]) = cnt pdN ts + 1 := cnt_push pdN ts _
    have := h.bd
    omega
  · rcases hgx q X hX with ⟨h1, _⟩ | ⟨h1, _⟩
    · exact h.oldq q X h1 hlt
    · omega
  · rcases hgx q X hX with ⟨h1, h2⟩ | ⟨h1, rfl⟩
    · obtain ⟨gq, hgq, hw⟩ := h.wk q X h1
      refine ⟨gq, ?_, ?_⟩
      · rw [Array.getElem?_push_lt (by simp; omega), ← Array.getElem?_eq_getElem]
        rw [Array.getElem?_setIfInBounds_ne (by omega)]
        exact hgq
      · rw [hdf, upd_ne κ _ (by omega), upd_ne φ _ (by omega)]
        exact hw
    · subst h1
      refine ⟨child, ?_, ?_⟩
      · rw [← hsize]
        have : gs.size = (gs.setIfInBounds 0 g').size := by simp
        rw [this, Array.getElem?_push_size]
      · rw [hdf, upd_same, upd_same]
        have e1 : ts.length + 1 - Γ.c = Γ.n - a.r := by omega
        rw [e1]
        refine .inl ⟨by simp, ?_, mc, rfl, hmc⟩
        rw [h.above _ (by omega)]
        rfl
  · refine ⟨g', ?_, .inl ⟨?_, m0, rfl, hgo⟩⟩
    · rw [Array.getElem?_push_lt (by simp; omega), ← Array.getElem?_eq_getElem, Array.getElem?_setIfInBounds_self_of_lt hpg]
    · rw [hdf, hd0]
      unfold Sr.next
      split <;> rfl
  · rcases hgx q X hX with ⟨h1, _⟩ | ⟨_, rfl⟩
    · exact h.dat q X h1 hge hd
    · cases hd
  · have := h.ft.fork G.ap (by omega) (x := x) (y := y) (by rw [hx, hsize]; exact ⟨rfl, rfl⟩) (by rw [hy, hsize]; exact ⟨rfl, rfl⟩) hd0 (h.above _ (by omega))
    simpa using this
  · rw [hdf]
    exact h.above k (by simp at hk; omega)
  · rcases hgx q X hX with ⟨h1, _⟩ | ⟨_, rfl⟩
    · obtain ⟨r, hr⟩ := h.rel q X h1 hge hm
      exact ⟨r, relby_still hr hnt⟩
    · cases hm
  · have := hop
    simp only [List.mem_toArray, List.mem_cons, List.not_mem_nil, or_false] at this
    rcases this with rfl | rfl
    · rw [hx] at e; cases e
    · rw [hy] at e; cases e
  · unfold Sr.next at e
    split at e <;> cases e
  · rcases hgx q X hX with ⟨h1, h2⟩ | ⟨h1, rfl⟩
    · rw [upd_ne κ _ (by omega)]
      exact Nat.le_trans (Nat.le_of_lt hrk) (h.rkw q X h1 hnq)
    · subst h1
      rw [upd_same]
      omega

/-- It stands at the end. -/
def Done (Γ : Geo) (P : Program) (Fin : Goroutine → World → Prop) (W₀ : World) (m : Machine) (t : Trace) : Prop :=
  ∃ (ts : List Th) (a : Sr) (S : St) (gs : Array Goroutine) (w : World) (κ φ : Nat → Nat) (κ0 φ0 : Nat) (sl : Option (Nat × Nat)) (g : Goroutine), m = crowd gs w sl ∧ Cx Γ P Fin W₀ ts a S gs w t κ φ κ0 φ0 ∧ a.pc = .fin ∧ gs[0]? = some g ∧ Fin g w

theorem run_size (h : Cx Γ P Fin W₀ ts a S gs w t κ φ κ0 φ0) : True := trivial
/-- ████ WHATEVER STEP OF THE STARTER's. ████ -/
theorem stepS (G : GeoOk Γ W₀) (h : Cx Γ P Fin W₀ ts a S gs w t κ φ κ0 φ0) {g : Goroutine} (hg : gs[0]? = some g) (hrun : g.status = .running) :
    (a.pc = .fin ∧ Fin g w) ∨ ∃ m₁ ops μ', runT P (crowd gs w sl) 0 = (.next m₁, ops) ∧ Lt2' μ' (meas Γ ts a S φ φ0) ∧ PInv Γ P Fin W₀ μ' m₁ (t ++ ops) := by
  obtain ⟨g', hg', hsit⟩ := h.st
  obtain rfl : g' = g := by rw [hg] at hg'; exact (Option.some.inj hg').symm
  have hc1 := G.c1
  have hlen := h.len
  rcases hsit with ⟨hd, m, hφ, hgo⟩ | ⟨_, _, _, _, g₀, e, _⟩
  · have hcases : SAt Γ P Fin (κ0 + 1) a g' w ∨ ∃ m', m = m' + 1 ∧ (stepG P true g' w).goes fun g'' w' es => DS Γ (Γ.n - a.r) w w' es ∧ GoS Γ P Fin κ0 a m' g'' w' := by
      cases m with
      | zero => exact .inl (hgo w (RS.refl _))
      | succ m' =>
        rcases hgo with h1 | ⟨_, h1⟩
        · exact .inl (h1 w (RS.refl _))
        · exact .inr ⟨m', rfl, h1 w (RS.refl _)⟩
    rcases hcases with hstop | ⟨m', rfl, hstep⟩
    · obtain ⟨_, hoff, hfin, hfork, hmain⟩ := hstop
      by_cases hp1 : a.pc = .fin
      · exact .inl ⟨hp1, hfin hp1⟩
      refine .inr ?_
      by_cases hp2 : a.pc = .go
      · obtain ⟨g'', child, hs, _, hch, m0, hm0⟩ := hfork hp2
        exact h.sfork G hg hp2 hs (hch h.pay ⟨S, h.sh⟩) hm0 (by rw [hd]; simp [deafS, hp2])
      obtain ⟨hblk, hmove⟩ := hmain hp1 hp2 S h.sh (safeS_of h.gi h.bd)
      by_cases hw : a.pc = .w3 ∧ S.ws = 0
      · have hgo0 : GoS Γ P Fin κ0 a 0 g' w := by
          intro w₁ hr
          cases m with
          | zero => exact hgo w₁ hr
          | succ m' =>
            rcases hgo with h1 | ⟨_, h1⟩
            · exact h1 w₁ hr
            · have := h1 w (RS.refl _)
              rw [hblk hw] at this
              exact absurd (Goes.running (fun _ _ x => x.1) w (RS.refl _) this.2) (by simp)
        exact h.sblk hg (hblk hw) hw.1 hw.2 hd hgo0 (by omega)
      · obtain ⟨a', S', g'', w', es, hmv, hs, hsh', heff, hev, m', hm'⟩ := hmove hw
        obtain ⟨f1, f2, f3, f4, f5, f6⟩ := smv_facts hmv
        have hrk := rank_starter (rank_bound h) hmv
        have hκ := h.rks
        obtain ⟨k, hk⟩ : ∃ k, κ0 = k + 1 := ⟨κ0 - 1, by omega⟩
        rw [hk] at hm'
        exact h.sgo G (κ' := k) (y := KK_ Γ * m' + 1) hg hs f1 (h.gi.starter hmv) hsh' (h.pay.of_block (heff.block _ (Ne.symm G.mc) (Ne.symm G.wc))) heff.out (Nat.le_of_eq heff.size.symm)
          (fun b hb => heff.block b (by have := G.bM; omega) (by have := G.bW; omega)) (.inl ⟨by rw [hd]; exact hev.2.1, m', rfl, hm'⟩) (fun i _ => heff.rw G hsh' i) (fun e => by rw [f2]; exact e) hev.1
          (fun e => .inr ⟨f6 e, hev.2.2 (f6 e), by rw [hd]; simp [deafS, f6 e]⟩) (Nat.le_of_lt hrk) (by omega) (.inl hrk)
    · refine .inr ?_
      cases hst : stepG P true g' w with
      | go g'' w' es =>
        rw [hst, goes_go] at hstep
        obtain ⟨⟨hef, hev⟩, hgo'⟩ := hstep
        have h0 := G.mono 0 (Γ.n - a.r) (Nat.zero_le _)
        have hM := hef.low Γ.Mu (by have := G.lM; omega)
        have hW := hef.low Γ.Wg (by have := G.lW; omega)
        have hC := hef.low Γ.C (by have := G.lC; omega)
        exact h.sgo G (a' := a) (S' := S) (κ' := κ0) (y := KK_ Γ * m' + 1) hg hst rfl h.gi (h.sh.of_blocks hM hW) (h.pay.of_block hC) hef.out hef.size (fun b hb => hef.low b (by have := G.low; omega))
            (.inl ⟨by rw [deafBehind_still (fun e he => (hev e he).2)]; exact hd, m', rfl, hgo'⟩) (fun i hi => hef.rw G hi) id (fun e he => (hev e he).1) (fun e => .inl e) (Nat.le_refl _) h.rks (.inr (by rw [hφ, Nat.mul_succ]; omega))
      | _ => rw [hst] at hstep; exact hstep.elim
  · rw [e] at hrun; cases hrun

theorem atd (i : Nat) (w : World) (d : Nat) : RW Γ i w (w.at d) := ⟨Nat.le_refl _, fun _ _ _ _ _ => rfl, id, id, rfl⟩
theorem rs_at (w : World) (d : Nat) : RS Γ w (w.at d) := ⟨rfl, fun _ _ _ _ => rfl, id, id⟩
theorem Cx.at_ (h : Cx Γ P Fin W₀ ts a S gs w t κ φ κ0 φ0) (d : Nat) : Cx Γ P Fin W₀ ts a S gs (w.at d) t κ φ κ0 φ0 :=
  ⟨h.size, h.len, h.ar, h.gi, h.bd, h.sh, h.pay, ⟨h.out.tape, h.out.output, h.out.os⟩, h.grow, h.old, h.oldq,
    fun q X hX => let ⟨g, hg, hs⟩ := h.wk q X hX; ⟨g, hg, hs.rely (atd _ w d)⟩, let ⟨g, hg, hs⟩ := h.st; ⟨g, hg, hs.rely (rs_at w d)⟩, h.dat, h.ft, h.above, h.rel, h.norel, h.acq, h.rkw, h.rks⟩
theorem gs_get (h : Cx Γ P Fin W₀ ts a S gs w t κ φ κ0 φ0) {i : Nat} {g : Goroutine} (hg : gs[i + 1]? = some g) : ∃ T, ts[i]? = some T := by
  have := (Array.getElem?_eq_some_iff.1 hg).1
  have hs := h.size
  exact ⟨_, List.getElem?_eq_getElem (by omega)⟩
theorem all_awake (h : Cx Γ P Fin W₀ ts a S gs w t κ φ κ0 φ0) : ∀ g ∈ gs, awake g := by
  intro g hg
  obtain ⟨i, hi⟩ := Array.mem_iff_getElem?.1 hg
  cases i with
  | zero =>
    obtain ⟨g0, hg0, hs⟩ := h.st
    rw [hg0] at hi
    cases hi
    rcases hs.status with h1 | ⟨h1, _⟩
    · exact awake_of (.inl h1)
    · exact awake_of (.inr (.inl h1))
  | succ i =>
    obtain ⟨T, hT⟩ := gs_get h hi
    obtain ⟨g1, hg1, hs⟩ := h.wk i T hT
    rw [hg1] at hi
    cases hi
    exact awake_of hs.status
theorem someone (h : Cx Γ P Fin W₀ ts a S gs w t κ φ κ0 φ0) : ∃ (i : Nat) (g : Goroutine), gs[i]? = some g ∧ g.status = .running := by
  obtain ⟨g0, hg0, hs⟩ := h.st
  rcases hs.status with h1 | ⟨_, h1, h2⟩
  · exact ⟨0, g0, hg0, h1⟩
  · obtain ⟨p, T, hT, hc⟩ := h.gi.live h1 h2
    obtain ⟨g1, hg1, hw⟩ := h.wk p T hT
    refine ⟨p + 1, g1, hg1, ?_⟩
    rcases hw with ⟨_, _, m, _, hgo⟩ | ⟨h3, h4, _⟩ | ⟨h3, _⟩
    · exact hgo.running
    · exact absurd ⟨h3, h4⟩ hc.2.2
    · exact absurd h3 hc.1

/-- ████ ON WHATEVER TAPE THE PHASE COMES TO ITS END. ████ -/
theorem phase_runs (G : GeoOk Γ W₀) (hF : ∀ g w d, Fin g (World.at w d) → Fin g w) : ∀ μ m t, PInv Γ P Fin W₀ μ m t → ∃ N m' t', runNT P N m t = (.next m', t') ∧ Done Γ P Fin W₀ m' t' := by
  have wf : WellFounded Lt2' := (Prod.lex Nat.lt_wfRel Nat.lt_wfRel).wf
  intro μ
  induction μ using wf.induction with
  | _ μ ih =>
    rintro m t ⟨ts, a, S, gs, w, κ, φ, κ0, φ0, sl, rfl, h, rfl⟩
    obtain ⟨i, g, d, sl', hi, hg, hst⟩ := crowd_pick (P := P) (w := w) (sl := sl) (all_awake h) (someone h)
    have h' := h.at_ d
    have next : ∀ m₁ ops μ', runT P (crowd gs (w.at d) sl') i = (.next m₁, ops) → Lt2' μ' (meas Γ ts a S φ φ0) → PInv Γ P Fin W₀ μ' m₁ (t ++ ops) → ∃ N m' t', runNT P N (crowd gs w sl) t = (.next m', t') ∧ Done Γ P Fin W₀ m' t' := by
      intro m₁ ops μ' r1 r2 r3
      obtain ⟨N, m', t', e1, e2⟩ := ih μ' r2 m₁ (t ++ ops) r3
      exact ⟨N + 1, m', t', by rw [runNT_succ_next (hst.trans r1)]; exact e1, e2⟩
    cases i with
    | zero =>
      rcases stepS (sl := sl') G h' hi hg with ⟨h1, h2⟩ | ⟨m₁, ops, μ', r1, r2, r3⟩
      · exact ⟨0, _, t, rfl, ts, a, S, gs, w, κ, φ, κ0, φ0, sl, g, rfl, h, h1, hi, hF _ _ _ h2⟩
      · exact next _ _ _ r1 r2 r3
    | succ p =>
      obtain ⟨T, hT⟩ := gs_get h hi
      obtain ⟨m₁, ops, μ', r1, r2, r3⟩ := stepW (sl := sl') G h' hT hi hg
      exact next _ _ _ r1 r2 r3

/-- ████ A FRAME AGAIN: all others only leave; the words are written; what was there stands. ████ -/
theorem done_frame (G : GeoOk Γ W₀) {m : Machine} (h : Done Γ P Fin W₀ m t) :
    ∃ (gs : Array Goroutine) (w : World) (sl : Option (Nat × Nat)) (g : Goroutine) (q : Nat → Nat) (S : St), m = crowd gs w sl ∧ gs.size = Γ.c + Γ.n ∧ gs[0]? = some g ∧ Fin g w ∧ Leavers P t gs q ∧ Past Γ.Sh Γ.B t ∧ (∀ op ∈ t, op.g < gs.size) ∧
      ShAt Γ w S ∧ Pay Γ w ∧ (∀ i, i < Γ.n → Has Γ i (Γ.val i) w) ∧ Out W₀ w ∧ W₀.heap.size ≤ w.heap.size ∧ ∀ b, b < W₀.heap.size → w.heap[b]? = W₀.heap[b]? := by
  obtain ⟨ts, a, S, gs, w, κ, φ, κ0, φ0, sl, g, rfl, h, hf, hg, hF⟩ := h
  have hc1 := G.c1
  have hlen := h.len
  have hr0 := h.gi.r0 (by simp [hf])
  have hsize := h.size
  have hq : ∀ (p : Nat) T, ts[p]? = some T → T.pc = .quit := fun p T hT => fin_quit h.gi (by simp [hf]) hT
  have hch : ∀ i, ∃ q, ∀ x, 0 < i → gs[i]? = some x → QuitsD P q (Deaf t i) x := by
    intro i
    cases i with
    | zero => exact ⟨0, fun x hx => absurd hx (by omega)⟩
    | succ i =>
      cases hx : gs[i + 1]? with
      | none => exact ⟨0, fun x _ hx' => by cases hx'⟩
      | some x =>
        obtain ⟨T, hT⟩ := gs_get h hx
        obtain ⟨g1, hg1, hs⟩ := h.wk i T hT
        rw [hx] at hg1
        cases hg1
        have hTq := hq i T hT
        rcases hs with ⟨h1, _⟩ | ⟨h1, _⟩ | ⟨_, q, _, h3⟩
        · exact absurd hTq h1
        · rw [hTq] at h1; cases h1
        · exact ⟨q, fun y _ hy => by cases hy; exact h3⟩
  obtain ⟨q, hq'⟩ := Classical.axiomOfChoice hch
  obtain ⟨qa, a1, a2, a3, a4⟩ := h.acq hf
  have hd0 : Deaf t 0 = 0 := by
    obtain ⟨g0, hg0, hs⟩ := h.st
    rcases hs with ⟨h1, _⟩ | ⟨h1, _⟩
    · rw [h1]; simp [deafS, hf]
    · rw [hf] at h1; cases h1
  refine ⟨gs, w, sl, g, q, S, rfl, by omega, hg, hF, ⟨fun i x hi hx => hq' i x hi hx, h.above⟩, h.ft.toPast G.ap (fun k k1 k2 i hgi => ?_) h.norel a1 a2 a3 hd0, fun op hop => by have := h.ft.gs op hop; omega, h.sh, h.pay, fun i hi => ?_, h.out, h.grow, h.old⟩
  · have := a4 (k - 1) (by omega) (by omega)
    rw [show k - 1 + 1 = k by omega] at this
    exact this
  · obtain ⟨T, hT⟩ : ∃ T, ts[Γ.c - 1 + i]? = some T := ⟨_, List.getElem?_eq_getElem (by omega)⟩
    have := h.dat _ T hT (by omega) (by simp [didT, hq _ T hT])
    rw [show Γ.c - 1 + i + 1 - Γ.c = i by omega] at this
    exact this

/-- ████ THE PHASE's BEGINNING: from a frame. ████ -/
theorem phase (G : GeoOk Γ W₀) (hF : ∀ g w d, Fin g (World.at w d) → Fin g w) (hn : 0 < Γ.n) {g : Goroutine} {Shun : Go.Loc → Prop} {q : Nat → Nat} (hsz : gs.size = Γ.c) (h0 : gs[0]? = some g) (hL : Leavers P t gs q) (hP : Past Shun Γ.B t) (hgs : ∀ op ∈ t, op.g < gs.size)
    (hS : ∀ l, Shun l → l.isMemory = true → Γ.Sh l) (hnr : NoRelease (stA Γ.Wg) t) (hsh : ShAt Γ w ⟨⟨⟨0, 0, 0, 0⟩, 0⟩, 0, 0, 0⟩) (hpay : Pay Γ w) (hout : Out W₀ w) (hgr : W₀.heap.size ≤ w.heap.size) (hold : ∀ b, b < W₀.heap.size → w.heap[b]? = W₀.heap[b]?)
    (hgo : ∀ d, ∃ m, Goes P true (RS Γ) (DS Γ 0) (SAt Γ P Fin d ⟨.kd, Γ.n, 0⟩) m g w) :
    ∃ N m' t', runNT P N (crowd gs w sl) t = (.next m', t') ∧ Done Γ P Fin W₀ m' t' := by
  have hc1 := G.c1
  obtain ⟨ts, hts⟩ : ∃ ts, ts = List.replicate (Γ.c - 1) (at_ .quit) := ⟨_, rfl⟩
  have hl : ts.length = Γ.c - 1 := by rw [hts]; simp
  have hq : ∀ (p : Nat) T, ts[p]? = some T → T = at_ .quit := fun p T hT => by
    have := List.mem_of_getElem? hT
    rw [hts] at this
    exact List.eq_of_mem_replicate this
  have hz : ∀ f : Th → Nat, f (at_ .quit) = 0 → cnt f ts = 0 := fun f hf => by
    rw [hts]
    have : ∀ k, cnt f (List.replicate k (at_ .quit)) = 0 := by
      intro k
      induction k with
      | zero => rfl
      | succ k ih => simp [cnt, List.replicate_succ] at ih ⊢; rw [hf]; simp [ih]
    exact this _
  have hI : Inv ts ⟨⟨0, 0, 0, 0⟩, 0⟩ := by
    refine ⟨⟨by simp, ?_, fun _ => ?_, fun h => (by cases h), fun _ _ _ h => (by cases h)⟩, fun T hT => ?_⟩
    · rw [hz holdN rfl]
    · rw [hz usN rfl, hz trN rfl, hz awN (by simp [awN, Pc.loop]), hz uhN rfl, hz a1N rfl, hz qN rfl]
      simp
    · obtain ⟨p, hp⟩ := List.getElem?_of_mem hT
      rw [hq p T hp]
      exact loc_at (by decide) rfl (by decide)
  have hgi : GInv ts ⟨.kd, Γ.n, 0⟩ ⟨⟨⟨0, 0, 0, 0⟩, 0⟩, 0, 0, 0⟩ :=
    ⟨hI, by rw [hz pdN rfl]; simp, fun _ => ⟨rfl, rfl, hz d23N rfl, hz d4N rfl⟩, fun h => (by cases h), fun h => (by simp at h), fun _ => hn, fun h => (by simp at h), fun h => (by cases h)⟩
  obtain ⟨m, hm⟩ := hgo (rank (MM Γ) ts ⟨.kd, Γ.n, 0⟩ ⟨⟨⟨0, 0, 0, 0⟩, 0⟩, 0, 0, 0⟩ + 1)
  refine phase_runs G hF (meas Γ ts ⟨.kd, Γ.n, 0⟩ ⟨⟨⟨0, 0, 0, 0⟩, 0⟩, 0, 0, 0⟩ (fun p => KK_ Γ * q (p + 1)) (KK_ Γ * m + 1)) _ t ⟨ts, ⟨.kd, Γ.n, 0⟩, _, gs, w, fun _ => 0, fun p => KK_ Γ * q (p + 1), rank (MM Γ) ts ⟨.kd, Γ.n, 0⟩ ⟨⟨⟨0, 0, 0, 0⟩, 0⟩, 0, 0, 0⟩, KK_ Γ * m + 1, sl, rfl, ?_, rfl⟩
  refine ⟨by omega, by simp; omega, Nat.le_refl _, hgi, by rw [hz pdN rfl]; simp, hsh, hpay, hout, hgr, hold, fun p T hT _ => by rw [hq p T hT], fun p T hT => ?_, ⟨g, h0, .inl ⟨hP.hears, m, rfl, (by show Goes P true (RS Γ) (DS Γ (Γ.n - Γ.n)) _ _ _ _; rw [Nat.sub_self]; exact hm)⟩⟩, fun p T hT hge _ => ?_, ?_, hL.above, fun p T hT hge _ => ?_, hnr, fun h => (by cases h), fun p T hT h => ?_, Nat.le_refl _⟩
  · have hpl : p < ts.length := (List.getElem?_eq_some_iff.1 hT).1
    have hps : p + 1 < gs.size := by omega
    refine ⟨gs[p + 1], Array.getElem?_eq_getElem hps, .inr (.inr ⟨by rw [hq p T hT], q (p + 1), rfl, hL.old (p + 1) _ (by omega) (Array.getElem?_eq_getElem hps)⟩)⟩
  · have hpl : p < ts.length := (List.getElem?_eq_some_iff.1 hT).1
    omega
  · rw [hl]
    exact FT.ofPast G.ap hP hS hc1 (by rw [← hsz]; exact hgs)
  · have hpl : p < ts.length := (List.getElem?_eq_some_iff.1 hT).1
    omega
  · rw [hq p T hT] at h; exact absurd rfl h
end

end Go.Proofs.Ytlcjepgmmbdkmaa.Ph
