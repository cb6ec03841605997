/-
  newSlot: the geometry; what the starter knows.
-/
import Derived.Test.YtlcjepgmmbdkmaaWt
import Derived.Test.YtlcjepgmmbdkmaaMachR
namespace Go.Proofs.Ytlcjepgmmbdkmaa.Ph
open Go.Conc Go.Proofs.Ytlcjepgmmbdkmaa.Auto Go.Proofs.Ytlcjepgmmbdkmaa.Trc Go.RowKit Go.Conc.Lib Go.ConcR.Gen
open Go.ConcM hiding Eff Eff.refl Eff.set Eff.later Eff.asked ShAt MuAt Pc Th Sh hd at_ After
open Go.ConcR (KK wgBlock WgAt stA smA rd wr mk)
set_option linter.unusedSimpArgs false
set_option linter.unusedVariables false

/-- The geometry of a call of newSlot: N blocks stand, c goroutines, the version, the words, the blocks that are shunned. -/
def geoN (N c : Nat) (ver : Int) (xs : List Int) (Z : Nat → Prop) : Geo where
  tM := 66
  tW := 73
  ety := 3
  Mu := N + 2
  Wg := N + 3
  C := N + 1
  n := xs.length
  hv := .int .i64 ver
  hw := .slice (some ⟨N + 1, 0, none⟩) xs.length xs.length
  val i := .int .i64 (xs.getD i 0)
  c := c
  Lw j := N + 4 + 2 * j
  Sh l := ∃ ad : Addr, l = .cell ad ∧ ((ad.block = N + 2 ∧ ad.off < 2) ∨ ad.block = N + 3 ∨ (Z ad.block ∧ ad.block < N))
  Own k l := ∃ i, k = c + i ∧ i < xs.length ∧ l = .cell ⟨N + 1, i, none⟩
  Rd k l := ∃ i, k = c + i ∧ i < xs.length ∧ (l = .cell ⟨N + 4 + 2 * i, 0, none⟩ ∨ l = .cell ⟨N + 4 + 2 * i + 1, 0, none⟩ ∨ l = .cell ⟨N + 2, 3, none⟩)
  B := N + 4 + 2 * xs.length
section
variable {N c : Nat} {ver : Int} {xs : List Int} {Z : Nat → Prop}
theorem gok (h6 : xs.length ≤ 6) : GOk (geoN N c ver xs Z) :=
  ⟨by simp [geoN], by simp [geoN], by simp [geoN], h6, ⟨_, rfl, .inl ⟨rfl, by simp⟩⟩, ⟨_, rfl, .inl ⟨rfl, by simp⟩⟩, ⟨_, rfl, .inr (.inl rfl)⟩, ⟨_, rfl, .inr (.inl rfl)⟩, by simp only [geoN]; omega, by simp only [geoN]; omega⟩
theorem apartN : Apart (geoN N c ver xs Z).Sh (geoN N c ver xs Z).Own (geoN N c ver xs Z).Rd := by
  refine ⟨?_, ?_, ?_, ?_, ?_, ?_, ?_⟩
  · rintro k k' l ⟨i, rfl, hi, rfl⟩ ⟨i', rfl, hi', e⟩
    have : i = i' := by injection e with e; injection e
    omega
  · rintro k k' l ⟨i, rfl, hi, rfl⟩ ⟨i', rfl, hi', e | e | e⟩ <;> injection e with e <;> injection e with e1 e2 <;> omega
  · rintro k l ⟨i, rfl, hi, rfl⟩ ⟨ad, e, h⟩
    injection e with e
    subst e
    simp only at h
    omega
  · rintro k l ⟨i, rfl, hi, e | e | e⟩ ⟨ad, e', h⟩ <;> subst e <;> injection e' with e' <;> subst e' <;> simp only at h <;> omega
  · rintro k l ⟨i, rfl, hi, rfl⟩; rfl
  · rintro k l ⟨i, rfl, hi, e | e | e⟩ <;> subst e <;> rfl
  · rintro l ⟨ad, rfl, _⟩; rfl
theorem geoOkN {W₀ : World} (c1 : 1 ≤ c) (h : W₀.heap.size = N + 1) : GeoOk (geoN N c ver xs Z) W₀ :=
  ⟨c1, by simp [geoN], by simp [geoN], by simp [geoN], by simp only [geoN]; omega, by simp only [geoN]; omega, by simp only [geoN]; omega, by simp only [geoN]; omega, by simp only [geoN]; omega, by simp only [geoN]; omega, fun i j h => by simp only [geoN]; omega, by simp only [geoN]; omega, apartN⟩
theorem wokN {j : Nat} (hj : j < xs.length) : WOk (geoN N c ver xs Z) j (N + 4 + 2 * j) (N + 4 + 2 * j + 1) (xs.getD j 0) :=
  ⟨by simp only [geoN]; omega, by simp only [geoN]; omega, by simp only [geoN]; omega, by simp only [geoN]; omega, rfl, rfl, rfl, hj, ⟨j, rfl, hj, .inl rfl⟩, ⟨j, rfl, hj, .inr (.inl rfl)⟩, ⟨j, rfl, hj, .inr (.inr rfl)⟩, ⟨j, rfl, hj, rfl⟩, by simp only [geoN]; omega, by simp only [geoN]; omega, by simp only [geoN]; omega⟩

/-- What the starter knows while so many blocks stand. -/
structure KF (N c : Nat) (ver : Int) (xs : List Int) (Z : Nat → Prop) (A : Option Addr) (sz : Nat) (w : World) : Prop where
  live : ∃ S, ShAt (geoN N c ver xs Z) w S
  pay : Pay (geoN N c ver xs Z) w
  size : w.heap.size = sz
  row : ∃ b off, A = some ⟨b, off, none⟩ ∧ b < N ∧ ¬ Z b ∧ ∀ j x, xs[j]? = some x → w.cell? ⟨b, off + j, none⟩ = some (.int .i64 x)
theorem KF.ok {A : Option Addr} (sz : Nat) : KsOk (geoN N c ver xs Z) (KF N c ver xs Z A sz) :=
  ⟨fun h r => ⟨r.live h.live, r.pay h.pay, r.size.trans h.size, by
    obtain ⟨b, off, e, hb, hz, hc⟩ := h.row
    refine ⟨b, off, e, hb, hz, fun j x hj => (cellOf (r.block b ?_ ?_ ?_)).trans (hc j x hj)⟩ <;> simp only [geoN] <;> omega⟩, fun h => h.live⟩
/-- .. and the two boxes of the next worker. -/
structure KG (N c : Nat) (ver : Int) (xs : List Int) (Z : Nat → Prop) (A : Option Addr) (j : Nat) (w : World) : Prop where
  kf : KF N c ver xs Z A (N + 4 + 2 * (j + 1)) w
  bi : w.cell? ⟨N + 4 + 2 * j, 0, none⟩ = some (.int .i64 (j : Int))
  bv : w.cell? ⟨N + 4 + 2 * j + 1, 0, none⟩ = some (.int .i64 (xs.getD j 0))
theorem KG.ok {A : Option Addr} (j : Nat) : KsOk (geoN N c ver xs Z) (KG N c ver xs Z A j) :=
  ⟨fun h r => ⟨(KF.ok _).rely h.kf r, (cellOf (r.block _ (by simp only [geoN]; omega) (by simp only [geoN]; omega) (by simp only [geoN]; omega))).trans h.bi, (cellOf (r.block _ (by simp only [geoN]; omega) (by simp only [geoN]; omega) (by simp only [geoN]; omega))).trans h.bv⟩, fun h => h.kf.live⟩
end
/-- .. and blocks of its own. -/
structure KC (N c : Nat) (ver : Int) (xs : List Int) (Z : Nat → Prop) (A : Option Addr) (sz : Nat) (L : List (Nat × Value)) (w : World) : Prop where
  kf : KF N c ver xs Z A sz w
  own : ∀ p ∈ L, N + 4 ≤ p.1 ∧ p.1 < sz ∧ w.heap[p.1]? = some (.cells #[p.2] 3 (0, 0))
section
variable {N c : Nat} {ver : Int} {xs : List Int} {Z : Nat → Prop} {A : Option Addr} {sz : Nat} {L : List (Nat × Value)} {w : World}
theorem KC.ok (sz : Nat) (L : List (Nat × Value)) : KsOk (geoN N c ver xs Z) (KC N c ver xs Z A sz L) :=
  ⟨fun h r => ⟨(KF.ok _).rely h.kf r, fun p hp => by
    obtain ⟨h1, h2, h3⟩ := h.own p hp
    exact ⟨h1, h2, (r.block p.1 (by simp only [geoN]; omega) (by simp only [geoN]; omega) (by simp only [geoN]; omega)).trans h3⟩⟩, fun h => h.kf.live⟩
theorem KF.of_blocks {sz' : Nat} {w' : World} (h : KF N c ver xs Z A sz w) (hs : w'.heap.size = sz') (hN : N + 4 ≤ sz) (hb : ∀ b, b < N + 4 → w'.heap[b]? = w.heap[b]?) : KF N c ver xs Z A sz' w' := by
  obtain ⟨⟨S, hS⟩, ⟨cs, hc1, hc2⟩, _, b, off, e, hbN, hz, hc⟩ := h
  exact ⟨⟨S, (hb (N + 2) (by omega)).trans hS.1, hS.2.of_block (hb (N + 3) (by omega))⟩, ⟨cs, (hb (N + 1) (by omega)).trans hc1, hc2⟩, hs, b, off, e, hbN, hz, fun j x hj => (cellOf (hb b (by omega))).trans (hc j x hj)⟩
theorem KC.alloc (h : KC N c ver xs Z A sz L w) (hN : N + 4 ≤ sz) (v : Value) : KC N c ver xs Z A (sz + 1) ((sz, v) :: L) (w.alloc (.cells #[v] 3)) := by
  have hs := h.kf.size
  have hb : ∀ b, b < sz → (w.alloc (.cells #[v] 3)).heap[b]? = w.heap[b]? := fun b hb => Below.heap_alloc _ _ _ (by omega)
  refine ⟨h.kf.of_blocks (by simp [hs]) hN fun b hb' => hb b (by omega), fun p hp => ?_⟩
  rcases List.mem_cons.1 hp with rfl | hp
  · have := heap_alloc_new w (.cells #[v] 3)
    rw [hs] at this
    exact ⟨hN, Nat.lt_succ_self _, this⟩
  · obtain ⟨h1, h2, h3⟩ := h.own p hp
    exact ⟨h1, Nat.lt_succ_of_lt h2, (hb _ h2).trans h3⟩
theorem KC.set (h : KC N c ver xs Z A sz L w) {q : Nat} {u : Value} (hq : (q, u) ∈ L) (v : Value) (L' : List (Nat × Value)) (hL : ∀ p ∈ L', p = (q, v) ∨ (p ∈ L ∧ p.1 ≠ q)) : KC N c ver xs Z A sz L' (w.setCell ⟨q, 0, none⟩ v) := by
  have B := aside_setCell w ⟨q, 0, none⟩ v
  obtain ⟨q1, q2, q3⟩ := h.own _ hq
  simp only at q1 q2 q3
  refine ⟨h.kf.of_blocks (B.size.trans h.kf.size) (by omega) fun b hb => B.block b (by simp only; omega), fun p hp => ?_⟩
  rcases hL p hp with rfl | ⟨hp, hne⟩
  · refine ⟨q1, q2, ?_⟩
    rw [setCell_eq_setRow w q 0 _ 3 (0, 0) _ q3, setRow_heap w q _ _ 3 _ q3]
    simp
  · obtain ⟨h1, h2, h3⟩ := h.own p hp
    exact ⟨h1, h2, (B.block p.1 hne).trans h3⟩
theorem KC.cell (h : KC N c ver xs Z A sz L w) {q : Nat} {u : Value} (hq : (q, u) ∈ L) : w.cell? ⟨q, 0, none⟩ = some u ∧ w.frozen? ⟨q, 0, none⟩ = false := by
  obtain ⟨q1, q2, q3⟩ := h.own _ hq
  simp only at q3
  exact ⟨by simp [World.cell?, q3], by simp [World.frozen?, q3]⟩
theorem KF.elem {b off j : Nat} (h : KF N c ver xs Z (some ⟨b, off, none⟩) sz w) (hj : j < xs.length) : w.cell? ⟨b, off + j, none⟩ = some (.int .i64 (xs.getD j 0)) ∧ b < N ∧ ¬ Z b := by
  obtain ⟨b', off', e, hb, hz, hc⟩ := h.row
  injection e with e
  injection e with e1 e2
  subst e1 e2
  exact ⟨hc j _ (by simp [List.getD, hj]), hb, hz⟩
/-- A plain read of an old block. -/
theorem ds_readOld {j b off : Nat} (hb : b < N) (hz : ¬ Z b) : DS (geoN N c ver xs Z) j w w #[⟨.cell ⟨b, off, none⟩, false, false⟩] := by
  refine ⟨EfS.refl j w, fun e he => ?_⟩
  simp at he
  subst he
  refine ev0_plain (by simp only [geoN]; omega) ?_ ?_ (by simp)
  · rintro ⟨ad, e, h⟩
    injection e with e
    subst e
    simp only at h
    rcases h with h | h | h
    · omega
    · omega
    · exact hz h.1
  · rintro k h1 h2 ⟨i, rfl, hi, e⟩
    injection e with e
    injection e with e1 e2
    omega
theorem ds_alloc {j : Nat} {o : Obj} {es : Array Event} (hs : N + 4 + 2 * j ≤ w.heap.size) (h : ∀ e ∈ es, False) : DS (geoN N c ver xs Z) j w (w.alloc o) es :=
  ⟨⟨⟨rfl, rfl, .refl _⟩, by simp, fun b hb => Below.heap_alloc _ _ _ (by simp only [geoN] at hb; omega)⟩, fun e he => (h e he).elim⟩
theorem ds_store0 {j q : Nat} (c1 : 1 ≤ c) (hq : q = N + 4 + 2 * j ∨ q = N + 4 + 2 * j + 1) (hj : j < xs.length) (v : Value) : DS (geoN N c ver xs Z) j w (w.setCell ⟨q, 0, none⟩ v) #[⟨.cell ⟨q, 0, none⟩, true, false⟩] := by
  have B := aside_setCell w ⟨q, 0, none⟩ v
  refine ⟨⟨⟨B.tape, B.output, by rw [B.os]; exact .refl _⟩, Nat.le_of_eq B.size.symm, fun b hb => B.block b (by simp only [geoN] at hb; simp only; omega)⟩, fun e he => ?_⟩
  simp at he
  subst he
  refine ev0_plain (by simp only [geoN]; omega) ?_ ?_ (fun _ => ?_)
  · rintro ⟨ad, e, h⟩
    injection e with e
    subst e
    simp only at h
    omega
  · rintro k h1 h2 ⟨i, rfl, hi, e⟩
    injection e with e
    injection e with e1 e2
    omega
  · rintro k h1 h2 ⟨i, rfl, hi, e | e | e⟩ <;> injection e with e <;> injection e with e1 e2 <;> simp only [geoN] at h2 <;> omega
end
theorem loud42 : (Try.prog.funcs[(base 42).fn]?).any (·.norace) = false := by kernel_rfl
noncomputable def body42 : Code := Try.f42.body.getD .skip
noncomputable def LL42 : Code := (findLoop body42).getD .skip
noncomputable def R942 : Code := sndOf (sndOf (sndOf (sndOf body42)))
noncomputable def R1042 : Code := sndOf R942
def opsOf : Code → Array Oper
  | .region _ ops _ => ops
  | _ => #[]
noncomputable def ops942 : Array Oper := opsOf (fstOf R942)
/-- Behind Wait. -/
def FinN (N : Nat) (ver : Int) (xs : List Int) (A : Option Addr) (cap : Nat) (cs : List Frame) (g : Goroutine) (w : World) : Prop :=
  (∃ j2 j3 j7 j8 j9 j10 j11 j12 j13 j14 j18 j19 j20 j21 j22 j23 j24 j25 j26 j27 : Value, g = G ((base 42).at ⟨#[.int .i64 ver, .slice A xs.length cap, j2, j3, .pointer (some ⟨N, 0, none⟩), .pointer (some ⟨N + 2, 0, none⟩), .pointer (some ⟨N + 3, 0, none⟩), j7, j8, j9, j10, j11, j12, j13, j14, .slice A xs.length cap, .int .i64 (xs.length : Int), .int .i64 (xs.length : Int), j18, j19, j20, j21, j22, j23, j24, j25, j26, j27], []⟩ [.inRegion ops942 [], .code R1042]) cs) ∧ w.heap.size = N + 4 + 2 * xs.length

end Go.Proofs.Ytlcjepgmmbdkmaa.Ph
