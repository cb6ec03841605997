/-
  Lists of packets: how they lie in memory, and when they are valid.
-/
import Derived.Test.YtjdpagjcbhkonaaPacket
import Derived.Test.YtjdpagjcbhkonaaIn
namespace Go.Proofs.Ytjdpagjcbhkonaa
open Go.RowKit
set_option linter.unusedSimpArgs false
set_option linter.unusedVariables false

/-- A packet. -/
structure Pk where
  wd : Int
  tm : Int
  ly : Int
  sz : Int
  k : Bool
  l : Bool
def pkc (p : Pk) : List Value := [.int .i64 p.wd, .int .i64 p.tm, .int .i64 p.ly, .int .i64 p.sz, .bool p.k, .bool p.l]
def pkv (p : Pk) : Value := .agg #[.int .i64 p.wd, .int .i64 p.tm, .int .i64 p.ly, .int .i64 p.sz, .bool p.k, .bool p.l]
def pkcs (ps : List Pk) : List Value := ps.flatMap pkc
theorem pkcs_length (ps : List Pk) : (pkcs ps).length = ps.length * 6 := by
  induction ps with
  | nil => rfl
  | cons p ps ih => simp only [pkcs, List.flatMap_cons, List.length_append, List.length_cons] at ih ⊢; rw [ih]; simp [pkc]; omega
theorem pkcs_append (ps qs : List Pk) : pkcs (ps ++ qs) = pkcs ps ++ pkcs qs := by simp [pkcs]
theorem pkcs_get {ps : List Pk} {j : Nat} {p : Pk} (h : ps[j]? = some p) {f : Nat} (hf : f < 6) : (pkcs ps)[j * 6 + f]? = (pkc p)[f]? := by
  induction ps generalizing j with
  | nil => simp at h
  | cons q ps ih =>
    show (pkc q ++ pkcs ps)[j * 6 + f]? = _
    cases j with
    | zero => simp at h; subst h; rw [List.getElem?_append_left (by simp [pkc]; omega)]; simp
    | succ j =>
      rw [List.getElem?_append_right (by simp [pkc]; omega)]
      have : (j + 1) * 6 + f - (pkc q).length = j * 6 + f := by simp [pkc]; omega
      rw [this]
      exact ih (by simpa using h)

/-- A packet's six cells stand from the offset on. -/
def Six (w : World) (b o : Nat) (p : Pk) : Prop :=
  w.cell? ⟨b, o, none⟩ = some (.int .i64 p.wd) ∧ w.cell? ⟨b, o + 1, none⟩ = some (.int .i64 p.tm) ∧ w.cell? ⟨b, o + 2, none⟩ = some (.int .i64 p.ly) ∧ w.cell? ⟨b, o + 3, none⟩ = some (.int .i64 p.sz) ∧ w.cell? ⟨b, o + 4, none⟩ = some (.bool p.k) ∧ w.cell? ⟨b, o + 5, none⟩ = some (.bool p.l)
/-- The slice that begins at A reads as these packets; it lies below block B. -/
def PkRow (w : World) (B : Nat) (A : Option Addr) (ps : List Pk) : Prop :=
  0 < ps.length → ∃ b off, A = some ⟨b, off, none⟩ ∧ b < B ∧ ∀ j p, ps[j]? = some p → Six w b (off + j * 6) p
section
variable {w w' : World} {B B' : Nat} {A : Option Addr} {ps : List Pk} {b o : Nat} {p : Pk}
theorem Six.keep (h : Six w b o p) (hk : ∀ i, w'.cell? ⟨b, i, none⟩ = w.cell? ⟨b, i, none⟩) : Six w' b o p := by
  unfold Six at h ⊢
  rw [hk, hk, hk, hk, hk, hk]
  exact h
theorem PkRow.nil (w : World) (B : Nat) (A : Option Addr) : PkRow w B A [] := fun h => absurd h (by simp)
theorem PkRow.keep (h : PkRow w B A ps) (hk : ∀ b o, b < B → w'.cell? ⟨b, o, none⟩ = w.cell? ⟨b, o, none⟩) : PkRow w' B A ps := fun hp => by
  obtain ⟨b, off, e, hb, hc⟩ := h hp
  exact ⟨b, off, e, hb, fun j p hj => (hc j p hj).keep fun i => hk b i hb⟩
theorem PkRow.below (h : PkRow w B A ps) (hb : Below B w w') : PkRow w' B A ps := h.keep fun b o hlt => hb.cell (p := ⟨b, o, none⟩) hlt
theorem PkRow.more (h : PkRow w B A ps) (hB : B ≤ B') : PkRow w B' A ps := fun hp => by
  obtain ⟨b, off, e, hb, hc⟩ := h hp
  exact ⟨b, off, e, by omega, hc⟩
/-- What a callee leaves that turns nothing. -/
theorem PkRow.mem (h : PkRow w w.heap.size A ps) (hb : Below w.heap.size w w') : PkRow w' w'.heap.size A ps := (h.below hb).more hb.size
theorem PkRow.alloc (h : PkRow w w.heap.size A ps) (ob : Obj) : PkRow (w.alloc ob) (w.alloc ob).heap.size A ps := h.mem ((Below.refl _ _).alloc (Nat.le_refl _) _)
theorem PkRow.drew (h : PkRow w B A ps) : PkRow w.drew B A ps := h
theorem PkRow.block (h : PkRow w w.heap.size A ps) : PkRow w w.heap.size A ps := h
theorem PkRow.of_blk {T : Nat} (h : Blk w b T (pkcs ps).toArray) : PkRow w w.heap.size (some ⟨b, 0, none⟩) ps := fun hp => by
  refine ⟨b, 0, rfl, h.lt, fun j p hj => ?_⟩
  have hc := h.cells
  have g : ∀ f, f < 6 → w.cell? ⟨b, 0 + j * 6 + f, none⟩ = (pkc p)[f]? := fun f hf => by
    rw [hc, Nat.zero_add, List.getElem?_toArray]; exact pkcs_get hj hf
  exact ⟨g 0 (by omega), g 1 (by omega), g 2 (by omega), g 3 (by omega), g 4 (by omega), g 5 (by omega)⟩
/-- The packets from a place on. -/
theorem PkRow.drop {k : Nat} (h : PkRow w B A ps) (hk : k < ps.length) : ∃ b off, A = some ⟨b, off, none⟩ ∧ PkRow w B (some ⟨b, off + k * 6, none⟩) (ps.drop k) := by
  obtain ⟨b, off, e, hb, hc⟩ := h (by omega)
  refine ⟨b, off, e, fun _ => ⟨b, off + k * 6, rfl, hb, fun j p hj => ?_⟩⟩
  rw [List.getElem?_drop] at hj
  have := hc (k + j) p hj
  rwa [show off + k * 6 + j * 6 = off + (k + j) * 6 by omega]
theorem PkRow.take {k : Nat} (h : PkRow w B A ps) : PkRow w B A (ps.take k) := fun hp => by
  obtain ⟨b, off, e, hb, hc⟩ := h (by simp at hp; omega)
  refine ⟨b, off, e, hb, fun j p hj => hc j p ?_⟩
  rw [List.getElem?_take] at hj
  split at hj
  · exact hj
  · cases hj
end

/-! ### Which packets are valid -/
def pvP (p : Pk) : Bool := pvB p.wd p.tm p.ly p.sz
/-- A packet may stand behind another one. -/
def stepB (q p : Pk) : Bool := decide (q.wd < p.wd) && decide (q.tm ≤ p.tm)
/-- The packet at a place is valid, and may stand behind the one before. -/
def okAt (ps : List Pk) (i : Nat) : Bool := match ps[i]? with
  | none => true
  | some p => pvP p && match i with
    | 0 => true
    | j + 1 => match ps[j]? with
      | none => true
      | some q => stepB q p
def okTo (ps : List Pk) (k : Nat) : Bool := (List.range k).all (okAt ps)
def pvsB (ps : List Pk) : Bool := decide (ps.length ≤ 20) && okTo ps ps.length
theorem okTo_zero (ps : List Pk) : okTo ps 0 = true := rfl
theorem okTo_succ (ps : List Pk) (k : Nat) : okTo ps (k + 1) = (okTo ps k && okAt ps k) := by simp [okTo, List.range_succ]
theorem okTo_iff {ps : List Pk} {k : Nat} : okTo ps k = true ↔ ∀ i, i < k → okAt ps i = true := by simp [okTo]
theorem okTo_no {ps : List Pk} {i k : Nat} (hi : i < k) (h : okAt ps i = false) : okTo ps k = false := by
  cases hk : okTo ps k
  · rfl
  · have := okTo_iff.1 hk i hi; rw [h] at this; cases this
theorem pvsB_iff {ps : List Pk} : pvsB ps = true ↔ ps.length ≤ 20 ∧ ∀ i, i < ps.length → okAt ps i = true := by simp [pvsB, okTo_iff]
theorem okAt_zero {ps : List Pk} {p : Pk} (h : ps[0]? = some p) : okAt ps 0 = pvP p := by unfold okAt; rw [h]; simp
theorem okAt_succ {ps : List Pk} {j : Nat} {p q : Pk} (h : ps[j + 1]? = some p) (hq : ps[j]? = some q) : okAt ps (j + 1) = (pvP p && stepB q p) := by
  unfold okAt; rw [h]; simp [hq]
theorem pvs_no {ps : List Pk} {i : Nat} (hi : i < ps.length) (h : okAt ps i = false) : pvsB ps = false := by
  unfold pvsB; rw [okTo_no hi h]; simp
theorem stepB_no1 {q p : Pk} (h : p.wd ≤ q.wd) : stepB q p = false := by
  have : ¬ q.wd < p.wd := by omega
  simp [stepB, this]
theorem stepB_no2 {q p : Pk} (h : p.tm < q.tm) : stepB q p = false := by
  have : ¬ q.tm ≤ p.tm := by omega
  simp [stepB, this]
theorem stepB_yes {q p : Pk} (h1 : ¬ p.wd ≤ q.wd) (h2 : ¬ p.tm < q.tm) : stepB q p = true := by
  simp [stepB]; omega

end Go.Proofs.Ytjdpagjcbhkonaa
