/-
  Lists of pictures: how they lie in memory.
-/
import Derived.Test.YtjdpagjcbhkonaaPics
import Derived.Test.YtjdpagjcbhkonaaSo
namespace Go.Proofs.Ytjdpagjcbhkonaa
open Go.RowKit
set_option linter.unusedSimpArgs false
set_option linter.unusedVariables false

theorem picInfo : (Try.prog.info? 29).map (fun i => (i.zero, i.size, i.bytes)) = some (some (.agg #[.int .i64 0, .int .i64 0, .int .i64 0, .bool false, .bool false]), 5, 32) := by kernel_rfl
def picc (p : Pic) : List Value := [.int .i64 p.tm, .int .i64 p.many, .int .i64 p.sz, .bool p.k, .bool p.wh]
def piccs (ps : List Pic) : List Value := ps.flatMap picc
theorem piccs_length (ps : List Pic) : (piccs ps).length = ps.length * 5 := by
  induction ps with
  | nil => rfl
  | cons p ps ih => simp only [piccs, List.flatMap_cons, List.length_append, List.length_cons] at ih ⊢; rw [ih]; simp [picc]; omega
theorem piccs_append (ps qs : List Pic) : piccs (ps ++ qs) = piccs ps ++ piccs qs := by simp [piccs]
theorem piccs_get {ps : List Pic} {j : Nat} {p : Pic} (h : ps[j]? = some p) {f : Nat} (hf : f < 5) : (piccs ps)[j * 5 + f]? = (picc p)[f]? := by
  induction ps generalizing j with
  | nil => simp at h
  | cons q ps ih =>
    show (picc q ++ piccs ps)[j * 5 + f]? = _
    cases j with
    | zero => simp at h; subst h; rw [List.getElem?_append_left (by simp [picc]; omega)]; simp
    | succ j =>
      rw [List.getElem?_append_right (by simp [picc]; omega)]
      have : (j + 1) * 5 + f - (picc q).length = j * 5 + f := by simp [picc]; omega
      rw [this]
      exact ih (by simpa using h)
/-- A picture's five cells stand from the offset on. -/
def Five (w : World) (b o : Nat) (p : Pic) : Prop :=
  w.cell? ⟨b, o, none⟩ = some (.int .i64 p.tm) ∧ w.cell? ⟨b, o + 1, none⟩ = some (.int .i64 p.many) ∧ w.cell? ⟨b, o + 2, none⟩ = some (.int .i64 p.sz) ∧ w.cell? ⟨b, o + 3, none⟩ = some (.bool p.k) ∧ w.cell? ⟨b, o + 4, none⟩ = some (.bool p.wh)
/-- The slice that begins at A reads as these pictures; it lies below block B. -/
def PicRow (w : World) (B : Nat) (A : Option Addr) (ps : List Pic) : Prop :=
  0 < ps.length → ∃ b off, A = some ⟨b, off, none⟩ ∧ b < B ∧ ∀ j p, ps[j]? = some p → Five w b (off + j * 5) p
section
variable {w w' : World} {B B' : Nat} {A : Option Addr} {ps : List Pic} {b o : Nat} {p : Pic}
theorem Five.keep (h : Five w b o p) (hk : ∀ i, w'.cell? ⟨b, i, none⟩ = w.cell? ⟨b, i, none⟩) : Five w' b o p := by
  unfold Five at h ⊢
  rw [hk, hk, hk, hk, hk]
  exact h
theorem PicRow.nil (w : World) (B : Nat) (A : Option Addr) : PicRow w B A [] := fun h => absurd h (by simp)
theorem PicRow.keep (h : PicRow w B A ps) (hk : ∀ b o, b < B → w'.cell? ⟨b, o, none⟩ = w.cell? ⟨b, o, none⟩) : PicRow w' B A ps := fun hp => by
  obtain ⟨b, off, e, hb, hc⟩ := h hp
  exact ⟨b, off, e, hb, fun j p hj => (hc j p hj).keep fun i => hk b i hb⟩
theorem PicRow.below (h : PicRow w B A ps) (hb : Below B w w') : PicRow w' B A ps := h.keep fun b o hlt => hb.cell (p := ⟨b, o, none⟩) hlt
theorem PicRow.more (h : PicRow w B A ps) (hB : B ≤ B') : PicRow w B' A ps := fun hp => by
  obtain ⟨b, off, e, hb, hc⟩ := h hp
  exact ⟨b, off, e, by omega, hc⟩
theorem PicRow.mem (h : PicRow w w.heap.size A ps) (hb : Below w.heap.size w w') : PicRow w' w'.heap.size A ps := (h.below hb).more hb.size
end

/-- The slice v is the call's own and holds these pictures. -/
def OwnP (wx : World) (base : Nat) (v : Value) (ps : List Pic) : Prop := wx.ownsRow base 29 5 v ps.length (piccs ps)
theorem piccs_set (ps : List Pic) (k : Nat) (p q : Pic) (hk : ps[k]? = some p) (f : Nat) (u : Value) (hf : f < 5) (hq : (picc q) = (picc p).set f u) : (piccs ps).set (k * 5 + f) u = piccs (ps.set k q) := by
  induction ps generalizing k with
  | nil => simp at hk
  | cons r ps ih =>
    cases k with
    | zero =>
      simp at hk
      subst hk
      show (picc r ++ piccs ps).set (0 * 5 + f) u = picc q ++ piccs ps
      rw [List.set_append_left _ _ (by simp [picc]; omega), hq]
      simp
    | succ k =>
      show (picc r ++ piccs ps).set ((k + 1) * 5 + f) u = picc r ++ piccs (ps.set k q)
      rw [List.set_append_right _ _ (by simp [picc]; omega)]
      have : (k + 1) * 5 + f - (picc r).length = k * 5 + f := by simp [picc]; omega
      rw [this, ih k (by simpa using hk)]
theorem OwnP.cells {wx : World} {base b cap : Nat} {ps : List Pic} (h : OwnP wx base (.slice (some ⟨b, 0, none⟩) ps.length cap) ps) {k : Nat} {p : Pic} (hk : ps[k]? = some p) : Five wx b (k * 5) p := by
  have hkl : k < ps.length := by
    rcases Nat.lt_or_ge k ps.length with h' | h'
    · exact h'
    · rw [List.getElem?_eq_none h'] at hk; cases hk
  have g : ∀ f, f < 5 → wx.cell? ⟨b, k * 5 + f, none⟩ = (picc p)[f]? := fun f hf => by
    rw [World.ownsRow.cellAt h _ (by omega)]; exact piccs_get hk hf
  exact ⟨g 0 (by omega), g 1 (by omega), g 2 (by omega), g 3 (by omega), g 4 (by omega)⟩
theorem OwnP.set {wx : World} {base b cap : Nat} {ps : List Pic} (h : OwnP wx base (.slice (some ⟨b, 0, none⟩) ps.length cap) ps) {k : Nat} {p q : Pic} (hk : ps[k]? = some p) (f : Nat) (u : Value) (hf : f < 5) (hq : (picc q) = (picc p).set f u) :
    OwnP (wx.setCell ⟨b, k * 5 + f, none⟩ u) base (.slice (some ⟨b, 0, none⟩) (ps.set k q).length cap) (ps.set k q) := by
  have := (World.ownsRow.stored h (k * 5 + f) u).1
  rw [piccs_set ps k p q hk f u hf hq] at this
  unfold OwnP
  simpa using this
/-- A list of the call's own reads as its pictures. -/
theorem OwnP.row {wx : World} {base : Nat} {v : Value} {ps : List Pic} (h : OwnP wx base v ps) : ∃ A cap, v = .slice A ps.length cap ∧ ps.length ≤ cap ∧ cap ≤ maxLen ∧ PicRow wx wx.heap.size A ps := by
  rcases h.2 with ⟨hv, h0⟩ | ⟨b, cap, cur, hv, hb, hg, hn, hm, hs, ht⟩
  · have : ps = [] := List.eq_nil_of_length_eq_zero h0
    subst this
    exact ⟨none, 0, hv, Nat.le_refl _, Nat.zero_le _, PicRow.nil _ _ _⟩
  · refine ⟨some ⟨b, 0, none⟩, cap, hv, hn, hm, fun h0 => ⟨b, 0, rfl, ?_, fun j p hj => ?_⟩⟩
    · exact (Array.getElem?_eq_some_iff.1 hg).1
    · subst hv
      rw [Nat.zero_add]
      exact OwnP.cells (base := base) (cap := cap) h hj
theorem OwnP.below {w w' : World} {base : Nat} {v : Value} {ps : List Pic} (h : OwnP w base v ps) (hb : Below w.heap.size w w') : OwnP w' base v ps := by
  refine World.ownsRow.kept (row := none) h ⟨hb.os, hb.tape, hb.output, hb.size, fun k hk _ => hb.block k hk⟩ ?_
  cases hv : v.ownBlock with
  | none => exact .inl rfl
  | some k => right; intro e; cases e
theorem OwnP.alloc {w : World} {base : Nat} {v : Value} {ps : List Pic} (h : OwnP w base v ps) (o : Obj) : OwnP (w.alloc o) base v ps := World.ownsRow.alloc h o
theorem OwnP.empty {w : World} {b T base : Nat} (h : Blk w b 29 #[]) (hb : base ≤ b) : OwnP w base (.slice (some ⟨b, 0, none⟩) 0 0) [] :=
  ⟨rfl, .inr ⟨_, 0, #[], rfl, hb, h, Nat.le_refl _, Nat.zero_le _, rfl, rfl⟩⟩
theorem OwnP.mono_ {w : World} {B B' : Nat} {v : Value} {l : List Pic} (h : OwnP w B v l) (hB : B' ≤ B) : OwnP w B' v l := by
  refine ⟨h.1, ?_⟩
  rcases h.2 with h2 | ⟨g, cap, cur, hv, hb, r⟩
  · exact .inl h2
  · exact .inr ⟨g, cap, cur, hv, Nat.le_trans hB hb, r⟩
theorem OwnP.goes_ {wx w' : World} {base g : Nat} {v : Value} {ps : List Pic} (h : OwnP wx base v ps) (hg : Goes g wx w') (hn : v.ownBlock ≠ some g) : OwnP w' base v ps := by
  refine World.ownsRow.kept h hg ?_
  cases hv : v.ownBlock with
  | none => exact .inl rfl
  | some k => right; intro e; rw [hv] at hn; exact hn (by simpa using e)
/-- What PicturesOf leaves. -/
def PicPost (ps : List Pic) (w : World) (e : Ending) (w' : World) : Prop := ∃ v, e = .returned v ∧ OwnP w' w.heap.size v ps ∧ Below w.heap.size w w'

end Go.Proofs.Ytjdpagjcbhkonaa
