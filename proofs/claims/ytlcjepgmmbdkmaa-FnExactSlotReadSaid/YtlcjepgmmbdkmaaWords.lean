/-
  Words on memory that all walks of this claim share: a row of cells that can be read, and the code that the drawing functions read byte by byte.
-/
import Derived.Test.YtlcjepgmmbdkmaaNums
import Derived.Test.YtlcjepgmmbdkmaaMsz
import Derived.Lib.Hide
import Derived.Deep.Draws
import Derived.Laws.OwnMore
import Derived.Laws.BitsAllLaws
import Derived.Deep.QuietTactic
import Derived.BigQuiet
namespace Go.Proofs.Ytlcjepgmmbdkmaa
open Go.RowKit
set_option linter.unusedSimpArgs false
set_option linter.unusedVariables false

/-- The cells 'xs' stand one behind the other from the address on, in a block below B. -/
def Seg (w : World) (B : Nat) (A : Option Addr) (xs : List Value) : Prop :=
  0 < xs.length → ∃ b off, A = some ⟨b, off, none⟩ ∧ b < B ∧ ∀ j u, xs[j]? = some u → w.cell? ⟨b, off + j, none⟩ = some u

section
variable {w w' : World} {B B' : Nat} {A : Option Addr} {xs : List Value}
theorem Seg.nil (w : World) (B : Nat) (A : Option Addr) : Seg w B A [] := fun h => absurd h (by simp)
theorem Seg.keep (h : Seg w B A xs) (hk : ∀ b o, b < B → w'.cell? ⟨b, o, none⟩ = w.cell? ⟨b, o, none⟩) : Seg w' B A xs := fun hp => by
  obtain ⟨b, off, e, hb, hc⟩ := h hp
  exact ⟨b, off, e, hb, fun j u hu => (hk _ _ hb).trans (hc j u hu)⟩
theorem Seg.below (h : Seg w B A xs) (hb : Below B w w') : Seg w' B A xs := h.keep fun b o hlt => hb.cell (p := ⟨b, o, none⟩) hlt
theorem Seg.more (h : Seg w B A xs) (hB : B ≤ B') : Seg w B' A xs := fun hp => by
  obtain ⟨b, off, e, hb, hc⟩ := h hp
  exact ⟨b, off, e, by omega, hc⟩
end

/-- Numbers of one byte. -/
def IsByte (f : Nat → Int) : Prop := ∀ i, 0 ≤ f i ∧ f i ≤ 255

/-- The bytes of a code lie in memory below block B; the slice that leads to them has 'len' of them. -/
def Code (w : World) (B : Nat) (A : Option Addr) (len : Nat) : Prop :=
  0 < len → ∃ b off f, A = some ⟨b, off, none⟩ ∧ b < B ∧ IsByte f ∧ ∀ i, i < len → w.cell? ⟨b, off + i, none⟩ = some (.int .u8 (f i))

/-- Block g is a reader of a code: what it reads lies below B, it is itself at or behind B, and it has come no further than N. -/
def Rd (w : World) (B g N : Nat) : Prop :=
  B ≤ g ∧ ∃ (A : Option Addr) (len cap p : Nat), w.heap[g]? = some (.cells #[.slice A len cap, .int .i64 (p : Int)] 77 (0, 0)) ∧ len ≤ 2000 ∧ p ≤ N ∧ Code w B A len

section
variable {w w' : World} {B g N M : Nat} {A : Option Addr} {len : Nat}
theorem Code.keep (h : Code w B A len) (hk : ∀ b o, b < B → w'.cell? ⟨b, o, none⟩ = w.cell? ⟨b, o, none⟩) : Code w' B A len := fun hp => by
  obtain ⟨b, off, f, e, hb, hf, hc⟩ := h hp
  exact ⟨b, off, f, e, hb, hf, fun i hi => (hk _ _ hb).trans (hc i hi)⟩
theorem Rd.lt (h : Rd w B g N) : g < w.heap.size := by
  obtain ⟨_, A, len, cap, p, hg, _⟩ := h
  rcases Nat.lt_or_ge g w.heap.size with hl | hl
  · exact hl
  · rw [Array.getElem?_eq_none hl] at hg; cases hg
theorem Rd.le (h : Rd w B g N) (hNM : N ≤ M) : Rd w B g M := by
  obtain ⟨hB, A, len, cap, p, hg, hl, hp, hc⟩ := h
  exact ⟨hB, A, len, cap, p, hg, hl, by omega, hc⟩
/-- Whatever leaves the reader's block and all below B as they were keeps the reader. -/
theorem Rd.keep (h : Rd w B g N) (hb : ∀ k, k ≤ g → w'.heap[k]? = w.heap[k]?) : Rd w' B g N := by
  obtain ⟨hB, A, len, cap, p, hg, hl, hp, hc⟩ := h
  exact ⟨hB, A, len, cap, p, by rw [hb g (Nat.le_refl _)]; exact hg, hl, hp, hc.keep fun b o hbo => World.cell?_of_block (a := ⟨b, o, none⟩) (hb b (by omega))⟩
theorem Rd.alloc (h : Rd w B g N) (o : Obj) : Rd (w.alloc o) B g N :=
  h.keep fun k hk => Below.heap_alloc w o k (Nat.lt_of_le_of_lt hk h.lt)
theorem Rd.drew (h : Rd w B g N) : Rd w.drew B g N := h
theorem Rd.drewN (h : Rd w B g N) (n : Nat) : Rd (w.drewN n) B g N := h
theorem Rd.setCell (h : Rd w B g N) {p : Addr} (hp : g < p.block) (u : Value) : Rd (w.setCell p u) B g N :=
  h.keep fun k hk => Below.heap_setCell w p u k (by omega)
theorem Rd.below {B' : Nat} (h : Rd w B g N) (hb : Below B' w w') (hg : g < B') : Rd w' B g N :=
  h.keep fun k hk => hb.block k (by omega)
end

/-- What a walk through the code may do: the reader's block turns, and new blocks come. -/
def Goes (g : Nat) (w w' : World) : Prop := w.grownBy w' (some g)

section
variable {w w1 w2 : World} {g : Nat}
theorem Goes.refl (g : Nat) (w : World) : Goes g w w := World.grownBy.refl w _
theorem Goes.trans (h : Goes g w w1) (k : Goes g w1 w2) : Goes g w w2 :=
  ⟨k.os.trans h.os, k.tape.trans h.tape, k.output.trans h.output, Nat.le_trans h.size k.size, fun i hi hne => (k.block i (Nat.lt_of_lt_of_le hi h.size) hne).trans (h.block i hi hne)⟩
theorem Goes.alloc (h : Goes g w w1) (o : Obj) : Goes g w (w1.alloc o) :=
  h.trans (World.grownBy_alloc w1 o _)
theorem Goes.drew (h : Goes g w w1) : Goes g w w1.drew := ⟨h.os, h.tape, h.output, h.size, h.block⟩
theorem Goes.drewN (h : Goes g w w1) (n : Nat) : Goes g w (w1.drewN n) := ⟨h.os, h.tape, h.output, h.size, h.block⟩
theorem Goes.setCell (h : Goes g w w1) {p : Addr} (hp : p.block = g ∨ w.heap.size ≤ p.block) (u : Value) : Goes g w (w1.setCell p u) :=
  ⟨h.os, h.tape, h.output, by simpa [World.setCell] using h.size, fun i hi hne => (Below.heap_setCell w1 p u i (by
    rintro rfl
    rcases hp with hp | hp
    · exact hne (by rw [hp])
    · omega)).trans (h.block i hi hne)⟩
theorem Goes.below (h : Goes g w w1) {B : Nat} (hb : Below B w1 w2) (hB : w.heap.size ≤ B) : Goes g w w2 :=
  ⟨hb.os.trans h.os, hb.tape.trans h.tape, hb.output.trans h.output, Nat.le_trans h.size hb.size, fun i hi hne => (hb.block i (by omega)).trans (h.block i hi hne)⟩
theorem Goes.toBelow (h : Goes g w w1) {B : Nat} (hB : B ≤ w.heap.size) (hg : B ≤ g) : Below B w w1 :=
  ⟨h.os, h.tape, h.output, h.size, fun k hk => h.block k (by omega) (fun e => by cases e; omega)⟩
/-- What lies behind the reader's block reads as it did. -/
theorem Goes.old (h : Goes g w w1) : (∀ b o, g < b → b < w.heap.size → w1.cell? ⟨b, o, none⟩ = w.cell? ⟨b, o, none⟩) ∧ (∀ b o, g < b → b < w.heap.size → w1.frozen? ⟨b, o, none⟩ = w.frozen? ⟨b, o, none⟩) :=
  ⟨fun b o h1 h2 => World.cell?_of_block (a := ⟨b, o, none⟩) (h.block b h2 (fun e => by cases e; omega)), fun b o h1 h2 => World.frozen?_of_block (a := ⟨b, o, none⟩) (h.block b h2 (fun e => by cases e; omega))⟩
end

/-- What a function leaves that at most makes memory: all old cells and marks read as before. -/
theorem bold {W w1 : World} (hb : Below W.heap.size W w1) : (∀ b o, b < W.heap.size → w1.cell? ⟨b, o, none⟩ = W.cell? ⟨b, o, none⟩) ∧ (∀ b o, b < W.heap.size → w1.frozen? ⟨b, o, none⟩ = W.frozen? ⟨b, o, none⟩) ∧ (∀ b, b < W.heap.size → b < w1.heap.size) :=
  ⟨fun b o h => hb.cell (p := ⟨b, o, none⟩) h, fun b o h => hb.frozen (p := ⟨b, o, none⟩) h, fun _ h => Nat.lt_of_lt_of_le h hb.size⟩

/-- Memory that was there is as it was: the steps. -/
theorem Fr.step {w w1 w2 : World} (h : Below w.heap.size w w1) (k : Below w1.heap.size w1 w2) : Below w.heap.size w w2 := h.trans (k.mono h.size)
theorem Fr.alloc {w w1 : World} (h : Below w.heap.size w w1) (o : Obj) : Below w.heap.size w (w1.alloc o) := Below.alloc h h.size o
theorem Fr.alloc2 {w w1 : World} (h : Below w.heap.size w w1) (o1 o2 : Obj) : Below w.heap.size w ((w1.alloc o1).alloc o2) := Fr.alloc (Fr.alloc h _) _
theorem Fr.alloc3 {w w1 : World} (h : Below w.heap.size w w1) (o1 o2 o3 : Obj) : Below w.heap.size w (((w1.alloc o1).alloc o2).alloc o3) := Fr.alloc (Fr.alloc (Fr.alloc h _) _) _

theorem below_drewN {B : Nat} {a w : World} (h : Below B a w) (n : Nat) : Below B a (w.drewN n) := ⟨h.os, h.tape, h.output, h.size, h.block⟩

@[go_sem] theorem alloc_drewN_ (w : World) (n : Nat) (o : Obj) : (w.drewN n).alloc o = (w.alloc o).drewN n := rfl
@[go_sem] theorem setCell_drewN_ (w : World) (n : Nat) (a : Addr) (v : Value) : (w.drewN n).setCell a v = (w.setCell a v).drewN n := rfl

/-- w with new blocks and a tape that has gone on: what a callee leaves that turns nothing, as a term that the walk reckons with. -/
def more (w : World) (l : Array Obj) (k : Nat) : World := { w with heap := w.heap ++ l, drawn := k }
theorem more_of {w w' : World} (h : Below w.heap.size w w') : ∃ l k, w' = more w l k := by
  refine ⟨w'.heap.extract w.heap.size w'.heap.size, w'.drawn, ?_⟩
  obtain ⟨heap', tape', drawn', os', out'⟩ := w'
  obtain ⟨h1, h2, h3, h4, h5⟩ := h
  simp only [] at h1 h2 h3 h4 h5
  subst h1 h2 h3
  simp only [more, World.mk.injEq, and_true]
  apply Array.ext_getElem?
  intro i
  rw [Array.getElem?_append]
  split
  · rename_i hi; exact h5 i hi
  · rename_i hi
    rw [Array.getElem?_extract]
    by_cases h : i < heap'.size
    · rw [if_pos (by omega)]; congr 1; omega
    · rw [if_neg (by omega), Array.getElem?_eq_none (by omega)]
section
variable {w : World} {l : Array Obj} {k : Nat}
theorem more_heap (n : Nat) (h : n < w.heap.size) : (more w l k).heap[n]? = w.heap[n]? := by
  show (w.heap ++ l)[n]? = _
  rw [Array.getElem?_append, if_pos h]
theorem more_below : Below w.heap.size w (more w l k) := ⟨rfl, rfl, rfl, by simp [more], fun n h => more_heap n h⟩
@[go_sem] theorem more_cell (n i : Nat) (h : n < w.heap.size) : (more w l k).cell? ⟨n, i, none⟩ = w.cell? ⟨n, i, none⟩ := World.cell?_of_block (a := ⟨n, i, none⟩) (more_heap n h)
@[go_sem] theorem more_frozen (n i : Nat) (h : n < w.heap.size) : (more w l k).frozen? ⟨n, i, none⟩ = w.frozen? ⟨n, i, none⟩ := World.frozen?_of_block (a := ⟨n, i, none⟩) (more_heap n h)
@[go_sem] theorem more_set (n i : Nat) (v : Value) (h : n < w.heap.size) : (more w l k).setCell ⟨n, i, none⟩ v = more (w.setCell ⟨n, i, none⟩ v) l k := by
  unfold more World.setCell
  simp only [World.mk.injEq, and_true]
  apply Array.ext_getElem?
  intro j
  simp only [Array.getElem?_modify, Array.getElem?_append, Array.size_modify]
  by_cases hj : j < w.heap.size
  · simp [hj]
  · have : n ≠ j := by omega
    simp [hj, this]
@[simp, go_sem] theorem more_size : (more w l k).heap.size = msz w.heap.size l.size := by simp [more, msz]
@[go_sem] theorem more_drew : (more w l k).drew = more w l (k + 1) := rfl
@[go_sem] theorem drew_more : more w.drew l k = more w l k := rfl
theorem Fr.more {w0 : World} (h : Below w0.heap.size w0 w) (l : Array Obj) (k : Nat) : Below w0.heap.size w0 (more w l k) := Fr.step h more_below
end

end Go.Proofs.Ytlcjepgmmbdkmaa
