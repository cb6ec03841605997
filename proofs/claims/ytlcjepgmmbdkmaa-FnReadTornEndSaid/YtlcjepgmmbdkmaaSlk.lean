/-
  What the slots' functions share, beside leavers.
-/
import Derived.Test.YtlcjepgmmbdkmaaNew
import Derived.Test.YtlcjepgmmbdkmaaSbe
set_option linter.unusedVariables false
namespace Go.Br
open Go.Br Go.Conc Go.RowKit Go.Proofs.Ytlcjepgmmbdkmaa
theorem Re.ints {u v : World} (h : Re u v) {B : Nat} {A : Option Addr} {xs : List Int} (hp : IntRow u B A xs) : IntRow v B A xs := hp.keep fun b o _ => h.cell _
theorem Re.size {u v : World} (h : Re u v) : v.heap.size = u.heap.size := by rw [h.heap]
theorem Re.below {u v : World} (h : Re u v) : Low u.heap.size u v := fun b _ => by rw [h.heap]
theorem Low.below {B : Nat} {w w' : World} (h : Below B w w') : Low B w w' := fun b hb => h.block b hb
theorem Low.less {B B' : Nat} {w w' : World} (h : Low B w w') (hB : B' ≤ B) : Low B' w w' := fun b hb => h b (by omega)
theorem Low.comp {B : Nat} {a b c : World} (h : Low B a b) (k : Low B b c) : Low B a c := fun x hx => (k x hx).trans (h x hx)
theorem Re.blk {u v : World} (h : Re u v) {b : Nat} {T : TypeId} {c : Array Value} (k : Blk u b T c) : Blk v b T c := by
  unfold Blk at k ⊢; rw [h.heap]; exact k
end Go.Br
namespace Go.RowKit
open Go.Br Go.Conc Go.RowKit Go.Proofs.Ytlcjepgmmbdkmaa
theorem Below.low {B : Nat} {w w' : World} (h : Below B w w') : Low B w w' := fun b hb => h.block b hb
end Go.RowKit
namespace Go.Proofs.Ytlcjepgmmbdkmaa
open Go.Br Go.Conc Go.RowKit
open Go.Proofs.Ytlcjepgmmbdkmaa.Ph (plainF plainF_ok NewAt kh_newSlot)
set_option linter.unusedSimpArgs false
set_option linter.unusedVariables false


theorem moreB {B : Nat} {w0 w : World} (h : Below B w0 w) (hB : B ≤ w0.heap.size) (l : Array Obj) (k : Nat) : Below B w0 (more w l k) := h.trans (more_below.mono (Nat.le_trans hB h.size))
set_option maxHeartbeats 1000000 in
theorem written_any (ver : Int) (v : Value) (w : World) :
    Calls Try.prog 41 #[.agg #[.int .i64 ver, v]] w fun e w' => e = .returned (.bool (writtenB ver)) ∧ Below w.heap.size w w' := by
  go_enter Try.func41, Try.ntmps41
  go_wp2_with fail
  go_ret
  exact ⟨rfl, Fr.alloc (Below.refl _ _) _⟩

/-- What a change of a slot hands back. -/
structure ResI (B : Bool) (ver' : Int) (xs' : List Int) (u u' : World) (v : Value) : Prop where
  size : u.heap.size ≤ u'.heap.size
  low : Low u.heap.size u u'
  yes : B = true → ∃ R, u.heap.size ≤ R ∧ v = .tuple #[.agg #[.int .i64 ver', .slice (some ⟨R, 0, none⟩) xs'.length xs'.length], .bool true] ∧ u'.heap[R]? = some (.cells (xs'.map iv).toArray 3)
  no : B = false → v = .tuple #[.agg #[.int .i64 0, .slice none 0 0], .bool false]

section
variable {W0 : World} {Post : Value → World → Prop} {S : Nat → Bool} {X : Addr → Prop} {ver : Int} {xs : List Int} {A : Option Addr} {cap : Nat} {caller : Frame} {cs : List Frame}

/-- A return of a slot and a truth. -/
theorem slotRet {fr : Frame} {fn : Func} {u : World} {R : Nat} {x y : Value} {t : Bool} (hfn : Try.prog.funcs[fr.fn]? = some fn) (hm : fr.mode = .returning) (hk : fr.kind = .normal) (hd : fr.defers = []) (hr : fn.results = #[.cell 2 26, .tmp 3]) (h2 : fr.tmps[2]? = some (.pointer (some ⟨R, 0, none⟩))) (h3 : fr.tmps[3]? = some (.bool t))
    (hb : Blk u R 26 #[x, y]) (h : Kh Try.prog W0 Post S X (G (caller.finish (.tuple #[.agg #[x, y], .bool t])) cs) u) : Kh Try.prog W0 Post S X (G fr (caller :: cs)) u := by
  refine kh_ret hfn hm hk hd (fun T d => ?_) h
  have c0 : (pos u T d).cell? ⟨R, 0, none⟩ = some x := hb.cells 0
  have c1 : (pos u T d).cell? ⟨R, 1, none⟩ = some y := hb.cells 1
  simp [results, hr, go_sem, h2, h3, c0, c1]
/-- .. out of the midst of a piece. -/
theorem slotOut {fr : List Item → Frame} {fn : Func} {v W : World} {N R : Nat} {x y : Value} {t : Bool} (hfn : ∀ todo, Try.prog.funcs[(fr todo).fn]? = some fn) (hm : ∀ todo, (fr todo).mode = .returning) (hk : ∀ todo, (fr todo).kind = .normal) (hd : ∀ todo, (fr todo).defers = []) (hr : fn.results = #[.cell 2 26, .tmp 3])
    (h2 : ∀ todo, (fr todo).tmps[2]? = some (.pointer (some ⟨R, 0, none⟩))) (h3 : ∀ todo, (fr todo).tmps[3]? = some (.bool t)) (hbel : Below N v W) (hb : Blk W R 26 #[x, y]) (hN : W0.heap.size ≤ N)
    (h : Kh Try.prog W0 Post S X (G (caller.finish (.tuple #[.agg #[x, y], .bool t])) cs) W) : Low W0.heap.size v W ∧ ∀ todo, Kh Try.prog W0 Post S X (G (fr todo) (caller :: cs)) W :=
  ⟨hbel.low.less hN, fun todo => slotRet (hfn todo) (hm todo) (hk todo) (hd todo) hr (h2 todo) (h3 todo) hb h⟩
theorem ResI.none {B : Bool} {ver' : Int} {xs' : List Int} {u u1 v W : World} {N : Nat} (hN : N = u.heap.size) (h0 : Low N u u1) (hv : Re u1 v) (hz : N ≤ v.heap.size) (hbel : Below N v W) (hB : B = false) : ResI B ver' xs' u W (.tuple #[.agg #[.int .i64 0, .slice none 0 0], .bool false]) :=
  ⟨by rw [← hN]; exact Nat.le_trans hz hbel.size, by rw [← hN]; exact h0.comp (Low.comp (fun b _ => by rw [hv.heap]) hbel.low), fun h => (by rw [hB] at h; cases h), fun _ => rfl⟩
end
end Go.Proofs.Ytlcjepgmmbdkmaa
