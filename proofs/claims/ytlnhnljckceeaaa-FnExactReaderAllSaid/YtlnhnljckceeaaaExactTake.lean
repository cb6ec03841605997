/-
  The exact law of ReaderTake.
-/
import Derived.Test.YtlnhnljckceeaaaTakeImpl
import Derived.Test.YtlnhnljckceeaaaTakeSpec
import Derived.Test.YtlnhnljckceeaaaFacts2
namespace Go.Proofs.Ytlnhnljckceeaaa
open Go.RowKit
set_option linter.unusedSimpArgs false
set_option linter.unusedVariables false

/-- What the operations of the last region leave: the ring that the program has seen, the argument, and its copy. -/
def VRing (room count : Int) (ps : List Pk) (A : Option Addr) (cap : Nat) (g : Nat) (i : Nat) (v : Value) (w : World) : Prop := match i with
  | 0 => v = .agg #[.int .i64 room, .int .i64 count, .slice (some ⟨g, 0, none⟩) ps.length ps.length]
  | 1 => v = .agg #[.int .i64 room, .int .i64 count, .slice A ps.length cap]
  | 2 => ∃ g', v = .agg #[.int .i64 room, .int .i64 count, .slice (some ⟨g', 0, none⟩) ps.length ps.length] ∧ PkRow w w.heap.size (some ⟨g', 0, none⟩) ps
  | _ => True
theorem VRing_keep {room count : Int} {ps : List Pk} {A : Option Addr} {cap g : Nat} : ∀ (i : Nat) (v : Value) (w w' : World), Below w.heap.size w w' → VRing room count ps A cap g i v w → VRing room count ps A cap g i v w'
  | 0, _, _, _, _, h => h
  | 1, _, _, _, _, h => h
  | 2, _, _, _, hb, ⟨g', e, h⟩ => ⟨g', e, h.mem hb⟩
  | _ + 3, _, _, _, _, h => h

/-- A block of three or of six cells, from a base on. -/
def Has3 (B : Nat) (v : Value) (w : World) : Prop := ∃ b c0 c1 c2, v = .pointer (some ⟨b, 0, none⟩) ∧ B ≤ b ∧ Blk w b 27 #[c0, c1, c2]
def Has6 (B : Nat) (v : Value) (w : World) : Prop := ∃ b c0 c1 c2 c3 c4 c5, v = .pointer (some ⟨b, 0, none⟩) ∧ B ≤ b ∧ Blk w b 31 #[c0, c1, c2, c3, c4, c5]
/-- .. that hold the results. -/
def Is3 (B : Nat) (a b : Int) (c : Bool) (v : Value) (w : World) : Prop := ∃ d, v = .pointer (some ⟨d, 0, none⟩) ∧ B ≤ d ∧ Blk w d 27 #[.int .i64 a, .int .i64 b, .bool c]
def Is6 (B : Nat) (p : Pk) (v : Value) (w : World) : Prop := ∃ d, v = .pointer (some ⟨d, 0, none⟩) ∧ B ≤ d ∧ Blk w d 31 #[.int .i64 p.wd, .int .i64 p.tm, .int .i64 p.ly, .int .i64 p.sz, .bool p.k, .bool p.l]
/-- One step of a region that writes the results of ReaderTake. -/
def RTake (B : Nat) (a b : Int) (c : Bool) (p : Pk) (sw : Bool) (w w' : World) : Prop := Below w.heap.size w w' ∨ (∃ d c0 c1 c2, B ≤ d ∧ Blk w d 27 #[c0, c1, c2] ∧ w' = wset3 w d (.int .i64 a) (.int .i64 b) (.bool c)) ∨
  (sw = true ∧ ∃ d c0 c1 c2 c3 c4 c5, B ≤ d ∧ Blk w d 31 #[c0, c1, c2, c3, c4, c5] ∧ w' = wset6 w d (.int .i64 p.wd) (.int .i64 p.tm) (.int .i64 p.ly) (.int .i64 p.sz) (.bool p.k) (.bool p.l))
theorem blk_size {w : World} {b T T' : Nat} {cs cs' : Array Value} (h : Blk w b T cs) (h' : Blk w b T' cs') : cs = cs' := by
  have e := h.symm.trans h'
  injection e with e
  injection e with e1 e2 e3
section
variable {B : Nat} {a b : Int} {c : Bool} {p : Pk} {sw : Bool} {w w' : World} {v : Value}
theorem Has3.step (h : Has3 B v w) (hr : RTake B a b c p sw w w') : Has3 B v w' := by
  obtain ⟨d, _, _, _, e, hd, hB⟩ := h
  rcases hr with hr | ⟨d', _, _, _, hd', hB', rfl⟩ | ⟨-, d', _, _, _, _, _, _, hd', hB', rfl⟩
  · exact ⟨d, _, _, _, e, hd, hB.below hr hB.lt⟩
  · by_cases he : d = d'
    · subst he; exact ⟨d, _, _, _, e, hd, hB.set3 _ _ _⟩
    · exact ⟨d, _, _, _, e, hd, hB.far3 he _ _ _⟩
  · have he : d ≠ d' := fun he => by subst he; have := congrArg Array.size (blk_size hB hB'); simp at this
    exact ⟨d, _, _, _, e, hd, hB.far6 he _ _ _ _ _ _⟩
theorem Has6.step (h : Has6 B v w) (hr : RTake B a b c p sw w w') : Has6 B v w' := by
  obtain ⟨d, _, _, _, _, _, _, e, hd, hB⟩ := h
  rcases hr with hr | ⟨d', _, _, _, hd', hB', rfl⟩ | ⟨-, d', _, _, _, _, _, _, hd', hB', rfl⟩
  · exact ⟨d, _, _, _, _, _, _, e, hd, hB.below hr hB.lt⟩
  · have he : d ≠ d' := fun he => by subst he; have := congrArg Array.size (blk_size hB hB'); simp at this
    exact ⟨d, _, _, _, _, _, _, e, hd, hB.far3 he _ _ _⟩
  · by_cases he : d = d'
    · subst he; exact ⟨d, _, _, _, _, _, _, e, hd, hB.set6 _ _ _ _ _ _⟩
    · exact ⟨d, _, _, _, _, _, _, e, hd, hB.far6 he _ _ _ _ _ _⟩
theorem Is3.step (h : Is3 B a b c v w) (hr : RTake B a b c p sw w w') : Is3 B a b c v w' := by
  obtain ⟨d, e, hd, hB⟩ := h
  rcases hr with hr | ⟨d', _, _, _, hd', hB', rfl⟩ | ⟨-, d', _, _, _, _, _, _, hd', hB', rfl⟩
  · exact ⟨d, e, hd, hB.below hr hB.lt⟩
  · by_cases he : d = d'
    · subst he; exact ⟨d, e, hd, hB.set3 _ _ _⟩
    · exact ⟨d, e, hd, hB.far3 he _ _ _⟩
  · have he : d ≠ d' := fun he => by subst he; have := congrArg Array.size (blk_size hB hB'); simp at this
    exact ⟨d, e, hd, hB.far6 he _ _ _ _ _ _⟩
theorem Is6.step (h : Is6 B p v w) (hr : RTake B a b c p sw w w') : Is6 B p v w' := by
  obtain ⟨d, e, hd, hB⟩ := h
  rcases hr with hr | ⟨d', _, _, _, hd', hB', rfl⟩ | ⟨-, d', _, _, _, _, _, _, hd', hB', rfl⟩
  · exact ⟨d, e, hd, hB.below hr hB.lt⟩
  · have he : d ≠ d' := fun he => by subst he; have := congrArg Array.size (blk_size hB hB'); simp at this
    exact ⟨d, e, hd, hB.far3 he _ _ _⟩
  · by_cases he : d = d'
    · subst he; exact ⟨d, e, hd, hB.set6 _ _ _ _ _ _⟩
    · exact ⟨d, e, hd, hB.far6 he _ _ _ _ _ _⟩
theorem PkRow.step {C : Nat} {A : Option Addr} {ps : List Pk} (h : PkRow w w.heap.size A ps) (hr : RTake B a b c p false w w') : PkRow w' w'.heap.size A ps := by
  rcases hr with hr | ⟨d', _, _, _, hd', hB', rfl⟩ | ⟨h0, _⟩
  · exact h.mem hr
  · simpa using h.set3 hB' _ _ _
  · cases h0
/-- Below the base all stays. -/
theorem RTake.below {w0 : World} (h : Below w0.heap.size w0 w) (hr : RTake w0.heap.size a b c p sw w w') : Below w0.heap.size w0 w' := by
  rcases hr with hr | ⟨d', _, _, _, hd', hB', rfl⟩ | ⟨-, d', _, _, _, _, _, _, hd', hB', rfl⟩
  · exact Fr.step h hr
  · exact ((h.setCell (p := ⟨d', 0, none⟩) hd' _).setCell (p := ⟨d', 1, none⟩) hd' _).setCell (p := ⟨d', 2, none⟩) hd' _
  · exact (((((h.setCell (p := ⟨d', 0, none⟩) hd' _).setCell (p := ⟨d', 1, none⟩) hd' _).setCell (p := ⟨d', 2, none⟩) hd' _).setCell (p := ⟨d', 3, none⟩) hd' _).setCell (p := ⟨d', 4, none⟩) hd' _).setCell (p := ⟨d', 5, none⟩) hd' _
end

/-- What the operations leave of the region that calls the reference. -/
def VS (B : Nat) (room count : Int) (A : Option Addr) (ps : List Pk) (cap : Nat) (nx lost : Int) (wt : Bool) (a b : Int) (c : Bool) (p : Pk) (n : Int) (i : Nat) (sw : Bool) (vs : List Value) (w : World) : Prop := match i, vs with
  | 0, [v] => v = .agg #[.int .i64 room, .int .i64 count, .slice A ps.length cap]
  | 1, [v] => ∃ g, v = .agg #[.int .i64 room, .int .i64 count, .slice (some ⟨g, 0, none⟩) ps.length ps.length] ∧ (sw = false → PkRow w w.heap.size (some ⟨g, 0, none⟩) ps)
  | 2, [v] => v = .agg #[.int .i64 nx, .int .i64 lost, .bool wt]
  | 3, [v] => v = .agg #[.int .i64 nx, .int .i64 lost, .bool wt]
  | 4, [v] => v = .tuple #[.agg #[.int .i64 a, .int .i64 b, .bool c], .agg #[.int .i64 p.wd, .int .i64 p.tm, .int .i64 p.ly, .int .i64 p.sz, .bool p.k, .bool p.l], .int .i64 n]
  | 5, [v] => v = .tuple #[.agg #[.int .i64 a, .int .i64 b, .bool c], .agg #[.int .i64 p.wd, .int .i64 p.tm, .int .i64 p.ly, .int .i64 p.sz, .bool p.k, .bool p.l], .int .i64 n]
  | 6, [v] => v = .agg #[.int .i64 a, .int .i64 b, .bool c]
  | 7, [v] => v = .agg #[.int .i64 p.wd, .int .i64 p.tm, .int .i64 p.ly, .int .i64 p.sz, .bool p.k, .bool p.l]
  | 8, [v] => v = .int .i64 n
  | 9, [v] => Has3 B v w
  | 10, [v] => Has6 B v w
  | 11, [v] => Is3 B a b c v w
  | 12, [v] => Is6 B p v w
  | _, _ => True
def dpS (i : Nat) : List Tmp := match i with
  | 0 => [19] | 1 => [20] | 2 => [21] | 3 => [22] | 4 => [23] | 5 => [18] | 6 => [24] | 7 => [25] | 8 => [26] | 9 => [6] | 10 => [7] | 11 => [6] | 12 => [7] | _ => []
/-- .. that calls the program. -/
def VI (B : Nat) (room count : Int) (ps : List Pk) (g9 : Nat) (nx lost : Int) (wt : Bool) (a b : Int) (c : Bool) (p : Pk) (n : Int) (i : Nat) (sw : Bool) (vs : List Value) (w : World) : Prop := match i, vs with
  | 0, [v] => v = .agg #[.int .i64 room, .int .i64 count, .slice (some ⟨g9, 0, none⟩) ps.length ps.length]
  | 1, [v] => v = .agg #[.int .i64 nx, .int .i64 lost, .bool wt]
  | 2, [v] => v = .agg #[.int .i64 nx, .int .i64 lost, .bool wt]
  | 3, [v] => v = .tuple #[.agg #[.int .i64 a, .int .i64 b, .bool c], .agg #[.int .i64 p.wd, .int .i64 p.tm, .int .i64 p.ly, .int .i64 p.sz, .bool p.k, .bool p.l], .int .i64 n]
  | 4, [v] => v = .tuple #[.agg #[.int .i64 a, .int .i64 b, .bool c], .agg #[.int .i64 p.wd, .int .i64 p.tm, .int .i64 p.ly, .int .i64 p.sz, .bool p.k, .bool p.l], .int .i64 n]
  | 5, [v] => v = .agg #[.int .i64 a, .int .i64 b, .bool c]
  | 6, [v] => v = .agg #[.int .i64 p.wd, .int .i64 p.tm, .int .i64 p.ly, .int .i64 p.sz, .bool p.k, .bool p.l]
  | 7, [v] => v = .int .i64 n
  | 8, [v] => Has3 B v w
  | 9, [v] => Has6 B v w
  | 10, [v] => Is3 B a b c v w
  | 11, [v] => Is6 B p v w
  | _, _ => True
def dpI (i : Nat) : List Tmp := match i with
  | 0 => [30] | 1 => [31] | 2 => [32] | 3 => [33] | 4 => [29] | 5 => [34] | 6 => [35] | 7 => [36] | 8 => [10] | 9 => [11] | 10 => [10] | 11 => [11] | _ => []
theorem VS_keep {B : Nat} {room count : Int} {A : Option Addr} {ps : List Pk} {cap : Nat} {nx lost : Int} {wt : Bool} {a b : Int} {c : Bool} {p : Pk} {n : Int} : ∀ (i : Nat) (sw sw' : Bool) (vs : List Value) (w w' : World), ((sw' = false → sw = false) ∧ RTake B a b c p sw' w w') → VS B room count A ps cap nx lost wt a b c p n i sw vs w → VS B room count A ps cap nx lost wt a b c p n i sw' vs w'
  | 0, _, _, [_], _, _, _, h => h
  | 1, sw, sw', [_], _, _, hr, ⟨g, e, h⟩ => ⟨g, e, fun hs => by subst hs; exact (h (hr.1 rfl)).step (C := 0) hr.2⟩
  | 2, _, _, [_], _, _, _, h => h
  | 3, _, _, [_], _, _, _, h => h
  | 4, _, _, [_], _, _, _, h => h
  | 5, _, _, [_], _, _, _, h => h
  | 6, _, _, [_], _, _, _, h => h
  | 7, _, _, [_], _, _, _, h => h
  | 8, _, _, [_], _, _, _, h => h
  | 9, _, _, [_], _, _, hr, h => h.step hr.2
  | 10, _, _, [_], _, _, hr, h => h.step hr.2
  | 11, _, _, [_], _, _, hr, h => h.step hr.2
  | 12, _, _, [_], _, _, hr, h => h.step hr.2
  | _ + 13, _, _, _, _, _, _, h => h
  | 0, _, _, [], _, _, _, h => h
  | 0, _, _, _ :: _ :: _, _, _, _, h => h
  | 1, _, _, [], _, _, _, h => h
  | 1, _, _, _ :: _ :: _, _, _, _, h => h
  | 2, _, _, [], _, _, _, h => h
  | 2, _, _, _ :: _ :: _, _, _, _, h => h
  | 3, _, _, [], _, _, _, h => h
  | 3, _, _, _ :: _ :: _, _, _, _, h => h
  | 4, _, _, [], _, _, _, h => h
  | 4, _, _, _ :: _ :: _, _, _, _, h => h
  | 5, _, _, [], _, _, _, h => h
  | 5, _, _, _ :: _ :: _, _, _, _, h => h
  | 6, _, _, [], _, _, _, h => h
  | 6, _, _, _ :: _ :: _, _, _, _, h => h
  | 7, _, _, [], _, _, _, h => h
  | 7, _, _, _ :: _ :: _, _, _, _, h => h
  | 8, _, _, [], _, _, _, h => h
  | 8, _, _, _ :: _ :: _, _, _, _, h => h
  | 9, _, _, [], _, _, _, h => h
  | 9, _, _, _ :: _ :: _, _, _, _, h => h
  | 10, _, _, [], _, _, _, h => h
  | 10, _, _, _ :: _ :: _, _, _, _, h => h
  | 11, _, _, [], _, _, _, h => h
  | 11, _, _, _ :: _ :: _, _, _, _, h => h
  | 12, _, _, [], _, _, _, h => h
  | 12, _, _, _ :: _ :: _, _, _, _, h => h
theorem VI_keep {B : Nat} {room count : Int} {ps : List Pk} {g9 : Nat} {nx lost : Int} {wt : Bool} {a b : Int} {c : Bool} {p : Pk} {n : Int} : ∀ (i : Nat) (sw sw' : Bool) (vs : List Value) (w w' : World), ((sw' = false → sw = false) ∧ RTake B a b c p sw' w w') → VI B room count ps g9 nx lost wt a b c p n i sw vs w → VI B room count ps g9 nx lost wt a b c p n i sw' vs w'
  | 0, _, _, [_], _, _, _, h => h
  | 1, _, _, [_], _, _, _, h => h
  | 2, _, _, [_], _, _, _, h => h
  | 3, _, _, [_], _, _, _, h => h
  | 4, _, _, [_], _, _, _, h => h
  | 5, _, _, [_], _, _, _, h => h
  | 6, _, _, [_], _, _, _, h => h
  | 7, _, _, [_], _, _, _, h => h
  | 8, _, _, [_], _, _, hr, h => h.step hr.2
  | 9, _, _, [_], _, _, hr, h => h.step hr.2
  | 10, _, _, [_], _, _, hr, h => h.step hr.2
  | 11, _, _, [_], _, _, hr, h => h.step hr.2
  | _ + 12, _, _, _, _, _, _, h => h
  | 0, _, _, [], _, _, _, h => h
  | 0, _, _, _ :: _ :: _, _, _, _, h => h
  | 1, _, _, [], _, _, _, h => h
  | 1, _, _, _ :: _ :: _, _, _, _, h => h
  | 2, _, _, [], _, _, _, h => h
  | 2, _, _, _ :: _ :: _, _, _, _, h => h
  | 3, _, _, [], _, _, _, h => h
  | 3, _, _, _ :: _ :: _, _, _, _, h => h
  | 4, _, _, [], _, _, _, h => h
  | 4, _, _, _ :: _ :: _, _, _, _, h => h
  | 5, _, _, [], _, _, _, h => h
  | 5, _, _, _ :: _ :: _, _, _, _, h => h
  | 6, _, _, [], _, _, _, h => h
  | 6, _, _, _ :: _ :: _, _, _, _, h => h
  | 7, _, _, [], _, _, _, h => h
  | 7, _, _, _ :: _ :: _, _, _, _, h => h
  | 8, _, _, [], _, _, _, h => h
  | 8, _, _, _ :: _ :: _, _, _, _, h => h
  | 9, _, _, [], _, _, _, h => h
  | 9, _, _, _ :: _ :: _, _, _, _, h => h
  | 10, _, _, [], _, _, _, h => h
  | 10, _, _, _ :: _ :: _, _, _, _, h => h
  | 11, _, _, [], _, _, _, h => h
  | 11, _, _, _ :: _ :: _, _, _, _, h => h

set_option maxHeartbeats 4000000 in
theorem exactTake (room count : Int) (A : Option Addr) (len cap : Nat) (ps : List Pk) (nx lost : Int) (wt : Bool) (w : World) (h0 : -9223372036854775808 ≤ room ∧ room ≤ 9223372036854775807) (h1 : -9223372036854775808 ≤ count ∧ count ≤ 9223372036854775807) (hl : len ≤ cap) (hm : cap ≤ maxLen) (hlen : ps.length = len) (hp : PkRow w w.heap.size A ps) (hn64 : -9223372036854775808 ≤ nx ∧ nx ≤ 9223372036854775807) (hl64 : -9223372036854775808 ≤ lost ∧ lost ≤ 9223372036854775807) :
    Calls Try.prog 6 #[.agg #[.int .i64 room, .int .i64 count, .slice A len cap], .agg #[.int .i64 nx, .int .i64 lost, .bool wt]] w fun e w' => e = .returned (.bool true) ∧ Below w.heap.size w w' := by
  subst hlen
  unfold maxLen at hm
  have hm' : cap ≤ 9223372036854775807 := by omega
  obtain ⟨a, b, c, p, n, hT⟩ : ∃ a b c p n, takeF room count ps nx lost wt = ⟨a, b, c, p, n⟩ := ⟨_, _, _, _, _, rfl⟩
  have HT := Lib.hid (show tkV (takeF room count ps nx lost wt) = .tuple #[.agg #[.int .i64 a, .int .i64 b, .bool c], .agg #[.int .i64 p.wd, .int .i64 p.tm, .int .i64 p.ly, .int .i64 p.sz, .bool p.k, .bool p.l], .int .i64 n] by rw [hT]; rfl)
  have K0 := ((Sk.nil hp (Below.refl _ _)).push (b := w.heap.size) 38 #[.int .i64 room, .int .i64 count, .slice A ps.length cap] rfl).push (b := w.heap.size + 1) 39 #[.int .i64 nx, .int .i64 lost, .bool wt] (by simp)
  clear h0 h1 hn64 hl64 hp hT
  go_enter Try.func6, Try.ntmps6
  go_wp2_with fail
  refine (szRing_any _ _ _ _ _ _ hl hm').mono ?_
  rintro e w1 ⟨rfl, hb⟩
  have K1 := K0.mem hb
  clear K0 hb
  by_cases hbig : 1048576 < (ps.length : Int)
  · rw [if_pos hbig]
    go_wp2_with fail
    go_ret
    exact ⟨rfl, K1.below⟩
  rw [if_neg hbig]
  have hn : ps.length ≤ 1048576 := by omega
  have hsz : ¬ 1048576 - (ps.length : Int) < 0 := by omega
  have HM := Lib.hid hm'
  have HL := Lib.hid hl
  have HN := Lib.hid hn
  have HL' := Lib.hid (show ps.length ≤ 9223372036854775807 by omega)
  go_upto_region 5 with fail
  clear hbig hsz
  refine wp_region_facts2 13 [19, 20, 21, 22, 23, 18, 24, 25, 26, 6, 7] dpS 12 (VS w1.heap.size room count A ps cap nx lost wt a b c p n) (fun _ W => Below w1.heap.size w1 W) (fun sw sw' W W' => (sw' = false → sw = false) ∧ RTake w1.heap.size a b c p sw' W W') (by kernel_rfl) (by kernel_rfl) (by rfl) ?hI VS_keep (by kernel_rfl) ?hob ?hend
  case hI => exact (Below.refl _ _).drew
  case hob =>
    simp only [List.take_succ_cons, List.take_zero, Obs2, and_true]
    refine ⟨?_, ?_, ?_, ?_, ?_, ?_, ?_, ?_, ?_, ?_, ?_, ?_, ?_⟩
    · intro k' x W sb hkn hI hs1 hs2 hd K hK0
      have hK := hK0.out
      simp only [setAll, Act.put, List.foldl_cons, List.foldl_nil, List.setIfInBounds_toArray, List.set_cons_succ, List.set_cons_zero] at hK ⊢
      have HK := Lib.hid hK
      clear hK hK0
      rw [if_pos (by rfl)]
      clear hd
      have cx := (K1.b1.below hI K1.b1.lt).cells
      go_simp
      exact HK.out _ _ hI ⟨fun h => by simpa using h, .inl (Below.refl _ _)⟩ (rfl)
    · intro k' x W sb hkn hI hs1 hs2 hd K hK0
      have hK := hK0.out
      simp only [setAll, Act.put, List.foldl_cons, List.foldl_nil, List.setIfInBounds_toArray, List.set_cons_succ, List.set_cons_zero] at hK ⊢
      have HK := Lib.hid hK
      clear hK hK0
      rw [if_pos (by rfl)]
      obtain e19 : x 19 = .agg #[.int .i64 room, .int .i64 count, .slice A ps.length cap] := hd 0 _ rfl (by kernel_rfl)
      rw [e19] at HK ⊢
      clear e19
      clear hd
      go_simp
      refine (toRing_any room count A ps cap W (K1.row.mem hI) HL.out HM.out HN.out).mono ?_
      rintro e w9 ⟨g, rfl, hg, hB9, hb9⟩
      exact HK.out _ _ (Fr.step hI hb9) ⟨fun h => by simpa using h, .inl hb9⟩ (⟨g, rfl, fun _ => .of_blk hB9⟩)
    · intro k' x W sb hkn hI hs1 hs2 hd K hK0
      have hK := hK0.out
      simp only [setAll, Act.put, List.foldl_cons, List.foldl_nil, List.setIfInBounds_toArray, List.set_cons_succ, List.set_cons_zero] at hK ⊢
      have HK := Lib.hid hK
      clear hK hK0
      rw [if_pos (by rfl)]
      clear hd
      have cx := (K1.b0.below hI K1.b0.lt).cells
      go_simp
      exact HK.out _ _ hI ⟨fun h => by simpa using h, .inl (Below.refl _ _)⟩ (rfl)
    · intro k' x W sb hkn hI hs1 hs2 hd K hK0
      have hK := hK0.out
      simp only [setAll, Act.put, List.foldl_cons, List.foldl_nil, List.setIfInBounds_toArray, List.set_cons_succ, List.set_cons_zero] at hK ⊢
      have HK := Lib.hid hK
      clear hK hK0
      rw [if_pos (by rfl)]
      obtain e21 : x 21 = .agg #[.int .i64 nx, .int .i64 lost, .bool wt] := hd 2 _ rfl (by kernel_rfl)
      rw [e21] at HK ⊢
      clear e21
      clear hd
      go_simp
      refine (toReader_mem nx lost wt W).mono ?_
      rintro e w9 ⟨rfl, hb9⟩
      exact HK.out _ _ (Fr.step hI hb9) ⟨fun h => by simpa using h, .inl hb9⟩ (rfl)
    · intro k' x W sb hkn hI hs1 hs2 hd K hK0
      have hK := hK0.out
      simp only [setAll, Act.put, List.foldl_cons, List.foldl_nil, List.setIfInBounds_toArray, List.set_cons_succ, List.set_cons_zero] at hK ⊢
      have HK := Lib.hid hK
      clear hK hK0
      rw [if_pos (by rfl)]
      have hsf : sb = false := hs1 (by kernel_rfl)
      obtain ⟨g, e20, hrow⟩ : ∃ g, x 20 = .agg #[.int .i64 room, .int .i64 count, .slice (some ⟨g, 0, none⟩) ps.length ps.length] ∧ (sb = false → PkRow W W.heap.size (some ⟨g, 0, none⟩) ps) := hd 1 _ rfl (by kernel_rfl)
      obtain e22 : x 22 = .agg #[.int .i64 nx, .int .i64 lost, .bool wt] := hd 3 _ rfl (by kernel_rfl)
      have hrow := hrow hsf
      rw [e20, e22] at HK ⊢
      clear e20 e22
      clear hd
      go_simp
      refine (takeSpec room count _ ps ps.length nx lost wt W hrow (Nat.le_refl _) HL'.out).mono ?_
      rintro e w9 ⟨rfl, hb9⟩
      rw [HT.out]
      exact HK.out _ _ (Fr.step hI hb9) ⟨fun h => by simpa using h, .inl hb9⟩ (rfl)
    · intro k' x W sb hkn hI hs1 hs2 hd K hK0
      have hK := hK0.out
      simp only [setAll, Act.put, List.foldl_cons, List.foldl_nil, List.setIfInBounds_toArray, List.set_cons_succ, List.set_cons_zero] at hK ⊢
      have HK := Lib.hid hK
      clear hK hK0
      rw [if_pos (by rfl)]
      obtain e23 : x 23 = .tuple #[.agg #[.int .i64 a, .int .i64 b, .bool c], .agg #[.int .i64 p.wd, .int .i64 p.tm, .int .i64 p.ly, .int .i64 p.sz, .bool p.k, .bool p.l], .int .i64 n] := hd 4 _ rfl (by kernel_rfl)
      rw [e23] at HK ⊢
      clear e23
      clear hd
      go_simp
      exact HK.out _ _ hI ⟨fun h => by simpa using h, .inl (Below.refl _ _)⟩ (rfl)
    · intro k' x W sb hkn hI hs1 hs2 hd K hK0
      have hK := hK0.out
      simp only [setAll, Act.put, List.foldl_cons, List.foldl_nil, List.setIfInBounds_toArray, List.set_cons_succ, List.set_cons_zero] at hK ⊢
      have HK := Lib.hid hK
      clear hK hK0
      rw [if_pos (by rfl)]
      obtain e18 : x 18 = .tuple #[.agg #[.int .i64 a, .int .i64 b, .bool c], .agg #[.int .i64 p.wd, .int .i64 p.tm, .int .i64 p.ly, .int .i64 p.sz, .bool p.k, .bool p.l], .int .i64 n] := hd 5 _ rfl (by kernel_rfl)
      rw [e18] at HK ⊢
      clear e18
      clear hd
      go_simp
      exact HK.out _ _ hI ⟨fun h => by simpa using h, .inl (Below.refl _ _)⟩ (rfl)
    · intro k' x W sb hkn hI hs1 hs2 hd K hK0
      have hK := hK0.out
      simp only [setAll, Act.put, List.foldl_cons, List.foldl_nil, List.setIfInBounds_toArray, List.set_cons_succ, List.set_cons_zero] at hK ⊢
      have HK := Lib.hid hK
      clear hK hK0
      rw [if_pos (by rfl)]
      obtain e18 : x 18 = .tuple #[.agg #[.int .i64 a, .int .i64 b, .bool c], .agg #[.int .i64 p.wd, .int .i64 p.tm, .int .i64 p.ly, .int .i64 p.sz, .bool p.k, .bool p.l], .int .i64 n] := hd 5 _ rfl (by kernel_rfl)
      rw [e18] at HK ⊢
      clear e18
      clear hd
      go_simp
      exact HK.out _ _ hI ⟨fun h => by simpa using h, .inl (Below.refl _ _)⟩ (rfl)
    · intro k' x W sb hkn hI hs1 hs2 hd K hK0
      have hK := hK0.out
      simp only [setAll, Act.put, List.foldl_cons, List.foldl_nil, List.setIfInBounds_toArray, List.set_cons_succ, List.set_cons_zero] at hK ⊢
      have HK := Lib.hid hK
      clear hK hK0
      rw [if_pos (by rfl)]
      obtain e18 : x 18 = .tuple #[.agg #[.int .i64 a, .int .i64 b, .bool c], .agg #[.int .i64 p.wd, .int .i64 p.tm, .int .i64 p.ly, .int .i64 p.sz, .bool p.k, .bool p.l], .int .i64 n] := hd 5 _ rfl (by kernel_rfl)
      rw [e18] at HK ⊢
      clear e18
      clear hd
      go_simp
      exact HK.out _ _ hI ⟨fun h => by simpa using h, .inl (Below.refl _ _)⟩ (rfl)
    · intro k' x W sb hkn hI hs1 hs2 hd K hK0
      have hK := hK0.out
      simp only [setAll, Act.put, List.foldl_cons, List.foldl_nil, List.setIfInBounds_toArray, List.set_cons_succ, List.set_cons_zero] at hK ⊢
      have HK := Lib.hid hK
      clear hK hK0
      rw [if_pos (by rfl)]
      clear hd
      go_simp
      exact HK.out _ _ (Fr.alloc hI _) ⟨fun h => by simpa using h, .inl (Fr.alloc (Below.refl _ _) _)⟩ (⟨_, _, _, _, rfl, hI.size, Blk.new _ _ _ rfl⟩)
    · intro k' x W sb hkn hI hs1 hs2 hd K hK0
      have hK := hK0.out
      simp only [setAll, Act.put, List.foldl_cons, List.foldl_nil, List.setIfInBounds_toArray, List.set_cons_succ, List.set_cons_zero] at hK ⊢
      have HK := Lib.hid hK
      clear hK hK0
      rw [if_pos (by rfl)]
      clear hd
      go_simp
      exact HK.out _ _ (Fr.alloc hI _) ⟨fun h => by simpa using h, .inl (Fr.alloc (Below.refl _ _) _)⟩ (⟨_, _, _, _, _, _, _, rfl, hI.size, Blk.new _ _ _ rfl⟩)
    · intro k' x W sb hkn hI hs1 hs2 hd K hK0
      have hK := hK0.out
      simp only [setAll, Act.put, List.foldl_cons, List.foldl_nil, List.setIfInBounds_toArray, List.set_cons_succ, List.set_cons_zero] at hK ⊢
      have HK := Lib.hid hK
      clear hK hK0
      rw [if_pos (by rfl)]
      obtain ⟨d, _, _, _, e6, hdl, hB⟩ : Has3 w1.heap.size (x 6) W := hd 9 _ rfl (by kernel_rfl)
      obtain e24 : x 24 = .agg #[.int .i64 a, .int .i64 b, .bool c] := hd 6 _ rfl (by kernel_rfl)
      have E := Lib.hid e6
      rw [e6, e24] at HK ⊢
      clear e6 e24
      clear hd
      have f6 := hB.free
      have c6 := hB.cells
      go_simp
      have hr : RTake w1.heap.size a b c p sb W (wset3 W d (.int .i64 a) (.int .i64 b) (.bool c)) := .inr (.inl ⟨d, _, _, _, hdl, hB, rfl⟩)
      exact HK.out undef _ (hr.below hI) ⟨fun h => by simpa using h, (by cases sb <;> exact hr)⟩ (⟨d, E.out, hdl, hB.set3 _ _ _⟩)
    · intro k' x W sb hkn hI hs1 hs2 hd K hK0
      have hK := hK0.out
      simp only [setAll, Act.put, List.foldl_cons, List.foldl_nil, List.setIfInBounds_toArray, List.set_cons_succ, List.set_cons_zero] at hK ⊢
      have HK := Lib.hid hK
      clear hK hK0
      rw [if_pos (by rfl)]
      obtain ⟨d, _, _, _, _, _, _, e7, hdl, hB⟩ : Has6 w1.heap.size (x 7) W := hd 10 _ rfl (by kernel_rfl)
      obtain e25 : x 25 = .agg #[.int .i64 p.wd, .int .i64 p.tm, .int .i64 p.ly, .int .i64 p.sz, .bool p.k, .bool p.l] := hd 7 _ rfl (by kernel_rfl)
      have E := Lib.hid e7
      rw [e7, e25] at HK ⊢
      clear e7 e25
      clear hd
      have f6 := hB.free
      have c6 := hB.cells
      go_simp
      have hr : RTake w1.heap.size a b c p true W (wset6 W d (.int .i64 p.wd) (.int .i64 p.tm) (.int .i64 p.ly) (.int .i64 p.sz) (.bool p.k) (.bool p.l)) := .inr (.inr ⟨rfl, d, _, _, _, _, _, _, hdl, hB, rfl⟩)
      exact HK.out undef _ (hr.below hI) ⟨fun h => by simp at h, (by cases sb <;> exact hr)⟩ (⟨d, E.out, hdl, hB.set6 _ _ _ _ _ _⟩)
  case hend =>
    intro x w2 sb hI2 hV
    obtain ⟨d6, e6, hd6, hB6⟩ : Is3 w1.heap.size a b c (x 6) w2 := hV 11 _ (by omega) rfl
    obtain ⟨d7, e7, hd7, hB7⟩ : Is6 w1.heap.size p (x 7) w2 := hV 12 _ (by omega) rfl
    obtain e26 : x 26 = .int .i64 n := hV 8 _ (by omega) rfl
    clear hV
    simp only [setAll, Act.put, List.foldl_cons, List.foldl_nil, List.setIfInBounds_toArray, List.set_cons_succ, List.set_cons_zero, List.drop_succ_cons, List.drop_zero]
    rw [e6, e7, e26]
    clear e6 e7 e26
    have K2 := K1.mem hI2
    clear K1 hI2 hd6 hd7
    have c1 := K2.b1.cells; have l1 := K2.b1.lt
    go_wp2_with fail
    refine (toRing_any room count A ps cap w2 K2.row HL.out HM.out HN.out).mono ?_
    rintro e w3 ⟨g9, rfl, hg9, hB9, hb⟩
    have K3 := (K2.mem hb).push 25 #[.int .i64 room, .int .i64 count, .slice (some ⟨g9, 0, none⟩) ps.length ps.length] rfl
    have G3 := (PkRow.of_blk hB9).alloc (.cells #[.int .i64 room, .int .i64 count, .slice (some ⟨g9, 0, none⟩) ps.length ps.length] 25)
    have Z6 := (hB6.below hb hB6.lt).alloc (.cells #[.int .i64 room, .int .i64 count, .slice (some ⟨g9, 0, none⟩) ps.length ps.length] 25)
    have Z7 := (hB7.below hb hB7.lt).alloc (.cells #[.int .i64 room, .int .i64 count, .slice (some ⟨g9, 0, none⟩) ps.length ps.length] 25)
    clear K2 c1 l1 hB6 hB7 hB9 hb hg9
    go_upto_region 7 with fail
    obtain ⟨W4, hW4⟩ : ∃ W4, W4 = w3.alloc (.cells #[.int .i64 room, .int .i64 count, .slice (some ⟨g9, 0, none⟩) ps.length ps.length] 25) := ⟨_, rfl⟩
    rw [← hW4] at K3 G3 Z6 Z7 ⊢
    clear hW4
    refine wp_region_facts2 12 [30, 31, 32, 33, 29, 34, 35, 36, 10, 11] dpI 11 (VI W4.heap.size room count ps g9 nx lost wt a b c p n) (fun _ W => Below W4.heap.size W4 W) (fun sw sw' W W' => (sw' = false → sw = false) ∧ RTake W4.heap.size a b c p sw' W W') (by kernel_rfl) (by kernel_rfl) (by rfl) ?hJ VI_keep (by kernel_rfl) ?hobJ ?hendJ
    case hJ => exact (Below.refl _ _).drew
    case hobJ =>
      simp only [List.take_succ_cons, List.take_zero, Obs2, and_true]
      refine ⟨?_, ?_, ?_, ?_, ?_, ?_, ?_, ?_, ?_, ?_, ?_, ?_⟩
      · intro k' x W sb hkn hI hs1 hs2 hd K hK0
        have hK := hK0.out
        simp only [setAll, Act.put, List.foldl_cons, List.foldl_nil, List.setIfInBounds_toArray, List.set_cons_succ, List.set_cons_zero] at hK ⊢
        have HK := Lib.hid hK
        clear hK hK0
        rw [if_pos (by rfl)]
        clear hd
        have cx := (K3.b0.below hI K3.b0.lt).cells
        go_simp
        exact HK.out _ _ hI ⟨fun h => by simpa using h, .inl (Below.refl _ _)⟩ (rfl)
      · intro k' x W sb hkn hI hs1 hs2 hd K hK0
        have hK := hK0.out
        simp only [setAll, Act.put, List.foldl_cons, List.foldl_nil, List.setIfInBounds_toArray, List.set_cons_succ, List.set_cons_zero] at hK ⊢
        have HK := Lib.hid hK
        clear hK hK0
        rw [if_pos (by rfl)]
        clear hd
        have cx := (K3.b1.below hI K3.b1.lt).cells
        go_simp
        exact HK.out _ _ hI ⟨fun h => by simpa using h, .inl (Below.refl _ _)⟩ (rfl)
      · intro k' x W sb hkn hI hs1 hs2 hd K hK0
        have hK := hK0.out
        simp only [setAll, Act.put, List.foldl_cons, List.foldl_nil, List.setIfInBounds_toArray, List.set_cons_succ, List.set_cons_zero] at hK ⊢
        have HK := Lib.hid hK
        clear hK hK0
        rw [if_pos (by rfl)]
        obtain e31 : x 31 = .agg #[.int .i64 nx, .int .i64 lost, .bool wt] := hd 1 _ rfl (by kernel_rfl)
        rw [e31] at HK ⊢
        clear e31
        clear hd
        go_simp
        refine (toReader_mem nx lost wt W).mono ?_
        rintro e w9 ⟨rfl, hb9⟩
        exact HK.out _ _ (Fr.step hI hb9) ⟨fun h => by simpa using h, .inl hb9⟩ (rfl)
      · intro k' x W sb hkn hI hs1 hs2 hd K hK0
        have hK := hK0.out
        simp only [setAll, Act.put, List.foldl_cons, List.foldl_nil, List.setIfInBounds_toArray, List.set_cons_succ, List.set_cons_zero] at hK ⊢
        have HK := Lib.hid hK
        clear hK hK0
        rw [if_pos (by rfl)]
        obtain e30 : x 30 = .agg #[.int .i64 room, .int .i64 count, .slice (some ⟨g9, 0, none⟩) ps.length ps.length] := hd 0 _ rfl (by kernel_rfl)
        obtain e32 : x 32 = .agg #[.int .i64 nx, .int .i64 lost, .bool wt] := hd 2 _ rfl (by kernel_rfl)
        rw [e30, e32] at HK ⊢
        clear e30 e32
        clear hd
        go_simp
        refine (takeImpl room count _ ps ps.length nx lost wt W (G3.mem hI) (Nat.le_refl _) HL'.out).mono ?_
        rintro e w9 ⟨rfl, hb9⟩
        rw [HT.out]
        exact HK.out _ _ (Fr.step hI hb9) ⟨fun h => by simpa using h, .inl hb9⟩ (rfl)
      · intro k' x W sb hkn hI hs1 hs2 hd K hK0
        have hK := hK0.out
        simp only [setAll, Act.put, List.foldl_cons, List.foldl_nil, List.setIfInBounds_toArray, List.set_cons_succ, List.set_cons_zero] at hK ⊢
        have HK := Lib.hid hK
        clear hK hK0
        rw [if_pos (by rfl)]
        obtain e33 : x 33 = .tuple #[.agg #[.int .i64 a, .int .i64 b, .bool c], .agg #[.int .i64 p.wd, .int .i64 p.tm, .int .i64 p.ly, .int .i64 p.sz, .bool p.k, .bool p.l], .int .i64 n] := hd 3 _ rfl (by kernel_rfl)
        rw [e33] at HK ⊢
        clear e33
        clear hd
        go_simp
        exact HK.out _ _ hI ⟨fun h => by simpa using h, .inl (Below.refl _ _)⟩ (rfl)
      · intro k' x W sb hkn hI hs1 hs2 hd K hK0
        have hK := hK0.out
        simp only [setAll, Act.put, List.foldl_cons, List.foldl_nil, List.setIfInBounds_toArray, List.set_cons_succ, List.set_cons_zero] at hK ⊢
        have HK := Lib.hid hK
        clear hK hK0
        rw [if_pos (by rfl)]
        obtain e29 : x 29 = .tuple #[.agg #[.int .i64 a, .int .i64 b, .bool c], .agg #[.int .i64 p.wd, .int .i64 p.tm, .int .i64 p.ly, .int .i64 p.sz, .bool p.k, .bool p.l], .int .i64 n] := hd 4 _ rfl (by kernel_rfl)
        rw [e29] at HK ⊢
        clear e29
        clear hd
        go_simp
        exact HK.out _ _ hI ⟨fun h => by simpa using h, .inl (Below.refl _ _)⟩ (rfl)
      · intro k' x W sb hkn hI hs1 hs2 hd K hK0
        have hK := hK0.out
        simp only [setAll, Act.put, List.foldl_cons, List.foldl_nil, List.setIfInBounds_toArray, List.set_cons_succ, List.set_cons_zero] at hK ⊢
        have HK := Lib.hid hK
        clear hK hK0
        rw [if_pos (by rfl)]
        obtain e29 : x 29 = .tuple #[.agg #[.int .i64 a, .int .i64 b, .bool c], .agg #[.int .i64 p.wd, .int .i64 p.tm, .int .i64 p.ly, .int .i64 p.sz, .bool p.k, .bool p.l], .int .i64 n] := hd 4 _ rfl (by kernel_rfl)
        rw [e29] at HK ⊢
        clear e29
        clear hd
        go_simp
        exact HK.out _ _ hI ⟨fun h => by simpa using h, .inl (Below.refl _ _)⟩ (rfl)
      · intro k' x W sb hkn hI hs1 hs2 hd K hK0
        have hK := hK0.out
        simp only [setAll, Act.put, List.foldl_cons, List.foldl_nil, List.setIfInBounds_toArray, List.set_cons_succ, List.set_cons_zero] at hK ⊢
        have HK := Lib.hid hK
        clear hK hK0
        rw [if_pos (by rfl)]
        obtain e29 : x 29 = .tuple #[.agg #[.int .i64 a, .int .i64 b, .bool c], .agg #[.int .i64 p.wd, .int .i64 p.tm, .int .i64 p.ly, .int .i64 p.sz, .bool p.k, .bool p.l], .int .i64 n] := hd 4 _ rfl (by kernel_rfl)
        rw [e29] at HK ⊢
        clear e29
        clear hd
        go_simp
        exact HK.out _ _ hI ⟨fun h => by simpa using h, .inl (Below.refl _ _)⟩ (rfl)
      · intro k' x W sb hkn hI hs1 hs2 hd K hK0
        have hK := hK0.out
        simp only [setAll, Act.put, List.foldl_cons, List.foldl_nil, List.setIfInBounds_toArray, List.set_cons_succ, List.set_cons_zero] at hK ⊢
        have HK := Lib.hid hK
        clear hK hK0
        rw [if_pos (by rfl)]
        clear hd
        go_simp
        exact HK.out _ _ (Fr.alloc hI _) ⟨fun h => by simpa using h, .inl (Fr.alloc (Below.refl _ _) _)⟩ (⟨_, _, _, _, rfl, hI.size, Blk.new _ _ _ rfl⟩)
      · intro k' x W sb hkn hI hs1 hs2 hd K hK0
        have hK := hK0.out
        simp only [setAll, Act.put, List.foldl_cons, List.foldl_nil, List.setIfInBounds_toArray, List.set_cons_succ, List.set_cons_zero] at hK ⊢
        have HK := Lib.hid hK
        clear hK hK0
        rw [if_pos (by rfl)]
        clear hd
        go_simp
        exact HK.out _ _ (Fr.alloc hI _) ⟨fun h => by simpa using h, .inl (Fr.alloc (Below.refl _ _) _)⟩ (⟨_, _, _, _, _, _, _, rfl, hI.size, Blk.new _ _ _ rfl⟩)
      · intro k' x W sb hkn hI hs1 hs2 hd K hK0
        have hK := hK0.out
        simp only [setAll, Act.put, List.foldl_cons, List.foldl_nil, List.setIfInBounds_toArray, List.set_cons_succ, List.set_cons_zero] at hK ⊢
        have HK := Lib.hid hK
        clear hK hK0
        rw [if_pos (by rfl)]
        obtain ⟨d, _, _, _, e10, hdl, hB⟩ : Has3 W4.heap.size (x 10) W := hd 8 _ rfl (by kernel_rfl)
        obtain e34 : x 34 = .agg #[.int .i64 a, .int .i64 b, .bool c] := hd 5 _ rfl (by kernel_rfl)
        have E := Lib.hid e10
        rw [e10, e34] at HK ⊢
        clear e10 e34
        clear hd
        have f6 := hB.free
        have c6 := hB.cells
        go_simp
        have hr : RTake W4.heap.size a b c p sb W (wset3 W d (.int .i64 a) (.int .i64 b) (.bool c)) := .inr (.inl ⟨d, _, _, _, hdl, hB, rfl⟩)
        exact HK.out undef _ (hr.below hI) ⟨fun h => by simpa using h, (by cases sb <;> exact hr)⟩ (⟨d, E.out, hdl, hB.set3 _ _ _⟩)
      · intro k' x W sb hkn hI hs1 hs2 hd K hK0
        have hK := hK0.out
        simp only [setAll, Act.put, List.foldl_cons, List.foldl_nil, List.setIfInBounds_toArray, List.set_cons_succ, List.set_cons_zero] at hK ⊢
        have HK := Lib.hid hK
        clear hK hK0
        rw [if_pos (by rfl)]
        obtain ⟨d, _, _, _, _, _, _, e11, hdl, hB⟩ : Has6 W4.heap.size (x 11) W := hd 9 _ rfl (by kernel_rfl)
        obtain e35 : x 35 = .agg #[.int .i64 p.wd, .int .i64 p.tm, .int .i64 p.ly, .int .i64 p.sz, .bool p.k, .bool p.l] := hd 6 _ rfl (by kernel_rfl)
        have E := Lib.hid e11
        rw [e11, e35] at HK ⊢
        clear e11 e35
        clear hd
        have f6 := hB.free
        have c6 := hB.cells
        go_simp
        have hr : RTake W4.heap.size a b c p true W (wset6 W d (.int .i64 p.wd) (.int .i64 p.tm) (.int .i64 p.ly) (.int .i64 p.sz) (.bool p.k) (.bool p.l)) := .inr (.inr ⟨rfl, d, _, _, _, _, _, _, hdl, hB, rfl⟩)
        exact HK.out undef _ (hr.below hI) ⟨fun h => by simp at h, (by cases sb <;> exact hr)⟩ (⟨d, E.out, hdl, hB.set6 _ _ _ _ _ _⟩)
    case hendJ =>
      intro x w5 sb5 hI5 hV
      obtain ⟨d10, e10, hd10, hB10⟩ : Is3 W4.heap.size a b c (x 10) w5 := hV 10 _ (by omega) rfl
      obtain ⟨d11, e11, hd11, hB11⟩ : Is6 W4.heap.size p (x 11) w5 := hV 11 _ (by omega) rfl
      obtain e36 : x 36 = .int .i64 n := hV 7 _ (by omega) rfl
      clear hV
      simp only [setAll, Act.put, List.foldl_cons, List.foldl_nil, List.setIfInBounds_toArray, List.set_cons_succ, List.set_cons_zero, List.drop_succ_cons, List.drop_zero]
      rw [e10, e11, e36]
      clear e10 e11 e36
      have K5 := K3.mem hI5
      have G5 := G3.mem hI5
      have Y6 := Z6.below hI5 Z6.lt
      have Y7 := Z7.below hI5 Z7.lt
      clear K3 G3 Z6 Z7 hI5 hd10 hd11
      have c6 := Y6.cells; have c7 := Y7.cells; have c10 := hB10.cells; have c11 := hB11.cells
      have l6 := Y6.lt; have l7 := Y7.lt; have l10 := hB10.lt; have l11 := hB11.lt
      go_wp2_with fail
      refine (eqReader_same _ _ _ _).mono ?_
      rintro e w6 ⟨rfl, hb⟩
      have K6 := K5.mem hb
      have G6 := G5.mem hb
      have Y7' := Y7.below hb Y7.lt
      have B11 := hB11.below hb hB11.lt
      clear K5 G5 Y6 Y7 hB10 hB11 hb c6 c7 c10 c11 l6 l7 l10 l11
      have c7 := Y7'.cells; have c11 := B11.cells; have l7 := Y7'.lt; have l11 := B11.lt
      go_wp2_with fail
      refine (eqPk_same _ _ _ _ _ _ _).mono ?_
      rintro e w7 ⟨rfl, hb⟩
      have K7 := K6.mem hb
      have G7 := G6.mem hb
      clear K6 G6 Y7' B11 hb c7 c11 l7 l11
      go_upto_region 10 with fail
      have X7 := K7.b2
      have Y7 := K7.b0
      have P7 := K7.row
      have L7 := K7.below
      have hl := HL.out; have hm' := HM.out; have hn := HN.out
      clear HL HM HN
      have hxlt : w.heap.size + 1 ≤ w7.heap.size := X7.lt
      have hylt : w3.heap.size + 1 ≤ w7.heap.size := Y7.lt
      have Xq := Lib.hid X7
      have Yq := Lib.hid Y7
      have HM := Lib.hid hm'
      have HL := Lib.hid hl
      have HN := Lib.hid hn
      refine wp_region_facts 3 [52, 53, 54] (VRing room count ps A cap g9) (fun _ W => Below w7.heap.size w7 W) (fun w w' => Below w.heap.size w w') (by kernel_rfl) (by kernel_rfl) (by rfl) ?hI9 VRing_keep ?hob9 ?hend9
      case hI9 => exact (Below.refl _ _).drew
      case hob9 =>
        simp only [List.take_succ_cons, List.take_zero, Obs, and_true]
        refine ⟨?_, ?_, ?_⟩
        · intro k' x W hkn hI hd K hK0
          have hK := hK0.out
          simp only [setAll, Act.put, List.foldl_cons, List.foldl_nil, List.setIfInBounds_toArray, List.set_cons_succ, List.set_cons_zero] at hK ⊢
          have HK := Lib.hid hK
          clear hK hK0
          rw [if_pos (by rfl)]
          clear hd
          have cx := (Yq.out.below hI Yq.out.lt).cells
          go_simp
          exact HK.out _ _ hI (Below.refl _ _) ⟨rfl, fun h => by cases h⟩
        · intro k' x W hkn hI hd K hK0
          have hK := hK0.out
          simp only [setAll, Act.put, List.foldl_cons, List.foldl_nil, List.setIfInBounds_toArray, List.set_cons_succ, List.set_cons_zero] at hK ⊢
          have HK := Lib.hid hK
          clear hK hK0
          rw [if_pos (by rfl)]
          clear hd
          have cx := (Xq.out.below hI Xq.out.lt).cells
          go_simp
          exact HK.out _ _ hI (Below.refl _ _) ⟨rfl, fun h => by cases h⟩
        · intro k' x W hkn hI hd K hK0
          have hK := hK0.out
          simp only [setAll, Act.put, List.foldl_cons, List.foldl_nil, List.setIfInBounds_toArray, List.set_cons_succ, List.set_cons_zero] at hK ⊢
          have HK := Lib.hid hK
          clear hK hK0
          rw [if_pos (by rfl)]
          obtain e23 : x 53 = .agg #[.int .i64 room, .int .i64 count, .slice A ps.length cap] := hd 1 _ rfl (by kernel_rfl)
          rw [e23] at HK ⊢
          clear e23
          clear hd
          go_simp
          refine (toRing_any room count A ps cap W (P7.mem hI) HL.out HM.out HN.out).mono ?_
          rintro e w1 ⟨g1, rfl, hg1, hB1, hb1⟩
          exact HK.out _ _ (Fr.step hI hb1) hb1 ⟨⟨g1, rfl, .of_blk hB1⟩, fun h => by cases h⟩
      case hend9 =>
        intro x W hI hV
        obtain e0 : x 52 = .agg #[.int .i64 room, .int .i64 count, .slice (some ⟨g9, 0, none⟩) ps.length ps.length] := hV 0 _ (by omega) rfl
        obtain ⟨g9, e2, hg9⟩ : ∃ g9, x 54 = .agg #[.int .i64 room, .int .i64 count, .slice (some ⟨g9, 0, none⟩) ps.length ps.length] ∧ PkRow W W.heap.size (some ⟨g9, 0, none⟩) ps := hV 2 _ (by omega) rfl
        clear hV
        simp only [setAll, Act.put, List.foldl_cons, List.foldl_nil, List.setIfInBounds_toArray, List.set_cons_succ, List.set_cons_zero, List.drop_succ_cons, List.drop_zero]
        rw [e0, e2]
        clear e0 e2
        go_wp2_with fail
        refine (eqRing_same room count _ _ ps _ _ W (G7.mem hI) hg9 (Nat.le_refl _) HL'.out).mono ?_
        rintro e w8 ⟨rfl, hb7⟩
        have L7 := Fr.step L7 (Fr.step hI hb7)
        go_wp2_with fail
        go_ret
        exact ⟨rfl, L7⟩

end Go.Proofs.Ytlnhnljckceeaaa
