/-
  The exact law of ReaderAll.
-/
import Derived.Test.YtlnhnljckceeaaaAllImpl
import Derived.Test.YtlnhnljckceeaaaAllSpec
import Derived.Test.YtlnhnljckceeaaaExactTake
import Derived.Test.YtlnhnljckceeaaaMark
import Derived.Test.YtlnhnljckceeaaaAllLaw
namespace Go.Proofs.Ytlnhnljckceeaaa
open Go.RowKit
set_option linter.unusedSimpArgs false
set_option linter.unusedVariables false

theorem own_ne {w : World} {B b T : Nat} {v : Value} {l : List Pk} {cs : Array Value} (h : Own w B v l) (hb : Blk w b T cs) (hT : T ≠ 31) : v.ownBlock ≠ some b := by
  rcases h.2 with ⟨rfl, _⟩ | ⟨g, cap, cur, rfl, _, hg, _⟩
  · intro e; cases e
  · intro e
    have e1 : g = b := by simpa [Value.ownBlock] using e
    subst e1
    have e2 := hb.symm.trans hg
    injection e2 with e2
    injection e2 with _ e2
    exact hT e2
theorem Own.stepT {w w' : World} {B B' : Nat} {v : Value} {l : List Pk} {a b : Int} {c : Bool} {p : Pk} (h : Own w B' v l) (hr : RTake B a b c p false w w') : Own w' B' v l := by
  rcases hr with hr | ⟨d, _, _, _, _, hB, rfl⟩ | ⟨h0, _⟩
  · exact h.below hr
  · have hn := own_ne h hB (by decide)
    unfold wset3
    exact ((h.goes_ (Goes.setCell (p := ⟨d, 0, none⟩) (Goes.refl d w) (.inl rfl) _) hn).goes_ (Goes.setCell (p := ⟨d, 1, none⟩) (Goes.refl d _) (.inl rfl) _) hn).goes_ (Goes.setCell (p := ⟨d, 2, none⟩) (Goes.refl d _) (.inl rfl) _) hn
  · cases h0
theorem Own.grown_ {w w' : World} {B : Nat} {v v' : Value} {l : List Pk} (h : Own w B v l) (hg : w.grownBy w' v'.ownBlock) (hn : ∀ k, v.ownBlock = some k → v'.ownBlock ≠ some k) : Own w' B v l := by
  refine World.ownsRow.kept h hg ?_
  cases hv : v.ownBlock with
  | none => exact .inl rfl
  | some k => right; exact fun e => hn k hv e.symm
theorem Blk.grown_ {w w' : World} {b T : Nat} {v : Value} {cs : Array Value} (h : Blk w b T cs) (hg : w.grownBy w' v.ownBlock) (hn : v.ownBlock ≠ some b) : Blk w' b T cs := (hg.block b h.lt (fun e => hn e.symm)).trans h
theorem below_grown {w W W' : World} {v : Value} (h : Below w.heap.size w W) (hg : W.grownBy W' v.ownBlock) (hn : ∀ k, v.ownBlock = some k → w.heap.size ≤ k) : Below w.heap.size w W' :=
  ⟨hg.os.trans h.os, hg.tape.trans h.tape, hg.output.trans h.output, Nat.le_trans h.size hg.size, fun k hk => (hg.block k (Nat.lt_of_lt_of_le hk h.size) (fun e => by have := hn k e.symm; omega)).trans (h.block k hk)⟩
theorem Own.of_blk {w : World} {B g : Nat} {ps : List Pk} (h : Blk w g 31 (pkcs ps).toArray) (hB : B ≤ g) (hl : ps.length ≤ maxLen) : Own w B (.slice (some ⟨g, 0, none⟩) ps.length ps.length) ps :=
  ⟨pkcs_length ps, .inr ⟨g, ps.length, _, rfl, hB, h, Nat.le_refl _, hl, by simp [pkcs_length], by simp [← pkcs_length]⟩⟩
theorem all_uniq {α : Type} {p : Prop} [Decidable p] {x y f z : α} (h1 : if p then x = f else x = z) (h2 : if p then y = f else y = z) : x = y := by
  by_cases h : p
  · rw [if_pos h] at h1 h2; rw [h1, h2]
  · rw [if_neg h] at h1 h2; rw [h1, h2]
/-- The marks of a ring's packets. -/
theorem markRing_any (room count : Int) (A : Option Addr) (ps : List Pk) (cap base : Nat) (w : World) (h : Own w base (.slice A ps.length cap) ps) (hn : ps.length ≤ 1048576) :
    Calls Try.prog 29 #[.agg #[.int .i64 room, .int .i64 count, .slice A ps.length cap], .int .i64 1] w fun e w' => e = .returned (.int .i64 (1 + 6 * (ps.length : Int))) ∧ w.grownBy w' (Value.ownBlock (.slice A ps.length cap)) := by
  have h' : Own (w.alloc (.cells #[.int .i64 room, .int .i64 count, .slice A ps.length cap] 25)) base (.slice A ps.length cap) ps := World.ownsRow.alloc h _
  have hg : w.grownBy (w.alloc (.cells #[.int .i64 room, .int .i64 count, .slice A ps.length cap] 25)) (Value.ownBlock (.slice A ps.length cap)) := ⟨rfl, rfl, rfl, by simp, fun k hk _ => Below.heap_alloc w _ k hk⟩
  go_enter Try.func29, Try.ntmps29
  go_wp2_with fail
  refine (markPks _ ps base 1 _ h' (by omega) hn).mono ?_
  rintro e w1 ⟨rfl, -, hg1⟩
  have hgg := hg.trans hg1
  clear h' hg hg1
  go_wp2_with fail
  go_ret
  exact ⟨rfl, hgg⟩

/-- What the operations leave of a region that copies the ring and calls. -/
def VA (B : Nat) (room count : Int) (A : Option Addr) (ps : List Pk) (cap : Nat) (nx lost : Int) (wt : Bool) (a b : Int) (c : Bool) (l : List Pk) (ok : Bool) (i : Nat) (_ : Bool) (vs : List Value) (w : World) : Prop := match i, vs with
  | 0, [v] => v = .agg #[.int .i64 room, .int .i64 count, .slice A ps.length cap]
  | 1, [v] => ∃ g, v = .agg #[.int .i64 room, .int .i64 count, .slice (some ⟨g, 0, none⟩) ps.length ps.length] ∧ PkRow w w.heap.size (some ⟨g, 0, none⟩) ps
  | 2, [v] => v = .agg #[.int .i64 nx, .int .i64 lost, .bool wt]
  | 3, [v] => v = .agg #[.int .i64 nx, .int .i64 lost, .bool wt]
  | 4, [v] => ∃ z, v = .tuple #[.agg #[.int .i64 a, .int .i64 b, .bool c], z, .bool ok] ∧ Own w B z l
  | 5, [v] => ∃ z, v = .tuple #[.agg #[.int .i64 a, .int .i64 b, .bool c], z, .bool ok] ∧ Own w B z l
  | 6, [v] => v = .agg #[.int .i64 a, .int .i64 b, .bool c]
  | 7, [v] => Own w B v l
  | 8, [v] => v = .bool ok
  | 9, [v] => Has3 B v w
  | 10, [v] => Is3 B a b c v w
  | 11, [v] => Own w B v l
  | _, _ => True
def VB (B : Nat) (room count : Int) (ps : List Pk) (g9 : Nat) (nx lost : Int) (wt : Bool) (a b : Int) (c : Bool) (l : List Pk) (ok : Bool) (i : Nat) (_ : Bool) (vs : List Value) (w : World) : Prop := match i, vs with
  | 0, [v] => v = .agg #[.int .i64 room, .int .i64 count, .slice (some ⟨g9, 0, none⟩) ps.length ps.length]
  | 1, [v] => v = .agg #[.int .i64 nx, .int .i64 lost, .bool wt]
  | 2, [v] => v = .agg #[.int .i64 nx, .int .i64 lost, .bool wt]
  | 3, [v] => ∃ z, v = .tuple #[.agg #[.int .i64 a, .int .i64 b, .bool c], z, .bool ok] ∧ Own w B z l
  | 4, [v] => ∃ z, v = .tuple #[.agg #[.int .i64 a, .int .i64 b, .bool c], z, .bool ok] ∧ Own w B z l
  | 5, [v] => v = .agg #[.int .i64 a, .int .i64 b, .bool c]
  | 6, [v] => Own w B v l
  | 7, [v] => v = .bool ok
  | 8, [v] => Has3 B v w
  | 9, [v] => Is3 B a b c v w
  | 10, [v] => Own w B v l
  | _, _ => True
def dpA5 (i : Nat) : List Tmp := match i with
  | 0 => [25] | 1 => [26] | 2 => [27] | 3 => [28] | 4 => [29] | 5 => [24] | 6 => [30] | 7 => [31] | 8 => [32] | 9 => [6] | 10 => [6] | 11 => [7] | _ => []
def dpA7 (i : Nat) : List Tmp := match i with
  | 0 => [36] | 1 => [37] | 2 => [38] | 3 => [39] | 4 => [35] | 5 => [40] | 6 => [41] | 7 => [42] | 8 => [10] | 9 => [10] | 10 => [11] | _ => []
def dpA24 (i : Nat) : List Tmp := match i with
  | 0 => [97] | 1 => [98] | 2 => [99] | 3 => [100] | 4 => [101] | 5 => [96] | 6 => [102] | 7 => [103] | 8 => [104] | 9 => [16] | 10 => [16] | 11 => [17] | _ => []
theorem VA_keep {B : Nat} {room count : Int} {A : Option Addr} {ps : List Pk} {cap : Nat} {nx lost : Int} {wt : Bool} {a b : Int} {c : Bool} {l : List Pk} {ok : Bool} : ∀ (i : Nat) (sw sw' : Bool) (vs : List Value) (w w' : World), RTake B a b c zpk false w w' → VA B room count A ps cap nx lost wt a b c l ok i sw vs w → VA B room count A ps cap nx lost wt a b c l ok i sw' vs w'
  | 0, _, _, [_], _, _, _, h => h
  | 1, _, _, [_], _, _, hr, ⟨g, e, h⟩ => ⟨g, e, h.step (C := 0) hr⟩
  | 2, _, _, [_], _, _, _, h => h
  | 3, _, _, [_], _, _, _, h => h
  | 4, _, _, [_], _, _, hr, ⟨z, e, h⟩ => ⟨z, e, h.stepT hr⟩
  | 5, _, _, [_], _, _, hr, ⟨z, e, h⟩ => ⟨z, e, h.stepT hr⟩
  | 6, _, _, [_], _, _, _, h => h
  | 7, _, _, [_], _, _, hr, h => Own.stepT h hr
  | 8, _, _, [_], _, _, _, h => h
  | 9, _, _, [_], _, _, hr, h => Has3.step h hr
  | 10, _, _, [_], _, _, hr, h => Is3.step h hr
  | 11, _, _, [_], _, _, hr, h => Own.stepT h hr
  | _ + 12, _, _, _, _, _, _, h => h
  | 0, _, _, [], _, _, _, h => h
  | 0, _, _, _ :: _ :: _, _, _, _, h => h
  | 1, _, _, [], _, _, _, h => h
  | 1, _, _, _ :: _ :: _, _, _, _, h => h
  | 2, _, _, [], _, _, _, h => h
  | 2, _, _, _ :: _ :: _, _, _, _, h => h
  | 3, _, _, [], _, _, _, h => h
  | 3, _, _, _ :: _ :: _, _, _, _, h => h
  | 4, _, _, [], _, _, _, h => h
  | 4, _, _, _ :: _ :: _, _, _, _, h => h
  | 5, _, _, [], _, _, _, h => h
  | 5, _, _, _ :: _ :: _, _, _, _, h => h
  | 6, _, _, [], _, _, _, h => h
  | 6, _, _, _ :: _ :: _, _, _, _, h => h
  | 7, _, _, [], _, _, _, h => h
  | 7, _, _, _ :: _ :: _, _, _, _, h => h
  | 8, _, _, [], _, _, _, h => h
  | 8, _, _, _ :: _ :: _, _, _, _, h => h
  | 9, _, _, [], _, _, _, h => h
  | 9, _, _, _ :: _ :: _, _, _, _, h => h
  | 10, _, _, [], _, _, _, h => h
  | 10, _, _, _ :: _ :: _, _, _, _, h => h
  | 11, _, _, [], _, _, _, h => h
  | 11, _, _, _ :: _ :: _, _, _, _, h => h
theorem VB_keep {B : Nat} {room count : Int} {ps : List Pk} {g9 : Nat} {nx lost : Int} {wt : Bool} {a b : Int} {c : Bool} {l : List Pk} {ok : Bool} : ∀ (i : Nat) (sw sw' : Bool) (vs : List Value) (w w' : World), RTake B a b c zpk false w w' → VB B room count ps g9 nx lost wt a b c l ok i sw vs w → VB B room count ps g9 nx lost wt a b c l ok i sw' vs w'
  | 0, _, _, [_], _, _, _, h => h
  | 1, _, _, [_], _, _, _, h => h
  | 2, _, _, [_], _, _, _, h => h
  | 3, _, _, [_], _, _, hr, ⟨z, e, h⟩ => ⟨z, e, h.stepT hr⟩
  | 4, _, _, [_], _, _, hr, ⟨z, e, h⟩ => ⟨z, e, h.stepT hr⟩
  | 5, _, _, [_], _, _, _, h => h
  | 6, _, _, [_], _, _, hr, h => Own.stepT h hr
  | 7, _, _, [_], _, _, _, h => h
  | 8, _, _, [_], _, _, hr, h => Has3.step h hr
  | 9, _, _, [_], _, _, hr, h => Is3.step h hr
  | 10, _, _, [_], _, _, hr, h => Own.stepT h hr
  | _ + 11, _, _, _, _, _, _, h => h
  | 0, _, _, [], _, _, _, h => h
  | 0, _, _, _ :: _ :: _, _, _, _, h => h
  | 1, _, _, [], _, _, _, h => h
  | 1, _, _, _ :: _ :: _, _, _, _, h => h
  | 2, _, _, [], _, _, _, h => h
  | 2, _, _, _ :: _ :: _, _, _, _, h => h
  | 3, _, _, [], _, _, _, h => h
  | 3, _, _, _ :: _ :: _, _, _, _, h => h
  | 4, _, _, [], _, _, _, h => h
  | 4, _, _, _ :: _ :: _, _, _, _, h => h
  | 5, _, _, [], _, _, _, h => h
  | 5, _, _, _ :: _ :: _, _, _, _, h => h
  | 6, _, _, [], _, _, _, h => h
  | 6, _, _, _ :: _ :: _, _, _, _, h => h
  | 7, _, _, [], _, _, _, h => h
  | 7, _, _, _ :: _ :: _, _, _, _, h => h
  | 8, _, _, [], _, _, _, h => h
  | 8, _, _, _ :: _ :: _, _, _, _, h => h
  | 9, _, _, [], _, _, _, h => h
  | 9, _, _, _ :: _ :: _, _, _, _, h => h
  | 10, _, _, [], _, _, _, h => h
  | 10, _, _, _ :: _ :: _, _, _, _, h => h

set_option maxRecDepth 100000 in
set_option maxHeartbeats 8000000 in
theorem exactAll (room count : Int) (A : Option Addr) (len cap : Nat) (ps : List Pk) (nx lost : Int) (wt : Bool) (w : World) (h0 : -9223372036854775808 ≤ room ∧ room ≤ 9223372036854775807) (h1 : -9223372036854775808 ≤ count ∧ count ≤ 9223372036854775807) (hl : len ≤ cap) (hm : cap ≤ maxLen) (hlen : ps.length = len) (hp : PkRow w w.heap.size A ps) (hn64 : -9223372036854775808 ≤ nx ∧ nx ≤ 9223372036854775807) (hl64 : -9223372036854775808 ≤ lost ∧ lost ≤ 9223372036854775807) :
    Calls Try.prog 12 #[.agg #[.int .i64 room, .int .i64 count, .slice A len cap], .agg #[.int .i64 nx, .int .i64 lost, .bool wt]] w fun e w' => e = .returned (.bool true) ∧ Below w.heap.size w w' := by
  subst hlen
  unfold maxLen at hm
  have hm' : cap ≤ 9223372036854775807 := by omega
  obtain ⟨ok, hok⟩ : ∃ ok, ok = readerB room count ps nx lost := ⟨_, rfl⟩
  have HOK := Lib.hid hok.symm
  obtain ⟨a, b, c, l, hR⟩ : ∃ a b c l, (if readerB room count ps nx lost = true then (a, b, c, l) = finF room count ps nx lost wt [] else (a, b, c, l) = (0, 0, false, [])) := by
    by_cases h : readerB room count ps nx lost = true
    · exact ⟨_, _, _, _, by rw [if_pos h]⟩
    · exact ⟨0, 0, false, [], by rw [if_neg h]⟩
  have hl20 : l.length ≤ 1048576 := by
    cases hv : readerB room count ps nx lost
    · rw [hv, if_neg (by simp)] at hR
      simp only [Prod.mk.injEq] at hR
      rw [hR.2.2.2]; simp
    · rw [hv, if_pos rfl] at hR
      obtain ⟨_, _, h3, _⟩ := all_law hv hR
      have h8 : (ps.length : Int) ≤ 8 := by have hr := (readerB_iff.1 hv).1; have := (ringB_iff.1 hr).2.2.1; have := (ringB_iff.1 hr).1; have := minI_le room count; omega
      omega
  have HR := Lib.hid hR
  have HP := Lib.hid hp
  have X0 := (Blk.new w 38 #[.int .i64 room, .int .i64 count, .slice A ps.length cap] rfl).alloc (.cells #[.int .i64 nx, .int .i64 lost, .bool wt] 39)
  have Y0 : Blk ((w.alloc (.cells #[.int .i64 room, .int .i64 count, .slice A ps.length cap] 38)).alloc (.cells #[.int .i64 nx, .int .i64 lost, .bool wt] 39)) (w.heap.size + 1) 39 #[.int .i64 nx, .int .i64 lost, .bool wt] := Blk.new _ _ _ (by simp)
  have L0 : Below w.heap.size w ((w.alloc (.cells #[.int .i64 room, .int .i64 count, .slice A ps.length cap] 38)).alloc (.cells #[.int .i64 nx, .int .i64 lost, .bool wt] 39)) := Fr.alloc2 (Below.refl _ _) _ _
  clear h0 h1 hn64 hl64 hp hR hok
  go_enter Try.func12, Try.ntmps12
  go_wp2_with fail
  refine (szRing_any _ _ _ _ _ _ hl hm').mono ?_
  rintro e w1 ⟨rfl, hb⟩
  have X1 := X0.below hb X0.lt
  have Y1 := Y0.below hb Y0.lt
  have L1 := Fr.step L0 hb
  clear X0 Y0 L0 hb
  by_cases hbig : 1048576 < (ps.length : Int)
  · rw [if_pos hbig]
    go_wp2_with fail
    go_ret
    exact ⟨rfl, L1⟩
  rw [if_neg hbig]
  have hn : ps.length ≤ 1048576 := by omega
  have hsz : ¬ 1048576 - (ps.length : Int) < 0 := by omega
  have HM := Lib.hid hm'
  have HL := Lib.hid hl
  have HN := Lib.hid hn
  have HL' := Lib.hid (show ps.length ≤ 9223372036854775807 by omega)
  go_upto_region 5 with fail
  clear hbig hsz
  have R1 := (HP.out.below L1).more L1.size
  refine wp_region_facts2 12 [25, 26, 27, 28, 29, 24, 30, 31, 32, 6, 7] dpA5 12 (VA w1.heap.size room count A ps cap nx lost wt a b c l ok) (fun _ W => Below w1.heap.size w1 W) (fun _ _ W W' => RTake w1.heap.size a b c zpk false W W') (by kernel_rfl) (by kernel_rfl) (by rfl) ?hIa VA_keep (by kernel_rfl) ?hoba ?henda
  case hIa => exact (Below.refl _ _).drew
  case hoba =>
    simp only [List.take_succ_cons, List.take_zero, Obs2, and_true]
    refine ⟨?_, ?_, ?_, ?_, ?_, ?_, ?_, ?_, ?_, ?_, ?_, ?_⟩
    · intro k' x W sb hkn hI hs1 hs2 hd K hK0
      have hK := hK0.out
      simp only [setAll, Act.put, List.foldl_cons, List.foldl_nil, List.setIfInBounds_toArray, List.set_cons_succ, List.set_cons_zero] at hK ⊢
      have HK := Lib.hid hK
      clear hK hK0
      rw [if_pos (by rfl)]
      clear hd
      have cx := (X1.below hI X1.lt).cells
      go_simp
      exact HK.out _ _ hI (.inl (Below.refl _ _)) (rfl)
    · intro k' x W sb hkn hI hs1 hs2 hd K hK0
      have hK := hK0.out
      simp only [setAll, Act.put, List.foldl_cons, List.foldl_nil, List.setIfInBounds_toArray, List.set_cons_succ, List.set_cons_zero] at hK ⊢
      have HK := Lib.hid hK
      clear hK hK0
      rw [if_pos (by rfl)]
      obtain e25 : x 25 = .agg #[.int .i64 room, .int .i64 count, .slice A ps.length cap] := hd 0 _ rfl (by kernel_rfl)
      rw [e25] at HK ⊢
      clear e25
      clear hd
      go_simp
      refine (toRing_any room count A ps cap W (PkRow.mem R1 hI) HL.out HM.out HN.out).mono ?_
      rintro e w9 ⟨g, rfl, hg, hB9, hb9⟩
      exact HK.out _ _ (Fr.step hI hb9) (.inl hb9) (⟨g, rfl, .of_blk hB9⟩)
    · intro k' x W sb hkn hI hs1 hs2 hd K hK0
      have hK := hK0.out
      simp only [setAll, Act.put, List.foldl_cons, List.foldl_nil, List.setIfInBounds_toArray, List.set_cons_succ, List.set_cons_zero] at hK ⊢
      have HK := Lib.hid hK
      clear hK hK0
      rw [if_pos (by rfl)]
      clear hd
      have cx := (Y1.below hI Y1.lt).cells
      go_simp
      exact HK.out _ _ hI (.inl (Below.refl _ _)) (rfl)
    · intro k' x W sb hkn hI hs1 hs2 hd K hK0
      have hK := hK0.out
      simp only [setAll, Act.put, List.foldl_cons, List.foldl_nil, List.setIfInBounds_toArray, List.set_cons_succ, List.set_cons_zero] at hK ⊢
      have HK := Lib.hid hK
      clear hK hK0
      rw [if_pos (by rfl)]
      obtain e27 : x 27 = .agg #[.int .i64 nx, .int .i64 lost, .bool wt] := hd 2 _ rfl (by kernel_rfl)
      rw [e27] at HK ⊢
      clear e27
      clear hd
      go_simp
      refine (toReader_mem nx lost wt W).mono ?_
      rintro e w9 ⟨rfl, hb9⟩
      exact HK.out _ _ (Fr.step hI hb9) (.inl hb9) (rfl)
    · intro k' x W sb hkn hI hs1 hs2 hd K hK0
      have hK := hK0.out
      simp only [setAll, Act.put, List.foldl_cons, List.foldl_nil, List.setIfInBounds_toArray, List.set_cons_succ, List.set_cons_zero] at hK ⊢
      have HK := Lib.hid hK
      clear hK hK0
      rw [if_pos (by rfl)]
      obtain ⟨g, e1_, hrow⟩ : ∃ g, x 26 = .agg #[.int .i64 room, .int .i64 count, .slice (some ⟨g, 0, none⟩) ps.length ps.length] ∧ PkRow W W.heap.size (some ⟨g, 0, none⟩) ps := hd 1 _ rfl (by kernel_rfl)
      obtain e3_ : x 28 = .agg #[.int .i64 nx, .int .i64 lost, .bool wt] := hd 3 _ rfl (by kernel_rfl)
      rw [e1_, e3_] at HK ⊢
      clear e1_ e3_
      clear hd
      go_simp
      refine (allSpec room count _ ps ps.length nx lost wt W hrow (Nat.le_refl _) HL'.out).mono ?_
      rintro e w9 ⟨A9, cap9, a9, b9, c9, l9, rfl, hR9, q9, k91, k92, hb9, ho9⟩
      obtain ⟨rfl, rfl, rfl, rfl⟩ : a9 = a ∧ b9 = b ∧ c9 = c ∧ l9 = l := by have := all_uniq hR9 HR.out; simpa using this
      rw [HOK.out]
      exact HK.out _ _ (Fr.step hI hb9) (.inl hb9) (⟨_, rfl, Own.mono_ ho9 hI.size⟩)
    · intro k' x W sb hkn hI hs1 hs2 hd K hK0
      have hK := hK0.out
      simp only [setAll, Act.put, List.foldl_cons, List.foldl_nil, List.setIfInBounds_toArray, List.set_cons_succ, List.set_cons_zero] at hK ⊢
      have HK := Lib.hid hK
      clear hK hK0
      rw [if_pos (by rfl)]
      obtain ⟨z, e29, hz⟩ : ∃ z, x 29 = .tuple #[.agg #[.int .i64 a, .int .i64 b, .bool c], z, .bool ok] ∧ Own W w1.heap.size z l := hd 4 _ rfl (by kernel_rfl)
      rw [e29] at HK ⊢
      clear e29
      clear hd
      go_simp
      exact HK.out _ _ hI (.inl (Below.refl _ _)) (⟨z, rfl, hz⟩)
    · intro k' x W sb hkn hI hs1 hs2 hd K hK0
      have hK := hK0.out
      simp only [setAll, Act.put, List.foldl_cons, List.foldl_nil, List.setIfInBounds_toArray, List.set_cons_succ, List.set_cons_zero] at hK ⊢
      have HK := Lib.hid hK
      clear hK hK0
      rw [if_pos (by rfl)]
      obtain ⟨z, e24, hz⟩ : ∃ z, x 24 = .tuple #[.agg #[.int .i64 a, .int .i64 b, .bool c], z, .bool ok] ∧ Own W w1.heap.size z l := hd 5 _ rfl (by kernel_rfl)
      rw [e24] at HK ⊢
      clear e24
      clear hd
      go_simp
      exact HK.out _ _ hI (.inl (Below.refl _ _)) (rfl)
    · intro k' x W sb hkn hI hs1 hs2 hd K hK0
      have hK := hK0.out
      simp only [setAll, Act.put, List.foldl_cons, List.foldl_nil, List.setIfInBounds_toArray, List.set_cons_succ, List.set_cons_zero] at hK ⊢
      have HK := Lib.hid hK
      clear hK hK0
      rw [if_pos (by rfl)]
      obtain ⟨z, e24, hz⟩ : ∃ z, x 24 = .tuple #[.agg #[.int .i64 a, .int .i64 b, .bool c], z, .bool ok] ∧ Own W w1.heap.size z l := hd 5 _ rfl (by kernel_rfl)
      rw [e24] at HK ⊢
      clear e24
      clear hd
      go_simp
      exact HK.out _ _ hI (.inl (Below.refl _ _)) (hz)
    · intro k' x W sb hkn hI hs1 hs2 hd K hK0
      have hK := hK0.out
      simp only [setAll, Act.put, List.foldl_cons, List.foldl_nil, List.setIfInBounds_toArray, List.set_cons_succ, List.set_cons_zero] at hK ⊢
      have HK := Lib.hid hK
      clear hK hK0
      rw [if_pos (by rfl)]
      obtain ⟨z, e24, hz⟩ : ∃ z, x 24 = .tuple #[.agg #[.int .i64 a, .int .i64 b, .bool c], z, .bool ok] ∧ Own W w1.heap.size z l := hd 5 _ rfl (by kernel_rfl)
      rw [e24] at HK ⊢
      clear e24
      clear hd
      go_simp
      exact HK.out _ _ hI (.inl (Below.refl _ _)) (rfl)
    · intro k' x W sb hkn hI hs1 hs2 hd K hK0
      have hK := hK0.out
      simp only [setAll, Act.put, List.foldl_cons, List.foldl_nil, List.setIfInBounds_toArray, List.set_cons_succ, List.set_cons_zero] at hK ⊢
      have HK := Lib.hid hK
      clear hK hK0
      rw [if_pos (by rfl)]
      clear hd
      go_simp
      exact HK.out _ _ (Fr.alloc hI _) (.inl (Fr.alloc (Below.refl _ _) _)) (⟨_, _, _, _, rfl, hI.size, Blk.new _ _ _ rfl⟩)
    · intro k' x W sb hkn hI hs1 hs2 hd K hK0
      have hK := hK0.out
      simp only [setAll, Act.put, List.foldl_cons, List.foldl_nil, List.setIfInBounds_toArray, List.set_cons_succ, List.set_cons_zero] at hK ⊢
      have HK := Lib.hid hK
      clear hK hK0
      rw [if_pos (by rfl)]
      obtain ⟨d, _, _, _, e6, hdl, hB⟩ : Has3 w1.heap.size (x 6) W := hd 9 _ rfl (by kernel_rfl)
      obtain e30 : x 30 = .agg #[.int .i64 a, .int .i64 b, .bool c] := hd 6 _ rfl (by kernel_rfl)
      have E := Lib.hid e6
      rw [e6, e30] at HK ⊢
      clear e6 e30
      clear hd
      have f6 := hB.free
      have c6 := hB.cells
      go_simp
      have hr : RTake w1.heap.size a b c zpk false W (wset3 W d (.int .i64 a) (.int .i64 b) (.bool c)) := .inr (.inl ⟨d, _, _, _, hdl, hB, rfl⟩)
      exact HK.out undef _ (hr.below hI) hr (⟨d, E.out, hdl, hB.set3 _ _ _⟩)
    · intro k' x W sb hkn hI hs1 hs2 hd K hK0
      have hK := hK0.out
      simp only [setAll, Act.put, List.foldl_cons, List.foldl_nil, List.setIfInBounds_toArray, List.set_cons_succ, List.set_cons_zero] at hK ⊢
      have HK := Lib.hid hK
      clear hK hK0
      rw [if_pos (by rfl)]
      have hz : Own W w1.heap.size (x 31) l := hd 7 _ rfl (by kernel_rfl)
      clear hd
      go_simp
      exact HK.out _ _ hI (.inl (Below.refl _ _)) (hz)
  case henda =>
    intro x w2 sb hbw hV
    obtain ⟨d6, eb, hd6, Z6⟩ : Is3 w1.heap.size a b c (x 6) w2 := hV 10 _ (by omega) rfl
    have ho : Own w2 w1.heap.size (x 7) l := hV 11 _ (by omega) rfl
    obtain eo : x 32 = .bool ok := hV 8 _ (by omega) rfl
    clear hV
    simp only [setAll, Act.put, List.foldl_cons, List.foldl_nil, List.setIfInBounds_toArray, List.set_cons_succ, List.set_cons_zero, List.drop_succ_cons, List.drop_zero]
    rw [eb, eo]
    clear eb eo
    obtain ⟨v7, hv7⟩ : ∃ v, v = x 7 := ⟨_, rfl⟩
    rw [← hv7] at ho ⊢
    clear hv7
    obtain ⟨A7, cap7, ev7, k7a, k7b, -⟩ := Own.row ho
    unfold maxLen at k7b
    subst ev7
    have O7 := ho
    clear ho
    have X2_ := X1.below hbw X1.lt
    have Y2_ := Y1.below hbw Y1.lt
    have L2_ := Fr.step L1 hbw
    have ZA2_ := Z6
    have OA2_ := O7
    clear X1 Y1 L1 R1 Z6 O7
    have hw12 := hbw.size
    have hd6l : d6 < w2.heap.size := ZA2_.lt
    have hA7 := fun k hk => (World.ownsRow.lt OA2_ k hk).2
    have hxy : w.heap.size + 1 < w2.heap.size := Y2_.lt
    have cx := X2_.cells; have lx := X2_.lt
    go_wp2_with fail
    clear cx lx
    refine (toRing_any room count A ps cap w2 ((HP.out.below L2_).more L2_.size) HL.out HM.out HN.out).mono ?_
    rintro e w3 ⟨g9, rfl, hg9, hB9, hb⟩
    have X3_ := X2_.below hb X2_.lt
    have Y3_ := Y2_.below hb Y2_.lt
    have L3_ := Fr.step L2_ hb
    have ZA3_ := ZA2_.below hb ZA2_.lt
    have OA3_ := Own.below OA2_ hb
    clear X2_ Y2_ L2_ ZA2_ OA2_
    have O93_ := Own.of_blk (B := w2.heap.size) hB9 hg9 (by unfold maxLen; have := HN.out; omega)
    have hw23 := hb.size
    have hg93 := hB9.lt
    clear hb hB9
    go_upto_region 7 with fail
    have hb4 : Below w3.heap.size w3 (w3.alloc (.cells #[.int .i64 room, .int .i64 count, .slice (some ⟨g9, 0, none⟩) ps.length ps.length] 25)) := Fr.alloc (Below.refl _ _) _
    have U4_ := Blk.new w3 25 #[.int .i64 room, .int .i64 count, .slice (some ⟨g9, 0, none⟩) ps.length ps.length] rfl
    have X4_ := X3_.below hb4 X3_.lt
    have Y4_ := Y3_.below hb4 Y3_.lt
    have L4_ := Fr.step L3_ hb4
    have ZA4_ := ZA3_.below hb4 ZA3_.lt
    have OA4_ := Own.below OA3_ hb4
    have O94_ := Own.below O93_ hb4
    clear X3_ Y3_ L3_ ZA3_ OA3_ O93_
    obtain ⟨W4, hW4⟩ : ∃ W4, W4 = w3.alloc (.cells #[.int .i64 room, .int .i64 count, .slice (some ⟨g9, 0, none⟩) ps.length ps.length] 25) := ⟨_, rfl⟩
    have hw34 : W4.heap.size = w3.heap.size + 1 := by rw [hW4]; simp
    rw [← hW4] at X4_ Y4_ L4_ ZA4_ OA4_ O94_ U4_ ⊢
    clear hW4 hb4
    have R4 := (Own.row O94_)
    obtain ⟨A9_, cap9_, e9_, -, -, R4⟩ := R4
    injection e9_ with e91 _ e92
    subst e91
    subst e92
    refine wp_region_facts2 11 [36, 37, 38, 39, 35, 40, 41, 42, 10, 11] dpA7 11 (VB W4.heap.size room count ps g9 nx lost wt a b c l ok) (fun _ W => Below W4.heap.size W4 W) (fun _ _ W W' => RTake W4.heap.size a b c zpk false W W') (by kernel_rfl) (by kernel_rfl) (by rfl) ?hIb VB_keep (by kernel_rfl) ?hobb ?hendb
    case hIb => exact (Below.refl _ _).drew
    case hobb =>
      simp only [List.take_succ_cons, List.take_zero, Obs2, and_true]
      refine ⟨?_, ?_, ?_, ?_, ?_, ?_, ?_, ?_, ?_, ?_, ?_⟩
      · intro k' x W sb hkn hI hs1 hs2 hd K hK0
        have hK := hK0.out
        simp only [setAll, Act.put, List.foldl_cons, List.foldl_nil, List.setIfInBounds_toArray, List.set_cons_succ, List.set_cons_zero] at hK ⊢
        have HK := Lib.hid hK
        clear hK hK0
        rw [if_pos (by rfl)]
        clear hd
        have cx := (U4_.below hI U4_.lt).cells
        go_simp
        exact HK.out _ _ hI (.inl (Below.refl _ _)) (rfl)
      · intro k' x W sb hkn hI hs1 hs2 hd K hK0
        have hK := hK0.out
        simp only [setAll, Act.put, List.foldl_cons, List.foldl_nil, List.setIfInBounds_toArray, List.set_cons_succ, List.set_cons_zero] at hK ⊢
        have HK := Lib.hid hK
        clear hK hK0
        rw [if_pos (by rfl)]
        clear hd
        have cx := (Y4_.below hI Y4_.lt).cells
        go_simp
        exact HK.out _ _ hI (.inl (Below.refl _ _)) (rfl)
      · intro k' x W sb hkn hI hs1 hs2 hd K hK0
        have hK := hK0.out
        simp only [setAll, Act.put, List.foldl_cons, List.foldl_nil, List.setIfInBounds_toArray, List.set_cons_succ, List.set_cons_zero] at hK ⊢
        have HK := Lib.hid hK
        clear hK hK0
        rw [if_pos (by rfl)]
        obtain e37 : x 37 = .agg #[.int .i64 nx, .int .i64 lost, .bool wt] := hd 1 _ rfl (by kernel_rfl)
        rw [e37] at HK ⊢
        clear e37
        clear hd
        go_simp
        refine (toReader_mem nx lost wt W).mono ?_
        rintro e w9 ⟨rfl, hb9⟩
        exact HK.out _ _ (Fr.step hI hb9) (.inl hb9) (rfl)
      · intro k' x W sb hkn hI hs1 hs2 hd K hK0
        have hK := hK0.out
        simp only [setAll, Act.put, List.foldl_cons, List.foldl_nil, List.setIfInBounds_toArray, List.set_cons_succ, List.set_cons_zero] at hK ⊢
        have HK := Lib.hid hK
        clear hK hK0
        rw [if_pos (by rfl)]
        obtain e36 : x 36 = .agg #[.int .i64 room, .int .i64 count, .slice (some ⟨g9, 0, none⟩) ps.length ps.length] := hd 0 _ rfl (by kernel_rfl)
        obtain e38 : x 38 = .agg #[.int .i64 nx, .int .i64 lost, .bool wt] := hd 2 _ rfl (by kernel_rfl)
        rw [e36, e38] at HK ⊢
        clear e36 e38
        clear hd
        go_simp
        refine (allImpl room count _ ps ps.length nx lost wt W (PkRow.mem R4 hI) (Nat.le_refl _) HL'.out).mono ?_
        rintro e w9 ⟨A9, cap9, a9, b9, c9, l9, rfl, hR9, q9, k91, k92, hb9, ho9⟩
        obtain ⟨rfl, rfl, rfl, rfl⟩ : a9 = a ∧ b9 = b ∧ c9 = c ∧ l9 = l := by have := all_uniq hR9 HR.out; simpa using this
        rw [HOK.out]
        exact HK.out _ _ (Fr.step hI hb9) (.inl hb9) (⟨_, rfl, Own.mono_ ho9 hI.size⟩)
      · intro k' x W sb hkn hI hs1 hs2 hd K hK0
        have hK := hK0.out
        simp only [setAll, Act.put, List.foldl_cons, List.foldl_nil, List.setIfInBounds_toArray, List.set_cons_succ, List.set_cons_zero] at hK ⊢
        have HK := Lib.hid hK
        clear hK hK0
        rw [if_pos (by rfl)]
        obtain ⟨z, e39, hz⟩ : ∃ z, x 39 = .tuple #[.agg #[.int .i64 a, .int .i64 b, .bool c], z, .bool ok] ∧ Own W W4.heap.size z l := hd 3 _ rfl (by kernel_rfl)
        rw [e39] at HK ⊢
        clear e39
        clear hd
        go_simp
        exact HK.out _ _ hI (.inl (Below.refl _ _)) (⟨z, rfl, hz⟩)
      · intro k' x W sb hkn hI hs1 hs2 hd K hK0
        have hK := hK0.out
        simp only [setAll, Act.put, List.foldl_cons, List.foldl_nil, List.setIfInBounds_toArray, List.set_cons_succ, List.set_cons_zero] at hK ⊢
        have HK := Lib.hid hK
        clear hK hK0
        rw [if_pos (by rfl)]
        obtain ⟨z, e35, hz⟩ : ∃ z, x 35 = .tuple #[.agg #[.int .i64 a, .int .i64 b, .bool c], z, .bool ok] ∧ Own W W4.heap.size z l := hd 4 _ rfl (by kernel_rfl)
        rw [e35] at HK ⊢
        clear e35
        clear hd
        go_simp
        exact HK.out _ _ hI (.inl (Below.refl _ _)) (rfl)
      · intro k' x W sb hkn hI hs1 hs2 hd K hK0
        have hK := hK0.out
        simp only [setAll, Act.put, List.foldl_cons, List.foldl_nil, List.setIfInBounds_toArray, List.set_cons_succ, List.set_cons_zero] at hK ⊢
        have HK := Lib.hid hK
        clear hK hK0
        rw [if_pos (by rfl)]
        obtain ⟨z, e35, hz⟩ : ∃ z, x 35 = .tuple #[.agg #[.int .i64 a, .int .i64 b, .bool c], z, .bool ok] ∧ Own W W4.heap.size z l := hd 4 _ rfl (by kernel_rfl)
        rw [e35] at HK ⊢
        clear e35
        clear hd
        go_simp
        exact HK.out _ _ hI (.inl (Below.refl _ _)) (hz)
      · intro k' x W sb hkn hI hs1 hs2 hd K hK0
        have hK := hK0.out
        simp only [setAll, Act.put, List.foldl_cons, List.foldl_nil, List.setIfInBounds_toArray, List.set_cons_succ, List.set_cons_zero] at hK ⊢
        have HK := Lib.hid hK
        clear hK hK0
        rw [if_pos (by rfl)]
        obtain ⟨z, e35, hz⟩ : ∃ z, x 35 = .tuple #[.agg #[.int .i64 a, .int .i64 b, .bool c], z, .bool ok] ∧ Own W W4.heap.size z l := hd 4 _ rfl (by kernel_rfl)
        rw [e35] at HK ⊢
        clear e35
        clear hd
        go_simp
        exact HK.out _ _ hI (.inl (Below.refl _ _)) (rfl)
      · intro k' x W sb hkn hI hs1 hs2 hd K hK0
        have hK := hK0.out
        simp only [setAll, Act.put, List.foldl_cons, List.foldl_nil, List.setIfInBounds_toArray, List.set_cons_succ, List.set_cons_zero] at hK ⊢
        have HK := Lib.hid hK
        clear hK hK0
        rw [if_pos (by rfl)]
        clear hd
        go_simp
        exact HK.out _ _ (Fr.alloc hI _) (.inl (Fr.alloc (Below.refl _ _) _)) (⟨_, _, _, _, rfl, hI.size, Blk.new _ _ _ rfl⟩)
      · intro k' x W sb hkn hI hs1 hs2 hd K hK0
        have hK := hK0.out
        simp only [setAll, Act.put, List.foldl_cons, List.foldl_nil, List.setIfInBounds_toArray, List.set_cons_succ, List.set_cons_zero] at hK ⊢
        have HK := Lib.hid hK
        clear hK hK0
        rw [if_pos (by rfl)]
        obtain ⟨d, _, _, _, e10, hdl, hB⟩ : Has3 W4.heap.size (x 10) W := hd 8 _ rfl (by kernel_rfl)
        obtain e40 : x 40 = .agg #[.int .i64 a, .int .i64 b, .bool c] := hd 5 _ rfl (by kernel_rfl)
        have E := Lib.hid e10
        rw [e10, e40] at HK ⊢
        clear e10 e40
        clear hd
        have f6 := hB.free
        have c6 := hB.cells
        go_simp
        have hr : RTake W4.heap.size a b c zpk false W (wset3 W d (.int .i64 a) (.int .i64 b) (.bool c)) := .inr (.inl ⟨d, _, _, _, hdl, hB, rfl⟩)
        exact HK.out undef _ (hr.below hI) hr (⟨d, E.out, hdl, hB.set3 _ _ _⟩)
      · intro k' x W sb hkn hI hs1 hs2 hd K hK0
        have hK := hK0.out
        simp only [setAll, Act.put, List.foldl_cons, List.foldl_nil, List.setIfInBounds_toArray, List.set_cons_succ, List.set_cons_zero] at hK ⊢
        have HK := Lib.hid hK
        clear hK hK0
        rw [if_pos (by rfl)]
        have hz : Own W W4.heap.size (x 41) l := hd 6 _ rfl (by kernel_rfl)
        clear hd
        go_simp
        exact HK.out _ _ hI (.inl (Below.refl _ _)) (hz)
    case hendb =>
      intro x w5 sb hbw hV
      obtain ⟨d10, eb, hd10, Z10⟩ : Is3 W4.heap.size a b c (x 10) w5 := hV 9 _ (by omega) rfl
      have ho : Own w5 W4.heap.size (x 11) l := hV 10 _ (by omega) rfl
      obtain eo : x 42 = .bool ok := hV 7 _ (by omega) rfl
      clear hV
      simp only [setAll, Act.put, List.foldl_cons, List.foldl_nil, List.setIfInBounds_toArray, List.set_cons_succ, List.set_cons_zero, List.drop_succ_cons, List.drop_zero]
      rw [eb, eo]
      clear eb eo
      obtain ⟨v11, hv11⟩ : ∃ v, v = x 11 := ⟨_, rfl⟩
      rw [← hv11] at ho ⊢
      clear hv11
      obtain ⟨A11, cap11, ev11, k11a, k11b, -⟩ := Own.row ho
      unfold maxLen at k11b
      subst ev11
      have O11 := ho
      clear ho
      have hw45 := hbw.size
      have X5_ := X4_.below hbw X4_.lt
      have Y5_ := Y4_.below hbw Y4_.lt
      have L5_ := Fr.step L4_ hbw
      have ZA5_ := ZA4_.below hbw ZA4_.lt
      have OA5_ := Own.below OA4_ hbw
      have O95_ := Own.below O94_ hbw
      have U5_ := U4_.below hbw U4_.lt
      have ZB5_ := Z10
      have OB5_ := O11
      clear X4_ Y4_ L4_ ZA4_ OA4_ O94_ U4_ R4 Z10 O11 hbw
      have cZA := ZA5_.cells; have lZA := ZA5_.lt
      have cZB := ZB5_.cells; have lZB := ZB5_.lt
      have cU := U5_.cells; have lU := U5_.lt
      have cX := X5_.cells; have lX := X5_.lt
      have cY := Y5_.cells; have lY := Y5_.lt
      go_wp2_with fail
      clear cZA lZA cZB lZB cU lU cX lX cY lY
      refine (eqReader_same _ _ _ _).mono ?_
      rintro e w6 ⟨rfl, hb⟩
      have X6_ := X5_.below hb X5_.lt
      have Y6_ := Y5_.below hb Y5_.lt
      have L6_ := Fr.step L5_ hb
      have ZA6_ := ZA5_.below hb ZA5_.lt
      have OA6_ := Own.below OA5_ hb
      have O96_ := Own.below O95_ hb
      have U6_ := U5_.below hb U5_.lt
      have ZB6_ := ZB5_.below hb ZB5_.lt
      have OB6_ := Own.below OB5_ hb
      clear X5_ Y5_ L5_ ZA5_ OA5_ O95_ U5_ ZB5_ OB5_
      clear hb
      have cZA := ZA6_.cells; have lZA := ZA6_.lt
      have cZB := ZB6_.cells; have lZB := ZB6_.lt
      have cU := U6_.cells; have lU := U6_.lt
      have cX := X6_.cells; have lX := X6_.lt
      have cY := Y6_.cells; have lY := Y6_.lt
      obtain ⟨_, _, q1, q2, q3, q4⟩ := Own.row OB6_
      obtain ⟨_, _, r1, r2, r3, r4⟩ := Own.row OA6_
      injection q1 with q1a _ q1c; subst q1a; subst q1c
      injection r1 with r1a _ r1c; subst r1a; subst r1c
      unfold maxLen at q3 r3
      go_wp2_with fail
      clear cZA lZA cZB lZB cU lU cX lX cY lY
      refine (eqPks_same _ _ l _ _ _ q4 r4 q2 (by omega)).mono ?_
      rintro e w7 ⟨rfl, hb⟩
      have X7_ := X6_.below hb X6_.lt
      have Y7_ := Y6_.below hb Y6_.lt
      have L7_ := Fr.step L6_ hb
      have ZA7_ := ZA6_.below hb ZA6_.lt
      have OA7_ := Own.below OA6_ hb
      have O97_ := Own.below O96_ hb
      have U7_ := U6_.below hb U6_.lt
      have ZB7_ := ZB6_.below hb ZB6_.lt
      have OB7_ := Own.below OB6_ hb
      clear X6_ Y6_ L6_ ZA6_ OA6_ O96_ U6_ ZB6_ OB6_
      clear hb q2 q3 q4 r2 r3 r4
      have G7 : PkRow w7 w7.heap.size (some ⟨g9, 0, none⟩) ps := by obtain ⟨_, _, q1, _, _, q4⟩ := Own.row O97_; injection q1 with q1a _ q1c; subst q1a; exact q4
      go_upto_region 10 with fail
      refine wp_region_facts 3 [58, 59, 60] (VRing room count ps A cap g9) (fun _ W => Below w7.heap.size w7 W) (fun w w' => Below w.heap.size w w') (by kernel_rfl) (by kernel_rfl) (by rfl) ?hIc VRing_keep ?hobc ?hendc
      case hIc => exact (Below.refl _ _).drew
      case hobc =>
        simp only [List.take_succ_cons, List.take_zero, Obs, and_true]
        refine ⟨?_, ?_, ?_⟩
        · intro k' x W hkn hI hd K hK0
          have hK := hK0.out
          simp only [setAll, Act.put, List.foldl_cons, List.foldl_nil, List.setIfInBounds_toArray, List.set_cons_succ, List.set_cons_zero] at hK ⊢
          have HK := Lib.hid hK
          clear hK hK0
          rw [if_pos (by rfl)]
          clear hd
          have cx := (U7_.below hI U7_.lt).cells
          go_simp
          exact HK.out _ _ hI (Below.refl _ _) ⟨rfl, fun h => by cases h⟩
        · intro k' x W hkn hI hd K hK0
          have hK := hK0.out
          simp only [setAll, Act.put, List.foldl_cons, List.foldl_nil, List.setIfInBounds_toArray, List.set_cons_succ, List.set_cons_zero] at hK ⊢
          have HK := Lib.hid hK
          clear hK hK0
          rw [if_pos (by rfl)]
          clear hd
          have cx := (X7_.below hI X7_.lt).cells
          go_simp
          exact HK.out _ _ hI (Below.refl _ _) ⟨rfl, fun h => by cases h⟩
        · intro k' x W hkn hI hd K hK0
          have hK := hK0.out
          simp only [setAll, Act.put, List.foldl_cons, List.foldl_nil, List.setIfInBounds_toArray, List.set_cons_succ, List.set_cons_zero] at hK ⊢
          have HK := Lib.hid hK
          clear hK hK0
          rw [if_pos (by rfl)]
          obtain e59 : x 59 = .agg #[.int .i64 room, .int .i64 count, .slice A ps.length cap] := hd 1 _ rfl (by kernel_rfl)
          rw [e59] at HK ⊢
          clear e59
          clear hd
          go_simp
          refine (toRing_any room count A ps cap W ((HP.out.below (Fr.step L7_ hI)).more (Fr.step L7_ hI).size) HL.out HM.out HN.out).mono ?_
          rintro e w9 ⟨g1, rfl, hg1, hB1, hb1⟩
          exact HK.out _ _ (Fr.step hI hb1) hb1 ⟨⟨g1, rfl, .of_blk hB1⟩, fun h => by cases h⟩
      case hendc =>
        intro x w8 hb hV
        obtain e58 : x 58 = .agg #[.int .i64 room, .int .i64 count, .slice (some ⟨g9, 0, none⟩) ps.length ps.length] := hV 0 _ (by omega) rfl
        obtain ⟨g5, e60, hg5⟩ : ∃ g5, x 60 = .agg #[.int .i64 room, .int .i64 count, .slice (some ⟨g5, 0, none⟩) ps.length ps.length] ∧ PkRow w8 w8.heap.size (some ⟨g5, 0, none⟩) ps := hV 2 _ (by omega) rfl
        clear hV
        simp only [setAll, Act.put, List.foldl_cons, List.foldl_nil, List.setIfInBounds_toArray, List.set_cons_succ, List.set_cons_zero, List.drop_succ_cons, List.drop_zero]
        rw [e58, e60]
        clear e58 e60
        have G8 := G7.mem hb
        have X8_ := X7_.below hb X7_.lt
        have Y8_ := Y7_.below hb Y7_.lt
        have L8_ := Fr.step L7_ hb
        have ZA8_ := ZA7_.below hb ZA7_.lt
        have OA8_ := Own.below OA7_ hb
        have O98_ := Own.below O97_ hb
        have U8_ := U7_.below hb U7_.lt
        have ZB8_ := ZB7_.below hb ZB7_.lt
        have OB8_ := Own.below OB7_ hb
        clear X7_ Y7_ L7_ ZA7_ OA7_ O97_ U7_ ZB7_ OB7_
        clear hb G7
        go_wp2_with fail
        refine (eqRing_same room count _ _ ps _ _ w8 G8 hg5 (Nat.le_refl _) HL'.out).mono ?_
        rintro e w9 ⟨rfl, hb⟩
        have X9_ := X8_.below hb X8_.lt
        have Y9_ := Y8_.below hb Y8_.lt
        have L9_ := Fr.step L8_ hb
        have ZA9_ := ZA8_.below hb ZA8_.lt
        have OA9_ := Own.below OA8_ hb
        have O99_ := Own.below O98_ hb
        have U9_ := U8_.below hb U8_.lt
        have ZB9_ := ZB8_.below hb ZB8_.lt
        have OB9_ := Own.below OB8_ hb
        clear X8_ Y8_ L8_ ZA8_ OA8_ O98_ U8_ ZB8_ OB8_
        clear hb G8 hg5
        have cU := U9_.cells; have lU := U9_.lt
        go_wp2_with fail
        clear cU lU
        refine (markRing_any room count _ ps ps.length w2.heap.size w9 O99_ HN.out).mono ?_
        rintro e w10 ⟨rfl, hg⟩
        have X10_ := Blk.grown_ X9_ hg (fun e => by simp [Value.ownBlock] at e; omega)
        have Y10_ := Blk.grown_ Y9_ hg (fun e => by simp [Value.ownBlock] at e; omega)
        have ZA10_ := Blk.grown_ ZA9_ hg (fun e => by simp [Value.ownBlock] at e; omega)
        have U10_ := Blk.grown_ U9_ hg (fun e => by simp [Value.ownBlock] at e; omega)
        have ZB10_ := Blk.grown_ ZB9_ hg (fun e => by simp [Value.ownBlock] at e; omega)
        have OA10_ := Own.grown_ OA9_ hg (fun k hk e => by have := hA7 k hk; simp [Value.ownBlock] at e; omega)
        have OB10_ := Own.grown_ OB9_ hg (fun k hk e => by have := (World.ownsRow.lt OB9_ k hk).1; simp [Value.ownBlock] at e; omega)
        have L10_ := below_grown L9_ hg (fun k hk => by simp [Value.ownBlock] at hk; omega)
        clear hg X9_ Y9_ ZA9_ U9_ ZB9_ OA9_ OB9_ L9_ O99_
        have hk0 : ¬ 1 + 6 * (ps.length : Int) < 0 := by omega
        have hm0 : ¬ 1 + 6 * (l.length : Int) < 0 := by omega
        have cZA := ZA10_.cells; have lZA := ZA10_.lt
        have cZB := ZB10_.cells; have lZB := ZB10_.lt
        have cU := U10_.cells; have lU := U10_.lt
        have cX := X10_.cells; have lX := X10_.lt
        have cY := Y10_.cells; have lY := Y10_.lt
        go_wp2_with fail
        clear cZA lZA cZB lZB cU lU cX lX cY lY
        refine (eqReader_same _ _ _ _).mono ?_
        rintro e w11 ⟨rfl, hb⟩
        have X11_ := X10_.below hb X10_.lt
        have Y11_ := Y10_.below hb Y10_.lt
        have L11_ := Fr.step L10_ hb
        have ZA11_ := ZA10_.below hb ZA10_.lt
        have OA11_ := Own.below OA10_ hb
        have U11_ := U10_.below hb U10_.lt
        have ZB11_ := ZB10_.below hb ZB10_.lt
        have OB11_ := Own.below OB10_ hb
        clear X10_ Y10_ L10_ ZA10_ OA10_ U10_ ZB10_ OB10_
        clear hb
        obtain ⟨_, _, q1, q2, q3, q4⟩ := Own.row OB11_
        obtain ⟨_, _, r1, r2, r3, r4⟩ := Own.row OA11_
        injection q1 with q1a _ q1c; subst q1a; subst q1c
        injection r1 with r1a _ r1c; subst r1a; subst r1c
        unfold maxLen at q3 r3
        go_wp2_with fail
        refine (eqPks_same _ _ l _ _ _ q4 r4 q2 (by omega)).mono ?_
        rintro e w12 ⟨rfl, hb⟩
        have X12_ := X11_.below hb X11_.lt
        have Y12_ := Y11_.below hb Y11_.lt
        have L12_ := Fr.step L11_ hb
        have ZA12_ := ZA11_.below hb ZA11_.lt
        have OA12_ := Own.below OA11_ hb
        have U12_ := U11_.below hb U11_.lt
        have ZB12_ := ZB11_.below hb ZB11_.lt
        have OB12_ := Own.below OB11_ hb
        clear X11_ Y11_ L11_ ZA11_ OA11_ U11_ ZB11_ OB11_
        clear hb q2 q3 q4 r2 r3 r4
        go_wp2_with fail
        refine (markPks _ l W4.heap.size 1 w12 OB12_ (by omega) hl20).mono ?_
        rintro e w13 ⟨rfl, MB13_, hg⟩
        have X13_ := Blk.grown_ X12_ hg (fun e => by have := (World.ownsRow.lt OB12_ _ e).1; omega)
        have Y13_ := Blk.grown_ Y12_ hg (fun e => by have := (World.ownsRow.lt OB12_ _ e).1; omega)
        have ZA13_ := Blk.grown_ ZA12_ hg (fun e => by have := (World.ownsRow.lt OB12_ _ e).1; omega)
        have U13_ := Blk.grown_ U12_ hg (fun e => by have := (World.ownsRow.lt OB12_ _ e).1; omega)
        have ZB13_ := Blk.grown_ ZB12_ hg (own_ne OB12_ ZB12_ (by decide))
        have OA13_ := Own.grown_ OA12_ hg (fun k hk e => by have := hA7 k hk; have := (World.ownsRow.lt OB12_ k e).1; omega)
        have L13_ := below_grown L12_ hg (fun k hk => by have := (World.ownsRow.lt OB12_ k hk).1; omega)
        clear hg X12_ Y12_ ZA12_ U12_ ZB12_ OA12_ OB12_ L12_
        go_wp2_with fail
        refine (heldPks _ W4.heap.size l.length 1 w13 MB13_ (by omega) hl20).mono ?_
        rintro e w13' ⟨rfl, hw13⟩
        subst hw13
        go_upto_region 24 with fail
        have R13 := (HP.out.below L13_).more L13_.size
        refine wp_region_facts2 12 [97, 98, 99, 100, 101, 96, 102, 103, 104, 16, 17] dpA24 12 (VA w13'.heap.size room count A ps cap nx lost wt a b c l ok) (fun _ W => Below w13'.heap.size w13' W) (fun _ _ W W' => RTake w13'.heap.size a b c zpk false W W') (by kernel_rfl) (by kernel_rfl) (by rfl) ?hId VA_keep (by kernel_rfl) ?hobd ?hendd
        case hId => exact (Below.refl _ _).drew
        case hobd =>
          simp only [List.take_succ_cons, List.take_zero, Obs2, and_true]
          refine ⟨?_, ?_, ?_, ?_, ?_, ?_, ?_, ?_, ?_, ?_, ?_, ?_⟩
          · intro k' x W sb hkn hI hs1 hs2 hd K hK0
            have hK := hK0.out
            simp only [setAll, Act.put, List.foldl_cons, List.foldl_nil, List.setIfInBounds_toArray, List.set_cons_succ, List.set_cons_zero] at hK ⊢
            have HK := Lib.hid hK
            clear hK hK0
            rw [if_pos (by rfl)]
            clear hd
            have cx := (X13_.below hI X13_.lt).cells
            go_simp
            exact HK.out _ _ hI (.inl (Below.refl _ _)) (rfl)
          · intro k' x W sb hkn hI hs1 hs2 hd K hK0
            have hK := hK0.out
            simp only [setAll, Act.put, List.foldl_cons, List.foldl_nil, List.setIfInBounds_toArray, List.set_cons_succ, List.set_cons_zero] at hK ⊢
            have HK := Lib.hid hK
            clear hK hK0
            rw [if_pos (by rfl)]
            obtain e97 : x 97 = .agg #[.int .i64 room, .int .i64 count, .slice A ps.length cap] := hd 0 _ rfl (by kernel_rfl)
            rw [e97] at HK ⊢
            clear e97
            clear hd
            go_simp
            refine (toRing_any room count A ps cap W (PkRow.mem R13 hI) HL.out HM.out HN.out).mono ?_
            rintro e w9 ⟨g, rfl, hg, hB9, hb9⟩
            exact HK.out _ _ (Fr.step hI hb9) (.inl hb9) (⟨g, rfl, .of_blk hB9⟩)
          · intro k' x W sb hkn hI hs1 hs2 hd K hK0
            have hK := hK0.out
            simp only [setAll, Act.put, List.foldl_cons, List.foldl_nil, List.setIfInBounds_toArray, List.set_cons_succ, List.set_cons_zero] at hK ⊢
            have HK := Lib.hid hK
            clear hK hK0
            rw [if_pos (by rfl)]
            clear hd
            have cx := (Y13_.below hI Y13_.lt).cells
            go_simp
            exact HK.out _ _ hI (.inl (Below.refl _ _)) (rfl)
          · intro k' x W sb hkn hI hs1 hs2 hd K hK0
            have hK := hK0.out
            simp only [setAll, Act.put, List.foldl_cons, List.foldl_nil, List.setIfInBounds_toArray, List.set_cons_succ, List.set_cons_zero] at hK ⊢
            have HK := Lib.hid hK
            clear hK hK0
            rw [if_pos (by rfl)]
            obtain e99 : x 99 = .agg #[.int .i64 nx, .int .i64 lost, .bool wt] := hd 2 _ rfl (by kernel_rfl)
            rw [e99] at HK ⊢
            clear e99
            clear hd
            go_simp
            refine (toReader_mem nx lost wt W).mono ?_
            rintro e w9 ⟨rfl, hb9⟩
            exact HK.out _ _ (Fr.step hI hb9) (.inl hb9) (rfl)
          · intro k' x W sb hkn hI hs1 hs2 hd K hK0
            have hK := hK0.out
            simp only [setAll, Act.put, List.foldl_cons, List.foldl_nil, List.setIfInBounds_toArray, List.set_cons_succ, List.set_cons_zero] at hK ⊢
            have HK := Lib.hid hK
            clear hK hK0
            rw [if_pos (by rfl)]
            obtain ⟨g, e1_, hrow⟩ : ∃ g, x 98 = .agg #[.int .i64 room, .int .i64 count, .slice (some ⟨g, 0, none⟩) ps.length ps.length] ∧ PkRow W W.heap.size (some ⟨g, 0, none⟩) ps := hd 1 _ rfl (by kernel_rfl)
            obtain e3_ : x 100 = .agg #[.int .i64 nx, .int .i64 lost, .bool wt] := hd 3 _ rfl (by kernel_rfl)
            rw [e1_, e3_] at HK ⊢
            clear e1_ e3_
            clear hd
            go_simp
            refine (allImpl room count _ ps ps.length nx lost wt W hrow (Nat.le_refl _) HL'.out).mono ?_
            rintro e w9 ⟨A9, cap9, a9, b9, c9, l9, rfl, hR9, q9, k91, k92, hb9, ho9⟩
            obtain ⟨rfl, rfl, rfl, rfl⟩ : a9 = a ∧ b9 = b ∧ c9 = c ∧ l9 = l := by have := all_uniq hR9 HR.out; simpa using this
            rw [HOK.out]
            exact HK.out _ _ (Fr.step hI hb9) (.inl hb9) (⟨_, rfl, Own.mono_ ho9 hI.size⟩)
          · intro k' x W sb hkn hI hs1 hs2 hd K hK0
            have hK := hK0.out
            simp only [setAll, Act.put, List.foldl_cons, List.foldl_nil, List.setIfInBounds_toArray, List.set_cons_succ, List.set_cons_zero] at hK ⊢
            have HK := Lib.hid hK
            clear hK hK0
            rw [if_pos (by rfl)]
            obtain ⟨z, e101, hz⟩ : ∃ z, x 101 = .tuple #[.agg #[.int .i64 a, .int .i64 b, .bool c], z, .bool ok] ∧ Own W w13'.heap.size z l := hd 4 _ rfl (by kernel_rfl)
            rw [e101] at HK ⊢
            clear e101
            clear hd
            go_simp
            exact HK.out _ _ hI (.inl (Below.refl _ _)) (⟨z, rfl, hz⟩)
          · intro k' x W sb hkn hI hs1 hs2 hd K hK0
            have hK := hK0.out
            simp only [setAll, Act.put, List.foldl_cons, List.foldl_nil, List.setIfInBounds_toArray, List.set_cons_succ, List.set_cons_zero] at hK ⊢
            have HK := Lib.hid hK
            clear hK hK0
            rw [if_pos (by rfl)]
            obtain ⟨z, e96, hz⟩ : ∃ z, x 96 = .tuple #[.agg #[.int .i64 a, .int .i64 b, .bool c], z, .bool ok] ∧ Own W w13'.heap.size z l := hd 5 _ rfl (by kernel_rfl)
            rw [e96] at HK ⊢
            clear e96
            clear hd
            go_simp
            exact HK.out _ _ hI (.inl (Below.refl _ _)) (rfl)
          · intro k' x W sb hkn hI hs1 hs2 hd K hK0
            have hK := hK0.out
            simp only [setAll, Act.put, List.foldl_cons, List.foldl_nil, List.setIfInBounds_toArray, List.set_cons_succ, List.set_cons_zero] at hK ⊢
            have HK := Lib.hid hK
            clear hK hK0
            rw [if_pos (by rfl)]
            obtain ⟨z, e96, hz⟩ : ∃ z, x 96 = .tuple #[.agg #[.int .i64 a, .int .i64 b, .bool c], z, .bool ok] ∧ Own W w13'.heap.size z l := hd 5 _ rfl (by kernel_rfl)
            rw [e96] at HK ⊢
            clear e96
            clear hd
            go_simp
            exact HK.out _ _ hI (.inl (Below.refl _ _)) (hz)
          · intro k' x W sb hkn hI hs1 hs2 hd K hK0
            have hK := hK0.out
            simp only [setAll, Act.put, List.foldl_cons, List.foldl_nil, List.setIfInBounds_toArray, List.set_cons_succ, List.set_cons_zero] at hK ⊢
            have HK := Lib.hid hK
            clear hK hK0
            rw [if_pos (by rfl)]
            obtain ⟨z, e96, hz⟩ : ∃ z, x 96 = .tuple #[.agg #[.int .i64 a, .int .i64 b, .bool c], z, .bool ok] ∧ Own W w13'.heap.size z l := hd 5 _ rfl (by kernel_rfl)
            rw [e96] at HK ⊢
            clear e96
            clear hd
            go_simp
            exact HK.out _ _ hI (.inl (Below.refl _ _)) (rfl)
          · intro k' x W sb hkn hI hs1 hs2 hd K hK0
            have hK := hK0.out
            simp only [setAll, Act.put, List.foldl_cons, List.foldl_nil, List.setIfInBounds_toArray, List.set_cons_succ, List.set_cons_zero] at hK ⊢
            have HK := Lib.hid hK
            clear hK hK0
            rw [if_pos (by rfl)]
            clear hd
            go_simp
            exact HK.out _ _ (Fr.alloc hI _) (.inl (Fr.alloc (Below.refl _ _) _)) (⟨_, _, _, _, rfl, hI.size, Blk.new _ _ _ rfl⟩)
          · intro k' x W sb hkn hI hs1 hs2 hd K hK0
            have hK := hK0.out
            simp only [setAll, Act.put, List.foldl_cons, List.foldl_nil, List.setIfInBounds_toArray, List.set_cons_succ, List.set_cons_zero] at hK ⊢
            have HK := Lib.hid hK
            clear hK hK0
            rw [if_pos (by rfl)]
            obtain ⟨d, _, _, _, e16, hdl, hB⟩ : Has3 w13'.heap.size (x 16) W := hd 9 _ rfl (by kernel_rfl)
            obtain e102 : x 102 = .agg #[.int .i64 a, .int .i64 b, .bool c] := hd 6 _ rfl (by kernel_rfl)
            have E := Lib.hid e16
            rw [e16, e102] at HK ⊢
            clear e16 e102
            clear hd
            have f6 := hB.free
            have c6 := hB.cells
            go_simp
            have hr : RTake w13'.heap.size a b c zpk false W (wset3 W d (.int .i64 a) (.int .i64 b) (.bool c)) := .inr (.inl ⟨d, _, _, _, hdl, hB, rfl⟩)
            exact HK.out undef _ (hr.below hI) hr (⟨d, E.out, hdl, hB.set3 _ _ _⟩)
          · intro k' x W sb hkn hI hs1 hs2 hd K hK0
            have hK := hK0.out
            simp only [setAll, Act.put, List.foldl_cons, List.foldl_nil, List.setIfInBounds_toArray, List.set_cons_succ, List.set_cons_zero] at hK ⊢
            have HK := Lib.hid hK
            clear hK hK0
            rw [if_pos (by rfl)]
            have hz : Own W w13'.heap.size (x 103) l := hd 7 _ rfl (by kernel_rfl)
            clear hd
            go_simp
            exact HK.out _ _ hI (.inl (Below.refl _ _)) (hz)
        case hendd =>
          intro x w14 sb hbw hV
          obtain ⟨d16, eb, hd16, Z16⟩ : Is3 w13'.heap.size a b c (x 16) w14 := hV 10 _ (by omega) rfl
          have ho : Own w14 w13'.heap.size (x 17) l := hV 11 _ (by omega) rfl
          obtain eo : x 104 = .bool ok := hV 8 _ (by omega) rfl
          clear hV
          simp only [setAll, Act.put, List.foldl_cons, List.foldl_nil, List.setIfInBounds_toArray, List.set_cons_succ, List.set_cons_zero, List.drop_succ_cons, List.drop_zero]
          rw [eb, eo]
          clear eb eo
          obtain ⟨v17, hv17⟩ : ∃ v, v = x 17 := ⟨_, rfl⟩
          rw [← hv17] at ho ⊢
          clear hv17
          obtain ⟨A17, cap17, ev17, k17a, k17b, -⟩ := Own.row ho
          unfold maxLen at k17b
          subst ev17
          have O17 := ho
          clear ho
          have X14_ := X13_.below hbw X13_.lt
          have Y14_ := Y13_.below hbw Y13_.lt
          have L14_ := Fr.step L13_ hbw
          have ZA14_ := ZA13_.below hbw ZA13_.lt
          have OA14_ := Own.below OA13_ hbw
          have MB14_ := Own.below MB13_ hbw
          have ZC14_ := Z16
          have OC14_ := O17
          clear X13_ Y13_ L13_ ZA13_ OA13_ MB13_ U13_ ZB13_ R13 Z16 O17 hbw
          have cZA := ZA14_.cells; have lZA := ZA14_.lt
          have cZC := ZC14_.cells; have lZC := ZC14_.lt
          go_wp2_with fail
          clear cZA lZA cZC lZC
          refine (eqReader_same _ _ _ _).mono ?_
          rintro e w15 ⟨rfl, hb⟩
          have L15_ := Fr.step L14_ hb
          have ZA15_ := ZA14_.below hb ZA14_.lt
          have OA15_ := Own.below OA14_ hb
          have OC15_ := Own.below OC14_ hb
          have ZC15_ := ZC14_.below hb ZC14_.lt
          clear L14_ ZA14_ OA14_ OC14_ ZC14_
          have MB15_ := Own.below MB14_ hb
          clear hb MB14_
          obtain ⟨_, _, q1, q2, q3, q4⟩ := Own.row OC15_
          obtain ⟨_, _, r1, r2, r3, r4⟩ := Own.row OA15_
          injection q1 with q1a _ q1c; subst q1a; subst q1c
          injection r1 with r1a _ r1c; subst r1a; subst r1c
          unfold maxLen at q3 r3
          go_wp2_with fail
          refine (eqPks_same _ _ l _ _ _ q4 r4 q2 (by omega)).mono ?_
          rintro e w16 ⟨rfl, hb⟩
          have L16_ := Fr.step L15_ hb
          have MB16_ := Own.below MB15_ hb
          clear hb q2 q3 q4 r2 r3 r4
          go_wp2_with fail
          refine (heldPks _ W4.heap.size l.length 1 w16 MB16_ (by omega) hl20).mono ?_
          rintro e w17 ⟨rfl, hw17⟩
          subst hw17
          go_wp2_with fail
          go_ret
          exact ⟨rfl, L16_⟩

end Go.Proofs.Ytlnhnljckceeaaa
