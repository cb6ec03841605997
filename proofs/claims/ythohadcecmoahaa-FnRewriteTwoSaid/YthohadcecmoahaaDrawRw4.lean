/-
  What the laws on RewriteNext draw: a rewriter, a source and a packet.
-/
import Derived.Test.YthohadcecmoahaaDrawRw2
import Derived.Test.YthohadcecmoahaaFacts
namespace Go.Proofs.Ythohadcecmoahaa
open Go.RowKit
set_option linter.unusedSimpArgs false
set_option linter.unusedVariables false

def RwSt (w : World) (g N : Nat) (L : List (Nat × TypeId × Array Value)) (e : Ending) (w' : World) : Prop :=
  ∃ so wi ti ba mo la, e = .returned (.agg #[.int .i64 so, .int .i64 wi, .int .i64 ti, .int .i64 ba, .int .i64 mo, .int .i64 la]) ∧ NearRw so wi ti ba mo la ∧ St w w' g (N + 40) L
theorem l91Rewriter_st {w wx : World} {g N : Nat} {L : List (Nat × TypeId × Array Value)} (h : St w wx g N L) (hN : N ≤ 900000000000) :
    Calls Try.prog 40 #[.pointer (some ⟨g, 0, none⟩)] wx (RwSt w g N L) :=
  (l91Rewriter_any w.heap.size g N wx h.rd hN).mono fun _ _ ⟨a, b, c, d, e, f, he, hn, hr, hg⟩ => ⟨a, b, c, d, e, f, he, hn, h.goes hg hr⟩
def PkSt (w : World) (g N : Nat) (L : List (Nat × TypeId × Array Value)) (wx : World) (e : Ending) (w' : World) : Prop :=
  ∃ wd tm ly sz k l, e = .returned (.agg #[.int .i64 wd, .int .i64 tm, .int .i64 ly, .int .i64 sz, .bool k, .bool l]) ∧ NearPk wd tm ly sz ∧ St w w' g (N + 8) L ∧ Goes g wx w'
theorem l91Packet_st {w wx : World} {g N : Nat} {L : List (Nat × TypeId × Array Value)} (h : St w wx g N L) (hN : N ≤ 900000000000) :
    Calls Try.prog 43 #[.pointer (some ⟨g, 0, none⟩)] wx (PkSt w g N L wx) :=
  (l91Packet_any w.heap.size g N wx h.rd hN).mono fun _ _ ⟨a, b, c, d, e, f, he, hn, hr, hg⟩ => ⟨a, b, c, d, e, f, he, hn, h.goes hg hr, hg⟩

def SomeNext (w : World) (e : Ending) (w' : World) : Prop :=
  ∃ so wi ti ba mo la s wd tm ly sz k l, e = .returned (.tuple #[.agg #[.int .i64 so, .int .i64 wi, .int .i64 ti, .int .i64 ba, .int .i64 mo, .int .i64 la], .int .i64 s, .agg #[.int .i64 wd, .int .i64 tm, .int .i64 ly, .int .i64 sz, .bool k, .bool l]]) ∧ NearRw so wi ti ba mo la ∧ (-1 ≤ s ∧ s ≤ 100) ∧ NearPk wd tm ly sz ∧ Below w.heap.size w w'

/-- What the operations of the last region but one leave. -/
def V8 (g rb : Nat) (so wi ti ba mo la : Int) (i : Nat) (v : Value) (w : World) : Prop := match i with
  | 0 => v = .agg #[.int .i64 so, .int .i64 wi, .int .i64 ti, .int .i64 ba, .int .i64 mo, .int .i64 la]
  | 1 => ∃ b T, v = .slice (some ⟨b, 0, none⟩) 2 2 ∧ b ≠ g ∧ b ≠ rb ∧ Blk w b T #[.int .i64 (-1), .int .i64 100]
  | 2 => v = .pointer (some ⟨g, 0, none⟩)
  | 3 => ∃ u, v = .int .i64 u ∧ 0 ≤ u ∧ u + 1 ≤ 2
  | 4 => ∃ b T j, v = .pointer (some ⟨b, j, none⟩) ∧ j < 2 ∧ b ≠ g ∧ b ≠ rb ∧ Blk w b T #[.int .i64 (-1), .int .i64 100]
  | 5 => ∃ u, v = .int .i64 u ∧ -1 ≤ u ∧ u ≤ 100
  | 6 => v = .pointer (some ⟨g, 0, none⟩)
  | 7 => ∃ wd tm ly sz k l, v = .agg #[.int .i64 wd, .int .i64 tm, .int .i64 ly, .int .i64 sz, .bool k, .bool l] ∧ NearPk wd tm ly sz
  | 8 => Blk w rb 26 #[.int .i64 so, .int .i64 wi, .int .i64 ti, .int .i64 ba, .int .i64 mo, .int .i64 la]
  | 9 => ∃ u, v = .int .i64 u ∧ -1 ≤ u ∧ u ≤ 100
  | _ => True
/-- Between the region's steps: the result's block is as at first or as at last. -/
def R8 (g rb : Nat) (so wi ti ba mo la : Int) (w w' : World) : Prop :=
  (∀ b T cs, b ≠ g → b ≠ rb → Blk w b T cs → Blk w' b T cs) ∧ (Blk w rb 26 #[.int .i64 so, .int .i64 wi, .int .i64 ti, .int .i64 ba, .int .i64 mo, .int .i64 la] → Blk w' rb 26 #[.int .i64 so, .int .i64 wi, .int .i64 ti, .int .i64 ba, .int .i64 mo, .int .i64 la])
theorem R8.goes {g rb : Nat} {so wi ti ba mo la : Int} {w w' : World} (h : Goes g w w') (hn : rb ≠ g) : R8 g rb so wi ti ba mo la w w' := ⟨fun _ _ _ hb _ hB => hB.goes h hb, fun hB => hB.goes h hn⟩
def I8 (w : World) (g rb N : Nat) (L : List (Nat × TypeId × Array Value)) (so wi ti ba mo la : Int) (w' : World) : Prop :=
  St w w' g N L ∧ (Blk w' rb 26 #[.int .i64 0, .int .i64 0, .int .i64 0, .int .i64 0, .int .i64 0, .int .i64 0] ∨ Blk w' rb 26 #[.int .i64 so, .int .i64 wi, .int .i64 ti, .int .i64 ba, .int .i64 mo, .int .i64 la])
theorem I8.goes {w : World} {g rb N M : Nat} {L : List (Nat × TypeId × Array Value)} {so wi ti ba mo la : Int} {w1 w2 : World} (h : I8 w g rb N L so wi ti ba mo la w1) (hS : St w w2 g M L) (hg : Goes g w1 w2) (hn : rb ≠ g) : I8 w g rb M L so wi ti ba mo la w2 :=
  ⟨hS, h.2.imp (fun hB => hB.goes hg hn) (fun hB => hB.goes hg hn)⟩
theorem V8_keep {g rb : Nat} {so wi ti ba mo la : Int} : ∀ (i : Nat) (v : Value) (w w' : World), R8 g rb so wi ti ba mo la w w' → V8 g rb so wi ti ba mo la i v w → V8 g rb so wi ti ba mo la i v w'
  | 0, _, _, _, _, h => h
  | 1, _, _, _, hg, ⟨b, T, e, hb, hr, hB⟩ => ⟨b, T, e, hb, hr, hg.1 b T _ hb hr hB⟩
  | 2, _, _, _, _, h => h
  | 3, _, _, _, _, h => h
  | 4, _, _, _, hg, ⟨b, T, j, e, hj, hb, hr, hB⟩ => ⟨b, T, j, e, hj, hb, hr, hg.1 b T _ hb hr hB⟩
  | 5, _, _, _, _, h => h
  | 6, _, _, _, _, h => h
  | 7, _, _, _, _, h => h
  | 8, _, _, _, hg, h => hg.2 h
  | 9, _, _, _, _, h => h
  | _ + 10, _, _, _, _, h => h

set_option maxHeartbeats 4000000 in
theorem drawRwNext_any (A : Option Addr) (len cap : Nat) (w : World) (hl : len ≤ cap) (hm : cap ≤ maxLen) (hc : Code w w.heap.size A len) :
    Calls Try.prog 30 #[.slice A len cap] w (SomeNext w) := by
  have HC := Lib.hid hc
  clear hc
  go_enter Try.func30, Try.ntmps30
  go_wp2_with fail
  refine (open_st (w := w) (L := [(w.heap.size, 26, #[.int .i64 0, .int .i64 0, .int .i64 0, .int .i64 0, .int .i64 0, .int .i64 0]), (w.heap.size + 1, 34, #[.int .i64 0, .int .i64 0, .int .i64 0, .int .i64 0, .bool false, .bool false])]) (Fr.alloc2 (Below.refl _ _) _ _) (.cons ((Blk.new w _ _ rfl).alloc _) (.cons (Blk.new _ _ _ (by simp)) (.nil _))) hl hm HC.out).mono ?_
  rintro e w1 ⟨g, rfl, hgx, hgw, S1⟩
  simp only [World.size_alloc] at hgx
  go_wp2_with fail
  refine (l91Rewriter_st S1 (by omega)).mono ?_
  rintro e w2 ⟨so, wi, ti, ba, mo, la, rfl, near, S2⟩
  have near1 := near
  unfold NearRw at near1
  have S3 := S2.push 26 #[.int .i64 so, .int .i64 wi, .int .i64 ti, .int .i64 ba, .int .i64 mo, .int .i64 la] rfl
  have hn := S3.n0
  have hl2 : w.heap.size + 1 < w2.heap.size := S2.b1.lt
  clear S1 S2
  go_wp2_with fail
  refine (pick1 S3 3 (by omega) (by omega) (by omega)).mono ?_
  rintro e w3 ⟨v3, rfl, p3, q3, S4, z3, z3'⟩
  clear S3 z3 z3'
  go_upto_region 4 with fail
  go_cut [22] (fun t wx => ∃ c : Bool, t = .bool c ∧ (c = true → 0 ≤ so) ∧ St w wx g 42 [(w2.heap.size, 26, #[.int .i64 so, .int .i64 wi, .int .i64 ti, .int .i64 ba, .int .i64 mo, .int .i64 la]), (w.heap.size, 26, #[.int .i64 0, .int .i64 0, .int .i64 0, .int .i64 0, .int .i64 0, .int .i64 0]), (w.heap.size + 1, 34, #[.int .i64 0, .int .i64 0, .int .i64 0, .int .i64 0, .bool false, .bool false])])
  case first =>
    have cx := S4.b0.cells
    by_cases hso : 0 ≤ so
    · go_wp2_with (refine (pick1 S4 2 (by omega) (by omega) (by omega)).mono ?_; rintro e w4 ⟨v4, rfl, p4, q4, S5, z4, z4'⟩)
      go_meet
      exact ⟨_, rfl, fun _ => hso, S5.le (by omega)⟩
    · go_wp2_with fail
      go_meet
      exact ⟨_, rfl, fun h => (by cases h), S4.le (by omega)⟩
  case rest =>
    obtain ⟨c, rfl, hc, S5⟩ := hcut
    clear S4
    go_upto_if 22 with fail
    go_cut [7] (fun t wx => ∃ s, t = .int .i64 s ∧ 0 ≤ s ∧ s ≤ 100 ∧ St w wx g 42 [(w2.heap.size, 26, #[.int .i64 so, .int .i64 wi, .int .i64 ti, .int .i64 ba, .int .i64 mo, .int .i64 la]), (w.heap.size, 26, #[.int .i64 0, .int .i64 0, .int .i64 0, .int .i64 0, .int .i64 0, .int .i64 0]), (w.heap.size + 1, 34, #[.int .i64 0, .int .i64 0, .int .i64 0, .int .i64 0, .bool false, .bool false])])
    case first =>
      have cx := S5.b0.cells
      cases c
      · go_wp2_with fail
        go_meet
        exact ⟨_, rfl, by omega, by omega, S5⟩
      · have h0 := hc rfl
        clear hc
        go_wp2_with fail
        go_meet
        exact ⟨_, rfl, by omega, by omega, S5⟩
    case rest =>
      obtain ⟨s, rfl, s0, s1, S6⟩ := hcut
      clear S5 hc p3 q3
      go_wp2_with fail
      refine (pick1 S6 25 (by omega) (by omega) (by omega)).mono ?_
      rintro e w5 ⟨v5, rfl, p5, q5, S7, z5, z5'⟩
      clear S6 z5 z5'
      go_wp2_with fail
      refine (pick1 S7 9 (by omega) (by omega) (by omega)).mono ?_
      rintro e w6 ⟨v6, rfl, p6, q6, S8, z6, z6'⟩
      clear S7 z6 z6'
      go_wp2_with fail
      refine (pick1 S8 2 (by omega) (by omega) (by omega)).mono ?_
      rintro e w7 ⟨v7, rfl, p7, q7, S9, z7, z7'⟩
      clear S8 z7 z7'
      go_wp2_with fail
      refine (pick1 S9 2 (by omega) (by omega) (by omega)).mono ?_
      rintro e w8 ⟨v8, rfl, p8, q8, S10, z8, z8'⟩
      clear S9 z8 z8'
      go_wp2_with fail
      have S11 := S10.push 34 #[.int .i64 (100 * s + v5), .int .i64 (500 * s + 30 * v6), .int .i64 0, .int .i64 50, .bool (v7 == 0), .bool (v8 == 0)] rfl
      have hl8 : w2.heap.size < w8.heap.size := S10.b0.lt
      clear S10
      refine (pick1 S11 20 (by omega) (by omega) (by omega)).mono ?_
      rintro e w9 ⟨v9, rfl, p9, q9, S12, z9, z9'⟩
      clear S11 z9'
      simp only [World.size_alloc] at z9
      by_cases hv9 : v9 = 0
      · subst hv9
        go_wp2_with fail
        have hrg : w.heap.size ≠ g := by omega
        have hpx : w8.heap.size ≠ w.heap.size := by omega
        have S13 := S12.noR
        have B2 := S12.b2
        clear S12
        refine wp_region_facts 10 [46, 47, 48, 49, 50, 51, 52, 53, 3] (V8 g w.heap.size so wi ti ba mo la) (fun k w' => I8 w g w.heap.size (47 + 40 * k) [(w8.heap.size, 34, #[.int .i64 (100 * s + v5), .int .i64 (500 * s + 30 * v6), .int .i64 0, .int .i64 50, .bool (v7 == 0), .bool (v8 == 0)]), (w2.heap.size, 26, #[.int .i64 so, .int .i64 wi, .int .i64 ti, .int .i64 ba, .int .i64 mo, .int .i64 la]), (w.heap.size + 1, 34, #[.int .i64 0, .int .i64 0, .int .i64 0, .int .i64 0, .bool false, .bool false])] so wi ti ba mo la w') (R8 g w.heap.size so wi ti ba mo la) (by kernel_rfl) (by kernel_rfl) (by rfl) ?hI V8_keep ?hob ?hend
        case hI => exact ⟨S13.drew, .inl B2⟩
        case hob =>
          simp only [List.take_succ_cons, List.take_zero, Obs, and_true]
          refine ⟨?_, ?_, ?_, ?_, ?_, ?_, ?_, ?_, ?_, ?_⟩
          · intro k x W hkn hI hd K hK0
            have hK := hK0.out
            simp only [setAll, Act.put, List.foldl_cons, List.foldl_nil, List.setIfInBounds_toArray, List.set_cons_succ, List.set_cons_zero] at hK ⊢
            have HK := Lib.hid hK
            clear hK hK0
            rw [if_pos (by rfl)]
            clear hd
            have cx := hI.1.b1.cells
            go_simp
            exact HK.out _ _ (hI.goes (hI.1.le (by omega)) (Goes.refl _ _) hrg) (R8.goes (Goes.refl _ _) hrg) ⟨rfl, fun h => by cases h⟩
          · intro k x W hkn hI hd K hK0
            have hK := hK0.out
            simp only [setAll, Act.put, List.foldl_cons, List.foldl_nil, List.setIfInBounds_toArray, List.set_cons_succ, List.set_cons_zero] at hK ⊢
            have HK := Lib.hid hK
            clear hK hK0
            rw [if_pos (by rfl)]
            clear hd
            go_simp
            refine HK.out _ _ (hI.goes ((hI.1.alloc _).le (by omega)) ((Goes.refl g W).alloc _) hrg) (R8.goes ((Goes.refl g W).alloc _) hrg) ⟨⟨_, _, rfl, by have := hI.1.rd.lt; omega, by have := hI.1.b2.lt; omega, Blk.new _ _ _ rfl⟩, fun h => by cases h⟩
          · intro k x W hkn hI hd K hK0
            have hK := hK0.out
            simp only [setAll, Act.put, List.foldl_cons, List.foldl_nil, List.setIfInBounds_toArray, List.set_cons_succ, List.set_cons_zero] at hK ⊢
            have HK := Lib.hid hK
            clear hK hK0
            rw [if_pos (by rfl)]
            clear hd
            go_simp
            exact HK.out _ _ (hI.goes (hI.1.le (by omega)) (Goes.refl _ _) hrg) (R8.goes (Goes.refl _ _) hrg) ⟨rfl, fun h => by cases h⟩
          · intro k x W hkn hI hd K hK0
            have hK := hK0.out
            simp only [setAll, Act.put, List.foldl_cons, List.foldl_nil, List.setIfInBounds_toArray, List.set_cons_succ, List.set_cons_zero] at hK ⊢
            have HK := Lib.hid hK
            clear hK hK0
            rw [if_pos (by rfl)]
            obtain e48 : x 48 = .pointer (some ⟨g, 0, none⟩) := hd 2 _ rfl (by kernel_rfl)
            rw [e48] at HK ⊢
            clear hd
            go_simp
            refine (pick1 hI.1 2 (by omega) (by omega) (by omega)).mono ?_
            rintro e W1 ⟨u, rfl, u0, u1, SW, _, _, GW⟩
            exact HK.out _ _ (hI.goes (SW.le (by omega)) GW hrg) (R8.goes GW hrg) ⟨⟨u, rfl, u0, u1⟩, fun h => by cases h⟩
          · intro k x W hkn hI hd K hK0
            have hK := hK0.out
            simp only [setAll, Act.put, List.foldl_cons, List.foldl_nil, List.setIfInBounds_toArray, List.set_cons_succ, List.set_cons_zero] at hK ⊢
            have HK := Lib.hid hK
            clear hK hK0
            rw [if_pos (by rfl)]
            obtain ⟨b, T, e47, hbg, hbr, hB⟩ : ∃ b T, x 47 = .slice (some ⟨b, 0, none⟩) 2 2 ∧ b ≠ g ∧ b ≠ w.heap.size ∧ Blk W b T #[.int .i64 (-1), .int .i64 100] := hd 1 _ rfl (by kernel_rfl)
            obtain ⟨u, e49, u0, u1⟩ : ∃ u, x 49 = .int .i64 u ∧ 0 ≤ u ∧ u + 1 ≤ 2 := hd 3 _ rfl (by kernel_rfl)
            rw [e47, e49] at HK ⊢
            clear hd
            have u2 : u < 2 := by omega
            go_simp
            exact HK.out _ _ (hI.goes (hI.1.le (by omega)) (Goes.refl _ _) hrg) (R8.goes (Goes.refl _ _) hrg) ⟨⟨b, T, _, rfl, by omega, hbg, hbr, hB⟩, fun h => by cases h⟩
          · intro k x W hkn hI hd K hK0
            have hK := hK0.out
            simp only [setAll, Act.put, List.foldl_cons, List.foldl_nil, List.setIfInBounds_toArray, List.set_cons_succ, List.set_cons_zero] at hK ⊢
            have HK := Lib.hid hK
            clear hK hK0
            rw [if_pos (by rfl)]
            obtain ⟨b, T, j, e50, hj, hbg, hbr, hB⟩ : ∃ b T j, x 50 = .pointer (some ⟨b, j, none⟩) ∧ j < 2 ∧ b ≠ g ∧ b ≠ w.heap.size ∧ Blk W b T #[.int .i64 (-1), .int .i64 100] := hd 4 _ rfl (by kernel_rfl)
            rw [e50] at HK ⊢
            clear hd
            have cB := hB.cells
            obtain rfl | rfl : j = 0 ∨ j = 1 := by omega
            · go_simp
              exact HK.out _ _ (hI.goes (hI.1.le (by omega)) (Goes.refl _ _) hrg) (R8.goes (Goes.refl _ _) hrg) ⟨⟨_, rfl, by omega, by omega⟩, fun h => by cases h⟩
            · go_simp
              exact HK.out _ _ (hI.goes (hI.1.le (by omega)) (Goes.refl _ _) hrg) (R8.goes (Goes.refl _ _) hrg) ⟨⟨_, rfl, by omega, by omega⟩, fun h => by cases h⟩
          · intro k x W hkn hI hd K hK0
            have hK := hK0.out
            simp only [setAll, Act.put, List.foldl_cons, List.foldl_nil, List.setIfInBounds_toArray, List.set_cons_succ, List.set_cons_zero] at hK ⊢
            have HK := Lib.hid hK
            clear hK hK0
            rw [if_pos (by rfl)]
            clear hd
            go_simp
            exact HK.out _ _ (hI.goes (hI.1.le (by omega)) (Goes.refl _ _) hrg) (R8.goes (Goes.refl _ _) hrg) ⟨rfl, fun h => by cases h⟩
          · intro k x W hkn hI hd K hK0
            have hK := hK0.out
            simp only [setAll, Act.put, List.foldl_cons, List.foldl_nil, List.setIfInBounds_toArray, List.set_cons_succ, List.set_cons_zero] at hK ⊢
            have HK := Lib.hid hK
            clear hK hK0
            rw [if_pos (by rfl)]
            obtain e52 : x 52 = .pointer (some ⟨g, 0, none⟩) := hd 6 _ rfl (by kernel_rfl)
            rw [e52] at HK ⊢
            clear hd
            go_simp
            refine (l91Packet_st hI.1 (by omega)).mono ?_
            rintro e W1 ⟨wd', tm', ly', sz', k', l', rfl, near', SW, GW⟩
            exact HK.out _ _ (hI.goes (SW.le (by omega)) GW hrg) (R8.goes GW hrg) ⟨⟨_, _, _, _, _, _, rfl, near'⟩, fun h => by cases h⟩
          · intro k x W hkn hI hd K hK0
            have hK := hK0.out
            simp only [setAll, Act.put, List.foldl_cons, List.foldl_nil, List.setIfInBounds_toArray, List.set_cons_succ, List.set_cons_zero] at hK ⊢
            have HK := Lib.hid hK
            clear hK hK0
            rw [if_pos (by rfl)]
            obtain e46 : x 46 = .agg #[.int .i64 so, .int .i64 wi, .int .i64 ti, .int .i64 ba, .int .i64 mo, .int .i64 la] := hd 0 _ rfl (by kernel_rfl)
            rw [e46] at HK ⊢
            clear hd
            have hb2 := hI.1.b1.lt
            have hLn : ∀ y ∈ ([(w8.heap.size, 34, #[.int .i64 (100 * s + v5), .int .i64 (500 * s + 30 * v6), .int .i64 0, .int .i64 50, .bool (v7 == 0), .bool (v8 == 0)]), (w2.heap.size, 26, #[.int .i64 so, .int .i64 wi, .int .i64 ti, .int .i64 ba, .int .i64 mo, .int .i64 la]), (w.heap.size + 1, 34, #[.int .i64 0, .int .i64 0, .int .i64 0, .int .i64 0, .bool false, .bool false])] : List (Nat × TypeId × Array Value)), y.1 ≠ w.heap.size := by simp; omega
            rcases hI with ⟨hS, hB | hB⟩
            · have cr := hB.cells; have fr := hB.free
              go_simp
              have hB' := hB.set6 (.int .i64 so) (.int .i64 wi) (.int .i64 ti) (.int .i64 ba) (.int .i64 mo) (.int .i64 la)
              exact HK.out undef _ ⟨(hS.set6 (Ne.symm hrg) (Nat.le_refl _) hLn _ _ _ _ _ _).le (by omega), .inr hB'⟩ ⟨fun b T cs _ hb hb1 => hb1.far6 hb _ _ _ _ _ _, fun _ => hB'⟩ ⟨hB', fun _ => hB'⟩
            · have cr := hB.cells; have fr := hB.free
              go_simp
              have hB' := hB.set6 (.int .i64 so) (.int .i64 wi) (.int .i64 ti) (.int .i64 ba) (.int .i64 mo) (.int .i64 la)
              exact HK.out undef _ ⟨(hS.set6 (Ne.symm hrg) (Nat.le_refl _) hLn _ _ _ _ _ _).le (by omega), .inr hB'⟩ ⟨fun b T cs _ hb hb1 => hb1.far6 hb _ _ _ _ _ _, fun _ => hB'⟩ ⟨hB', fun _ => hB'⟩
          · intro k x W hkn hI hd K hK0
            have hK := hK0.out
            simp only [setAll, Act.put, List.foldl_cons, List.foldl_nil, List.setIfInBounds_toArray, List.set_cons_succ, List.set_cons_zero] at hK ⊢
            have HK := Lib.hid hK
            clear hK hK0
            rw [if_pos (by rfl)]
            obtain ⟨u, e51, u0, u1⟩ : ∃ u, x 51 = .int .i64 u ∧ -1 ≤ u ∧ u ≤ 100 := hd 5 _ rfl (by kernel_rfl)
            rw [e51] at HK ⊢
            clear hd
            go_simp
            exact HK.out _ _ (hI.goes (hI.1.le (by omega)) (Goes.refl _ _) hrg) (R8.goes (Goes.refl _ _) hrg) ⟨⟨u, rfl, u0, u1⟩, fun h => by cases h⟩
        case hend =>
          intro x W hI hV
          obtain ⟨u, e3, u0, u1⟩ : ∃ u, x 3 = .int .i64 u ∧ -1 ≤ u ∧ u ≤ 100 := hV 9 _ (by omega) rfl
          obtain ⟨wd', tm', ly', sz', k', l', e53, near'⟩ : ∃ wd tm ly sz k l, x 53 = .agg #[.int .i64 wd, .int .i64 tm, .int .i64 ly, .int .i64 sz, .bool k, .bool l] ∧ NearPk wd tm ly sz := hV 7 _ (by omega) rfl
          have hB : Blk W w.heap.size 26 #[.int .i64 so, .int .i64 wi, .int .i64 ti, .int .i64 ba, .int .i64 mo, .int .i64 la] := hV 8 _ (by omega) rfl
          clear hV
          obtain ⟨hS, _⟩ := hI
          simp only [setAll, Act.put, List.foldl_cons, List.foldl_nil, List.setIfInBounds_toArray, List.set_cons_succ, List.set_cons_zero, List.drop_succ_cons, List.drop_zero]
          rw [e3, e53]
          have HP := hS.b2
          have cr := hB.cells; have fr := hB.free; have cp := HP.cells; have fp := HP.free
          have hbel := hS.below
          clear e3 e53 hS HP hB
          go_wp2_with fail
          refine bodyPost_ret (by simp [results, Try.results30, go_sem, cr, cp]; try rfl) rfl ?_
          refine ⟨_, _, _, _, _, _, _, _, _, _, _, _, _, rfl, near, ⟨u0, u1⟩, near', ?_⟩
          repeat' (first | (with_reducible exact hbel) | (with_reducible refine Below.setCell ?_ ?_ _) | (simp; omega) | (simp; done))
      · have hv9' : (v9 == 0) = false := by simp [hv9]
        have HX := S12.b1; have HP := S12.b0; have HR := S12.b2; have HP4 := S12.b3
        have cx := HX.cells; have cp := HP.cells
        have cr := HR.cells; have fr := HR.free; have cp4 := HP4.cells; have fp4 := HP4.free
        have hbel := S12.below
        have l1 := HX.lt; have l2 := HP.lt
        have n1 : w2.heap.size ≠ w.heap.size := by omega
        have n2 : w8.heap.size ≠ w.heap.size := by omega
        have n3 : w8.heap.size ≠ w.heap.size + 1 := by omega
        have nearP : NearPk (100 * s + v5) (500 * s + 30 * v6) 0 50 := by unfold NearPk; omega
        clear S12 HR HP4
        go_wp2_with fail
        go_region_held3 (fun w' => w'.cell? ⟨w2.heap.size, 0, none⟩ = some (.int .i64 so) ∧ w'.cell? ⟨w2.heap.size, 1, none⟩ = some (.int .i64 wi) ∧ w'.cell? ⟨w2.heap.size, 2, none⟩ = some (.int .i64 ti) ∧ w'.cell? ⟨w2.heap.size, 3, none⟩ = some (.int .i64 ba) ∧ w'.cell? ⟨w2.heap.size, 4, none⟩ = some (.int .i64 mo) ∧ w'.cell? ⟨w2.heap.size, 5, none⟩ = some (.int .i64 la) ∧ w'.cell? ⟨w8.heap.size, 0, none⟩ = some (.int .i64 (100 * s + v5)) ∧ w'.cell? ⟨w8.heap.size, 1, none⟩ = some (.int .i64 (500 * s + 30 * v6)) ∧ w'.cell? ⟨w8.heap.size, 2, none⟩ = some (.int .i64 0) ∧ w'.cell? ⟨w8.heap.size, 3, none⟩ = some (.int .i64 50) ∧ w'.cell? ⟨w8.heap.size, 4, none⟩ = some (.bool (v7 == 0)) ∧ w'.cell? ⟨w8.heap.size, 5, none⟩ = some (.bool (v8 == 0))) ((refine Blk.twelve (T := 26) (T' := 34) ?_ ?_ <;> (repeat' (first | (with_reducible exact HX) | (with_reducible exact HP) | (with_reducible refine Blk.drew ?_) | (with_reducible refine Blk.far ?_ ?_ _) | (simp; omega))))) (fail)
        all_goals go_wp2_with fail
        all_goals refine bodyPost_ret (by simp [results, Try.results30, go_sem, cr, cp4]; try rfl) rfl ?_
        all_goals refine ⟨_, _, _, _, _, _, _, _, _, _, _, _, _, rfl, near, ⟨by omega, by omega⟩, nearP, ?_⟩
        all_goals repeat' (first | (with_reducible exact hbel) | (with_reducible refine Below.setCell ?_ ?_ _) | (with_reducible refine Below.drew ?_) | (simp; omega) | (simp; done))

end Go.Proofs.Ythohadcecmoahaa
