/-
  What is drawn for SlotWrite and SlotRead.
-/
import Derived.Test.YtlcjepgmmbdkmaaSw
import Derived.Test.YtlcjepgmmbdkmaaDrawSlot
namespace Go.Proofs.Ytlcjepgmmbdkmaa
open Go.RowKit
set_option linter.unusedSimpArgs false
set_option linter.unusedVariables false

section
variable {w w' w'' wx : World} {L L' : List Nat} {g : Nat}
/-- A row of numbers, apart from these blocks. -/
def RowX (w : World) (L : List Nat) (A : Option Addr) (xs : List Int) : Prop :=
  0 < xs.length → ∃ b off, A = some ⟨b, off, none⟩ ∧ b < w.heap.size ∧ b ∉ L ∧ ∀ (j : Nat) (x : Int), xs[j]? = some x → w.cell? ⟨b, off + j, none⟩ = some (.int .i64 x)
variable {A : Option Addr} {xs : List Int}
theorem RowX.row (h : RowX w L A xs) : IntRow w w.heap.size A xs := fun h0 => by
  obtain ⟨b, off, e, hb, _, hc⟩ := h h0
  exact ⟨b, off, e, hb, hc⟩
theorem RowX.keep (h : RowX w L A xs) (k : Keep L' w w') (hs : ∀ x ∈ L', x ∈ L) : RowX w' L A xs := fun h0 => by
  obtain ⟨b, off, e, hb, hL, hc⟩ := h h0
  exact ⟨b, off, e, Nat.lt_of_lt_of_le hb k.1, hL, fun j x hj => (World.cell?_of_block (a := ⟨b, off + j, none⟩) (k.2 b hb (fun hm => hL (hs _ hm)))).trans (hc j x hj)⟩
theorem RowX.cons (h : RowX w L A xs) {b : Nat} (hb : w.heap.size ≤ b) : RowX w (b :: L) A xs := fun h0 => by
  obtain ⟨b', off, e, hb', hL, hc⟩ := h h0
  refine ⟨b', off, e, hb', fun hm => ?_, hc⟩
  rcases List.mem_cons.1 hm with e | hm
  · omega
  · exact hL hm
theorem RowX.sub (h : RowX w L A xs) (hs : ∀ x ∈ L', x ∈ L) : RowX w L' A xs := fun h0 => by
  obtain ⟨b', off, e, hb', hL, hc⟩ := h h0
  exact ⟨b', off, e, hb', fun hm => hL (hs _ hm), hc⟩
theorem RowX.nil : RowX w L A [] := fun h => absurd h (by simp)
theorem RowE.x {Z : Nat} (h : RowE w A xs) (hA : ∀ g o, A = some ⟨g, o, none⟩ → Z ≤ g) (hL : ∀ k ∈ L, k < Z) : RowX w L A xs := fun h0 => by
  obtain ⟨b, off, e, hb, hc⟩ := h.row h0
  exact ⟨b, off, e, hb, fun hm => by have := hL _ hm; have := hA _ _ e; omega, hc⟩
/-- .. apart from a slot's box, too. -/
theorem RowE.x1 {Z b : Nat} {cs : Array Value} (h : RowE w A xs) (hA : ∀ g o, A = some ⟨g, o, none⟩ → Z ≤ g) (hL : ∀ k ∈ L, k < Z) (hB : Blk w b 26 cs) : RowX w (b :: L) A xs := fun h0 => by
  rcases h with rfl | h
  · simp at h0
  · obtain ⟨g, C, rfl, hG, hc⟩ := h
    refine ⟨g, 0, rfl, hG.lt, fun hm => ?_, fun j x hj => by rw [hG.cells, Nat.zero_add]; exact hc j x hj⟩
    rcases List.mem_cons.1 hm with e | hm
    · subst e
      have : (some (Obj.cells C 3) : Option Obj) = some (.cells cs 26) := hG.symm.trans hB
      simp at this
    · have := hL _ hm; have := hA _ _ rfl; omega
end
section
variable {w wx : World} {g N b T : Nat} {cs : Array Value} {L L' : List (Nat × TypeId × Array Value)}
theorem St.add (h : St w wx g N L) (hb : Blk wx b T cs) (hn : b ≠ g) : St w wx g N ((b, T, cs) :: L) :=
  ⟨h.below, h.rd, fun b' T' cs' hm => by
    rcases List.mem_cons.1 hm with e | hm
    · cases e; exact ⟨hn, hb⟩
    · exact h.blks b' T' cs' hm⟩
theorem St.perm (h : St w wx g N L) (hs : ∀ x ∈ L', x ∈ L) : St w wx g N L' := ⟨h.below, h.rd, fun b T cs hm => h.blks b T cs (hs _ hm)⟩
end

/-- What holds throughout a region: one box D is written at the switch; Pr stands. -/
structure IW (w : World) (g N D T : Nat) (a0 b0 a1 b1 : Value) (L : List (Nat × TypeId × Array Value)) (Pr : World → Prop) (k : Nat) (sb : Bool) (W : World) : Prop where
  st : St w W g (N + k) ((D, T, if sb = true then #[a1, b1] else #[a0, b0]) :: L)
  pr : Pr W
section
variable {w W W' : World} {g N D T : Nat} {a0 b0 a1 b1 : Value} {L : List (Nat × TypeId × Array Value)} {Pr : World → Prop} {k : Nat} {sb : Bool}
theorem sw_ne {i sw : Nat} (hne : i ≠ sw) : (sb || decide (i = sw)) = sb := by simp [hne]
theorem IW.next (h : IW w g N D T a0 b0 a1 b1 L Pr k sb W) {i sw : Nat} (hne : i ≠ sw) : IW w g N D T a0 b0 a1 b1 L Pr (k + 1) (sb || decide (i = sw)) W := by
  rw [sw_ne hne]; exact ⟨h.st.le (by omega), h.pr⟩
theorem IW.goes (h : IW w g N D T a0 b0 a1 b1 L Pr k sb W) (hP : ∀ W W', Keep [g, D] W W' → Pr W → Pr W') {i sw : Nat} (hne : i ≠ sw) (hg : Goes g W W') (hr : Rd W' w.heap.size g (N + k + 1)) : IW w g N D T a0 b0 a1 b1 L Pr (k + 1) (sb || decide (i = sw)) W' := by
  rw [sw_ne hne]; exact ⟨h.st.goes hg hr, hP _ _ (.goes hg (.head _)) h.pr⟩
theorem IW.alloc (h : IW w g N D T a0 b0 a1 b1 L Pr k sb W) (hP : ∀ W W', Keep [g, D] W W' → Pr W → Pr W') {i sw : Nat} (hne : i ≠ sw) (o : Obj) : IW w g N D T a0 b0 a1 b1 L Pr (k + 1) (sb || decide (i = sw)) (W.alloc o) := by
  rw [sw_ne hne]; exact ⟨(h.st.alloc o).le (by omega), hP _ _ (.alloc o) h.pr⟩
theorem IW.put (h : IW w g N D T a0 b0 a1 b1 L Pr k false W) (hP : ∀ W W', Keep [g, D] W W' → Pr W → Pr W') (hD : w.heap.size ≤ D) (hL : ∀ x ∈ L, x.1 ≠ D) {t : Bool} (ht : t = true) : IW w g N D T a0 b0 a1 b1 L Pr (k + 1) t ((W.setCell ⟨D, 0, none⟩ a1).setCell ⟨D, 1, none⟩ b1) := by
  subst ht
  have h1 := (h.st.head1_ hD hL 0 a1).head1_ hD hL 1 b1
  refine ⟨(show St _ _ _ _ ((D, T, #[a1, b1]) :: L) from h1).le (by omega), hP _ _ (Keep.trans (Keep.set _ _ (.tail _ (.head _))) (Keep.set _ _ (.tail _ (.head _)))) h.pr⟩
theorem IW.start {wx : World} (h : St w wx g N ((D, T, #[a0, b0]) :: L)) (hP : ∀ W W', Keep [g, D] W W' → Pr W → Pr W') (hpr : Pr wx) : IW w g N D T a0 b0 a1 b1 L Pr 0 false wx.drew := ⟨h.drew, hP _ _ .drew hpr⟩
end
/-- What an operation leaves in its slot, by kinds. -/
def VK (G G2 S Ln : Value) (g D : Nat) (Q : Addr) (k : Nat) (x : Value) (w : World) : Prop := match k with
  | 0 => x = G
  | 1 => ∃ b p q, x = .slice (some ⟨b, 0, none⟩) 2 2 ∧ b ≠ g ∧ b ≠ D ∧ Blk w b 3 #[.int .i64 p, .int .i64 q]
  | 2 => x = .pointer (some ⟨g, 0, none⟩)
  | 3 => ∃ u : Int, x = .int .i64 u ∧ 0 ≤ u ∧ u ≤ 1
  | 4 => ∃ b j p q, x = .pointer (some ⟨b, j, none⟩) ∧ (j = 0 ∨ j = 1) ∧ b ≠ g ∧ b ≠ D ∧ Blk w b 3 #[.int .i64 p, .int .i64 q]
  | 5 => ∃ z, x = .int .i64 z
  | 6 => x = .pointer (some Q)
  | 7 => x = S
  | 8 => x = Ln
  | 10 => ∃ M : Int, x = .int .i64 M ∧ 1 ≤ M ∧ M ≤ 9223372036854775807
  | 11 => x = G2
  | _ => True
def VV (G G2 S Ln : Value) (g D : Nat) (Q : Addr) (kd : List Nat) (i : Nat) (sw : Bool) (vs : List Value) (w : World) : Prop := match vs with
  | [] => sw = true
  | [x] => VK G G2 S Ln g D Q (kd.getD i 9) x w
  | _ => True
def RK (g D : Nat) (b b' : Bool) (w w' : World) : Prop := (b = true → b' = true) ∧ Keep [g, D] w w'
theorem Blk.kept {w w' : World} {b g D T : Nat} {cs : Array Value} (h : Blk w b T cs) (k : Keep [g, D] w w') (h1 : b ≠ g) (h2 : b ≠ D) : Blk w' b T cs := (k.2 b h.lt (by simp; exact ⟨h1, h2⟩)).trans h
theorem VK_keep {G G2 S Ln : Value} {g D : Nat} {Q : Addr} {w w' : World} (hr : Keep [g, D] w w') : ∀ (k : Nat) (x : Value), VK G G2 S Ln g D Q k x w → VK G G2 S Ln g D Q k x w'
  | 0, _, h => h
  | 1, _, ⟨b, p, q, e, h1, h2, hB⟩ => ⟨b, p, q, e, h1, h2, hB.kept hr h1 h2⟩
  | 2, _, h => h
  | 3, _, h => h
  | 4, _, ⟨b, j, p, q, e, hj, h1, h2, hB⟩ => ⟨b, j, p, q, e, hj, h1, h2, hB.kept hr h1 h2⟩
  | 5, _, h => h
  | 6, _, h => h
  | 7, _, h => h
  | 8, _, h => h
  | 9, _, h => h
  | 10, _, h => h
  | 11, _, h => h
  | _ + 12, _, h => h
theorem VV_keep {G G2 S Ln : Value} {g D : Nat} {Q : Addr} {kd : List Nat} (i : Nat) (b b' : Bool) (vs : List Value) (w w' : World) (hr : RK g D b b' w w') (h : VV G G2 S Ln g D Q kd i b vs w) : VV G G2 S Ln g D Q kd i b' vs w' := match vs, h with
  | [], h => hr.1 h
  | [x], h => VK_keep hr.2 _ _ h
  | _ :: _ :: _, h => h
theorem RK.next {g D i sw : Nat} {sb : Bool} {w : World} : RK g D sb (sb || decide (i = sw)) w w := ⟨fun h => by simp [h], Keep.refl⟩
theorem RK.of {g D i sw : Nat} {sb : Bool} {w w' : World} (h : Keep [g, D] w w') : RK g D sb (sb || decide (i = sw)) w w' := ⟨fun h => by simp [h], h⟩
def dpL (l : List (List Nat)) (i : Nat) : List Tmp := l.getD i []

/-- Some slot, some place and some word are returned. -/
def SomeWrite (w : World) (e : Ending) (w' : World) : Prop :=
  ∃ ver A cap, ∃ xs : List Int, ∃ a word : Int, e = .returned (.tuple #[.agg #[.int .i64 ver, .slice A xs.length cap], .int .i64 a, .int .i64 word]) ∧ IntRow w' w'.heap.size A xs ∧ xs.length ≤ cap ∧ cap ≤ 9223372036854775807 ∧ Below w.heap.size w w'
set_option maxRecDepth 100000 in
set_option maxHeartbeats 8000000 in
theorem drawWrite_any (A0 : Option Addr) (len cap0 : Nat) (w : World) (hl : len ≤ cap0) (hm : cap0 ≤ maxLen) (hc : Code w w.heap.size A0 len) :
    Calls Try.prog 28 #[.slice A0 len cap0] w (SomeWrite w) := by
  have HC := Lib.hid hc
  clear hc
  go_enter Try.func28, Try.ntmps28
  go_wp2_with fail
  refine (open_st (w := w) (L := [(w.heap.size, 26, #[.int .i64 0, .slice none 0 0])]) (Fr.alloc (Below.refl _ _) _) (.cons (Blk.new _ _ _ rfl) (.nil _)) hl hm HC.out).mono ?_
  rintro e w1 ⟨g, rfl, hgx, hgw, S1⟩
  go_wp2_with fail
  refine (l91Slot_any2 w w1 g 0 _ S1 (by omega)).mono ?_
  rintro e w2 ⟨ver, A, cap, xs, rfl, S2, hr, k1, k2, x6, hoff⟩
  have R2 : RowX w2 [w2.heap.size, g, w.heap.size] A xs := fun h0 => by
    obtain ⟨b, o, e, hb, hc⟩ := hr h0
    have h1 := hoff b o e
    have h2 := h1.2 _ (.head _)
    have h3 := h1.1
    exact ⟨b, o, e, hb, by simp; exact ⟨by omega, h3, fun e => h2 e.symm⟩, hc⟩
  have S3 := S2.push 26 #[.int .i64 ver, .slice A xs.length cap] rfl
  have R3 := R2.keep (Keep.alloc (L := []) (.cells #[.int .i64 ver, .slice A xs.length cap] 26)) (by simp)
  have HD6 := Lib.hid (show w2.heap.size ≠ w.heap.size by have := S2.b0.lt; omega)
  have hw2 := Lib.hid S2.below.size
  clear S1 S2 R2 hr hoff hgx hgw HC hl hm
  generalize hD6 : w2.heap.size = D6 at *
  go_wp2_with fail
  refine (pick1 S3 3 (by omega) (by omega) (by omega)).mono ?_
  rintro e w4 ⟨v4, rfl, p4, q4, S4, -, -, hg4⟩
  have R4 := R3.keep (Keep.goes (L := [g]) hg4 (.head _)) (by simp)
  clear S3 R3 hg4 hD6
  clear w2
  by_cases hv4 : 0 < v4
  · go_wp2_with fail
    refine (pick1 S4 5 (by omega) (by omega) (by omega)).mono ?_
    rintro e w5 ⟨v5, rfl, p5, q5, S5, -, -, hg5⟩
    have R5 := R4.keep (Keep.goes (L := [g]) hg5 (.head _)) (by simp)
    clear S4 R4 hg5
    have hw1 : IntKind.i64.wrap (2 * v5) = 2 * v5 := IntWalk.i64_in _ (by omega)
    have hw3 : IntKind.i64.wrap (2 * v5 + 1) = 2 * v5 + 1 := IntWalk.i64_in _ (by omega)
    have c6 := S5.b0.cells
    have f6 := S5.b0.free
    have l6 := S5.b0.lt
    have c60 := c6 0
    have c61 := c6 1
    simp at c60 c61
    clear c6
    have S6 : St w (w5.setCell ⟨D6, 0, none⟩ (.int .i64 (2 * v5 + 1))) g _ [(D6, 26, #[.int .i64 (2 * v5 + 1), .slice A xs.length cap]), (w.heap.size, 26, #[.int .i64 0, .slice none 0 0])] := S5.head1_ hw2.out (by intro x hx; simp at hx; subst hx; exact Ne.symm HD6.out) 0 (.int .i64 (2 * v5 + 1))
    have R6 := R5.keep (Keep.set (L := [D6]) ⟨D6, 0, none⟩ (.int .i64 (2 * v5 + 1)) (.head _)) (by simp)
    clear S5 R5
    go_wp2_with fail
    clear c60 c61 f6 l6 hw1 hw3
    generalize 2 * v5 + 1 = v6 at *
    generalize w5.setCell ⟨D6, 0, none⟩ (.int .i64 v6) = w6 at *
    clear w5
    refine (pick1 S6 16 (by omega) (by omega) (by omega)).mono ?_
    rintro e w7 ⟨v7, rfl, p7, q7, S7, -, -, hg7⟩
    have R7 := R6.keep (Keep.goes (L := [g]) hg7 (.head _)) (by simp)
    have T7 : St w w7 g 200 [(w.heap.size, 26, #[.int .i64 0, .slice none 0 0]), (D6, 26, #[.int .i64 v6, .slice A xs.length cap])] := (S7.le (by omega)).perm (by simp)
    have HS := Lib.hid (And.intro T7 R7)
    have hP : ∀ W W', Keep [g, w.heap.size] W W' → RowX W [D6, g, w.heap.size] A xs → RowX W' [D6, g, w.heap.size] A xs := fun W W' k h => h.keep k (by simp)
    have hD : w.heap.size ≤ w.heap.size := Nat.le_refl _
    have hL : ∀ x ∈ ([(D6, 26, #[.int .i64 v6, .slice A xs.length cap])] : List (Nat × TypeId × Array Value)), x.1 ≠ w.heap.size := by
      intro x hx
      simp at hx
      subst hx
      exact HD6.out
    clear S6 R6 S7 R7 T7 hg7
    by_cases hv7 : v7 = 0
    · subst hv7
      go_upto_region 6 with fail
      refine wp_region_facts3 13 [22, 23, 24, 25, 26, 27, 28, 29, 30, 31, 32, 3] (dpL [[22], [23], [24], [25], [26], [27], [28], [29], [30], [31], [32], [], [3]]) 11 (VV (.agg #[.int .i64 v6, .slice A xs.length cap]) undef undef undef g w.heap.size ⟨0, 0, none⟩ [0, 1, 2, 3, 4, 5, 1, 2, 3, 4, 5, 9, 5]) (IW w g 200 w.heap.size 26 (.int .i64 0) (.slice none 0 0) (.int .i64 v6) (.slice A xs.length cap) [(D6, 26, #[.int .i64 v6, .slice A xs.length cap])] (fun W => RowX W [D6, g, w.heap.size] A xs)) (RK g w.heap.size) (by kernel_rfl) (by kernel_rfl) (by rfl) ?hI VV_keep (by kernel_rfl) ?hob ?hend
      case hI => exact IW.start HS.out.1 hP HS.out.2
      case hob =>
        simp only [List.take_succ_cons, List.take_zero, Obs3, and_true]
        refine ⟨?_, ?_, ?_, ?_, ?_, ?_, ?_, ?_, ?_, ?_, ?_, ?_, ?_⟩
        · intro k' x W sb hkn hI hs1 hs2 hd K hK0
          have hK := hK0.out
          simp only [setAll, Act.put, List.foldl_cons, List.foldl_nil, List.setIfInBounds_toArray, List.set_cons_succ, List.set_cons_zero] at hK ⊢
          have HK := Lib.hid hK
          clear hK hK0
          rw [if_pos (by rfl)]
          clear hd
          have c6 := hI.st.b1.cells
          have l6 := hI.st.b1.lt
          have c60 := c6 0
          have c61 := c6 1
          simp at c60 c61
          clear c6
          go_simp
          exact HK.out _ _ (hI.next (by decide)) RK.next (rfl)
        · intro k' x W sb hkn hI hs1 hs2 hd K hK0
          have hK := hK0.out
          simp only [setAll, Act.put, List.foldl_cons, List.foldl_nil, List.setIfInBounds_toArray, List.set_cons_succ, List.set_cons_zero] at hK ⊢
          have HK := Lib.hid hK
          clear hK hK0
          rw [if_pos (by rfl)]
          clear hd
          go_simp
          exact HK.out _ _ (hI.alloc hP (by decide) _) (RK.of (.alloc _)) (⟨_, _, _, rfl, by have := hI.st.rd.lt; omega, by have := hI.st.b0.lt; omega, Blk.new _ _ _ rfl⟩)
        · intro k' x W sb hkn hI hs1 hs2 hd K hK0
          have hK := hK0.out
          simp only [setAll, Act.put, List.foldl_cons, List.foldl_nil, List.setIfInBounds_toArray, List.set_cons_succ, List.set_cons_zero] at hK ⊢
          have HK := Lib.hid hK
          clear hK hK0
          rw [if_pos (by rfl)]
          clear hd
          go_simp
          exact HK.out _ _ (hI.next (by decide)) RK.next (rfl)
        · intro k' x W sb hkn hI hs1 hs2 hd K hK0
          have hK := hK0.out
          simp only [setAll, Act.put, List.foldl_cons, List.foldl_nil, List.setIfInBounds_toArray, List.set_cons_succ, List.set_cons_zero] at hK ⊢
          have HK := Lib.hid hK
          clear hK hK0
          rw [if_pos (by rfl)]
          obtain e : x 24 = .pointer (some ⟨g, 0, none⟩) := hd 2 _ rfl (by kernel_rfl)
          rw [e] at HK ⊢
          clear e
          clear hd
          go_simp
          refine (pick_any w.heap.size g _ 2 W hI.st.rd (by omega) (by omega) (by omega)).mono ?_
          rintro e W1 ⟨u, rfl, hv, hr, hg, hz⟩
          exact HK.out _ _ (hI.goes hP (by decide) hg hr) (RK.of (.goes hg (.head _))) (⟨u, rfl, hv.1, by have := hv.2; omega⟩)
        · intro k' x W sb hkn hI hs1 hs2 hd K hK0
          have hK := hK0.out
          simp only [setAll, Act.put, List.foldl_cons, List.foldl_nil, List.setIfInBounds_toArray, List.set_cons_succ, List.set_cons_zero] at hK ⊢
          have HK := Lib.hid hK
          clear hK hK0
          rw [if_pos (by rfl)]
          obtain ⟨b, p, q, e, h1, h2, hB⟩ : ∃ b p q, x 23 = .slice (some ⟨b, 0, none⟩) 2 2 ∧ b ≠ g ∧ b ≠ w.heap.size ∧ Blk W b 3 #[.int .i64 p, .int .i64 q] := hd 1 _ rfl (by kernel_rfl)
          rw [e] at HK ⊢
          clear e
          obtain ⟨u, e, u0, u1⟩ : ∃ u : Int, x 25 = .int .i64 u ∧ 0 ≤ u ∧ u ≤ 1 := hd 3 _ rfl (by kernel_rfl)
          rw [e] at HK ⊢
          clear e
          clear hd
          obtain rfl | rfl : u = 0 ∨ u = 1 := by omega
          · go_simp
            exact HK.out _ _ (hI.next (by decide)) RK.next (⟨_, 0, _, _, rfl, .inl rfl, h1, h2, hB⟩)
          · go_simp
            exact HK.out _ _ (hI.next (by decide)) RK.next (⟨_, 1, _, _, rfl, .inr rfl, h1, h2, hB⟩)
        · intro k' x W sb hkn hI hs1 hs2 hd K hK0
          have hK := hK0.out
          simp only [setAll, Act.put, List.foldl_cons, List.foldl_nil, List.setIfInBounds_toArray, List.set_cons_succ, List.set_cons_zero] at hK ⊢
          have HK := Lib.hid hK
          clear hK hK0
          rw [if_pos (by rfl)]
          obtain ⟨b, j, p, q, e, hj, h1, h2, hB⟩ : ∃ b j p q, x 26 = .pointer (some ⟨b, j, none⟩) ∧ (j = 0 ∨ j = 1) ∧ b ≠ g ∧ b ≠ w.heap.size ∧ Blk W b 3 #[.int .i64 p, .int .i64 q] := hd 4 _ rfl (by kernel_rfl)
          rw [e] at HK ⊢
          clear e
          clear hd
          have cb0 := hB.cells 0
          have cb1 := hB.cells 1
          simp at cb0 cb1
          rcases hj with rfl | rfl
          · go_simp
            exact HK.out _ _ (hI.next (by decide)) RK.next (⟨_, rfl⟩)
          · go_simp
            exact HK.out _ _ (hI.next (by decide)) RK.next (⟨_, rfl⟩)
        · intro k' x W sb hkn hI hs1 hs2 hd K hK0
          have hK := hK0.out
          simp only [setAll, Act.put, List.foldl_cons, List.foldl_nil, List.setIfInBounds_toArray, List.set_cons_succ, List.set_cons_zero] at hK ⊢
          have HK := Lib.hid hK
          clear hK hK0
          rw [if_pos (by rfl)]
          clear hd
          go_simp
          exact HK.out _ _ (hI.alloc hP (by decide) _) (RK.of (.alloc _)) (⟨_, _, _, rfl, by have := hI.st.rd.lt; omega, by have := hI.st.b0.lt; omega, Blk.new _ _ _ rfl⟩)
        · intro k' x W sb hkn hI hs1 hs2 hd K hK0
          have hK := hK0.out
          simp only [setAll, Act.put, List.foldl_cons, List.foldl_nil, List.setIfInBounds_toArray, List.set_cons_succ, List.set_cons_zero] at hK ⊢
          have HK := Lib.hid hK
          clear hK hK0
          rw [if_pos (by rfl)]
          clear hd
          go_simp
          exact HK.out _ _ (hI.next (by decide)) RK.next (rfl)
        · intro k' x W sb hkn hI hs1 hs2 hd K hK0
          have hK := hK0.out
          simp only [setAll, Act.put, List.foldl_cons, List.foldl_nil, List.setIfInBounds_toArray, List.set_cons_succ, List.set_cons_zero] at hK ⊢
          have HK := Lib.hid hK
          clear hK hK0
          rw [if_pos (by rfl)]
          obtain e : x 29 = .pointer (some ⟨g, 0, none⟩) := hd 7 _ rfl (by kernel_rfl)
          rw [e] at HK ⊢
          clear e
          clear hd
          go_simp
          refine (pick_any w.heap.size g _ 2 W hI.st.rd (by omega) (by omega) (by omega)).mono ?_
          rintro e W1 ⟨u, rfl, hv, hr, hg, hz⟩
          exact HK.out _ _ (hI.goes hP (by decide) hg hr) (RK.of (.goes hg (.head _))) (⟨u, rfl, hv.1, by have := hv.2; omega⟩)
        · intro k' x W sb hkn hI hs1 hs2 hd K hK0
          have hK := hK0.out
          simp only [setAll, Act.put, List.foldl_cons, List.foldl_nil, List.setIfInBounds_toArray, List.set_cons_succ, List.set_cons_zero] at hK ⊢
          have HK := Lib.hid hK
          clear hK hK0
          rw [if_pos (by rfl)]
          obtain ⟨b, p, q, e, h1, h2, hB⟩ : ∃ b p q, x 28 = .slice (some ⟨b, 0, none⟩) 2 2 ∧ b ≠ g ∧ b ≠ w.heap.size ∧ Blk W b 3 #[.int .i64 p, .int .i64 q] := hd 6 _ rfl (by kernel_rfl)
          rw [e] at HK ⊢
          clear e
          obtain ⟨u, e, u0, u1⟩ : ∃ u : Int, x 30 = .int .i64 u ∧ 0 ≤ u ∧ u ≤ 1 := hd 8 _ rfl (by kernel_rfl)
          rw [e] at HK ⊢
          clear e
          clear hd
          obtain rfl | rfl : u = 0 ∨ u = 1 := by omega
          · go_simp
            exact HK.out _ _ (hI.next (by decide)) RK.next (⟨_, 0, _, _, rfl, .inl rfl, h1, h2, hB⟩)
          · go_simp
            exact HK.out _ _ (hI.next (by decide)) RK.next (⟨_, 1, _, _, rfl, .inr rfl, h1, h2, hB⟩)
        · intro k' x W sb hkn hI hs1 hs2 hd K hK0
          have hK := hK0.out
          simp only [setAll, Act.put, List.foldl_cons, List.foldl_nil, List.setIfInBounds_toArray, List.set_cons_succ, List.set_cons_zero] at hK ⊢
          have HK := Lib.hid hK
          clear hK hK0
          rw [if_pos (by rfl)]
          obtain ⟨b, j, p, q, e, hj, h1, h2, hB⟩ : ∃ b j p q, x 31 = .pointer (some ⟨b, j, none⟩) ∧ (j = 0 ∨ j = 1) ∧ b ≠ g ∧ b ≠ w.heap.size ∧ Blk W b 3 #[.int .i64 p, .int .i64 q] := hd 9 _ rfl (by kernel_rfl)
          rw [e] at HK ⊢
          clear e
          clear hd
          have cb0 := hB.cells 0
          have cb1 := hB.cells 1
          simp at cb0 cb1
          rcases hj with rfl | rfl
          · go_simp
            exact HK.out _ _ (hI.next (by decide)) RK.next (⟨_, rfl⟩)
          · go_simp
            exact HK.out _ _ (hI.next (by decide)) RK.next (⟨_, rfl⟩)
        · intro k' x W sb hkn hI hs1 hs2 hd K hK0
          have hK := hK0.out
          simp only [setAll, Act.put, List.foldl_cons, List.foldl_nil, List.setIfInBounds_toArray, List.set_cons_succ, List.set_cons_zero] at hK ⊢
          have HK := Lib.hid hK
          clear hK hK0
          rw [if_pos (by rfl)]
          obtain e : x 22 = .agg #[.int .i64 v6, .slice A xs.length cap] := hd 0 _ rfl (by kernel_rfl)
          rw [e] at HK ⊢
          clear e
          clear hd
          obtain rfl : sb = false := hs2 rfl
          have cd := hI.st.b0.cells
          have fd := hI.st.b0.free
          have cd0 := cd 0
          have cd1 := cd 1
          simp at cd0 cd1
          clear cd
          go_simp
          exact HK.out undef _ (hI.put hP hD hL (by simp)) ⟨fun h => by simp, Keep.trans (Keep.set _ _ (.tail _ (.head _))) (Keep.set _ _ (.tail _ (.head _)))⟩ (rfl)
        · intro k' x W sb hkn hI hs1 hs2 hd K hK0
          have hK := hK0.out
          simp only [setAll, Act.put, List.foldl_cons, List.foldl_nil, List.setIfInBounds_toArray, List.set_cons_succ, List.set_cons_zero] at hK ⊢
          have HK := Lib.hid hK
          clear hK hK0
          rw [if_pos (by rfl)]
          obtain ⟨z, e⟩ : ∃ z, x 27 = .int .i64 z := hd 5 _ rfl (by kernel_rfl)
          rw [e] at HK ⊢
          clear e
          clear hd
          go_simp
          exact HK.out _ _ (hI.next (by decide)) RK.next (⟨_, rfl⟩)
      case hend =>
        intro x W sb hI hV
        obtain ⟨z1, e1⟩ : ∃ z, x 3 = .int .i64 z := hV 12 _ (by omega) rfl
        obtain ⟨z2, e2⟩ : ∃ z, x 32 = .int .i64 z := hV 10 _ (by omega) rfl
        obtain rfl : sb = true := hV 11 _ (by omega) rfl
        clear hV
        simp only [setAll, Act.put, List.foldl_cons, List.foldl_nil, List.setIfInBounds_toArray, List.set_cons_succ, List.set_cons_zero, List.drop_succ_cons, List.drop_zero]
        rw [e1, e2]
        clear e1 e2
        have cr := hI.st.b0.cells
        simp at cr
        have cr0 := cr 0
        have cr1 := cr 1
        simp at cr0 cr1
        clear cr
        go_wp2_with fail
        refine bodyPost_ret (by simp [results, Try.results28, go_sem, cr0, cr1]; try rfl) rfl ?_
        exact ⟨v6, A, cap, xs, z1, z2, rfl, hI.pr.row, k1, k2, hI.st.below⟩
    · have hne : (v7 == 0) = false := by simpa using hv7
      go_upto_region 7 with fail
      refine wp_region_facts3 11 [33, 34, 35, 36, 37, 38, 39, 40, 41, 3] (dpL [[33], [34], [35], [36], [37], [38], [39], [40], [41], [], [3]]) 9 (VV (.agg #[.int .i64 v6, .slice A xs.length cap]) undef (.slice A xs.length cap) (.int .i64 (xs.length : Int)) g w.heap.size ⟨D6, 1, none⟩ [0, 2, 6, 7, 8, 10, 5, 2, 5, 9, 5]) (IW w g 200 w.heap.size 26 (.int .i64 0) (.slice none 0 0) (.int .i64 v6) (.slice A xs.length cap) [(D6, 26, #[.int .i64 v6, .slice A xs.length cap])] (fun W => RowX W [D6, g, w.heap.size] A xs)) (RK g w.heap.size) (by kernel_rfl) (by kernel_rfl) (by rfl) ?hI VV_keep (by kernel_rfl) ?hob ?hend
      case hI => exact IW.start HS.out.1 hP HS.out.2
      case hob =>
        simp only [List.take_succ_cons, List.take_zero, Obs3, and_true]
        refine ⟨?_, ?_, ?_, ?_, ?_, ?_, ?_, ?_, ?_, ?_, ?_⟩
        · intro k' x W sb hkn hI hs1 hs2 hd K hK0
          have hK := hK0.out
          simp only [setAll, Act.put, List.foldl_cons, List.foldl_nil, List.setIfInBounds_toArray, List.set_cons_succ, List.set_cons_zero] at hK ⊢
          have HK := Lib.hid hK
          clear hK hK0
          rw [if_pos (by rfl)]
          clear hd
          have c6 := hI.st.b1.cells
          have l6 := hI.st.b1.lt
          have c60 := c6 0
          have c61 := c6 1
          simp at c60 c61
          clear c6
          go_simp
          exact HK.out _ _ (hI.next (by decide)) RK.next (rfl)
        · intro k' x W sb hkn hI hs1 hs2 hd K hK0
          have hK := hK0.out
          simp only [setAll, Act.put, List.foldl_cons, List.foldl_nil, List.setIfInBounds_toArray, List.set_cons_succ, List.set_cons_zero] at hK ⊢
          have HK := Lib.hid hK
          clear hK hK0
          rw [if_pos (by rfl)]
          clear hd
          go_simp
          exact HK.out _ _ (hI.next (by decide)) RK.next (rfl)
        · intro k' x W sb hkn hI hs1 hs2 hd K hK0
          have hK := hK0.out
          simp only [setAll, Act.put, List.foldl_cons, List.foldl_nil, List.setIfInBounds_toArray, List.set_cons_succ, List.set_cons_zero] at hK ⊢
          have HK := Lib.hid hK
          clear hK hK0
          rw [if_pos (by rfl)]
          clear hd
          go_simp
          exact HK.out _ _ (hI.next (by decide)) RK.next (rfl)
        · intro k' x W sb hkn hI hs1 hs2 hd K hK0
          have hK := hK0.out
          simp only [setAll, Act.put, List.foldl_cons, List.foldl_nil, List.setIfInBounds_toArray, List.set_cons_succ, List.set_cons_zero] at hK ⊢
          have HK := Lib.hid hK
          clear hK hK0
          rw [if_pos (by rfl)]
          obtain e : x 35 = .pointer (some ⟨D6, 1, none⟩) := hd 2 _ rfl (by kernel_rfl)
          rw [e] at HK ⊢
          clear e
          clear hd
          have c6 := hI.st.b1.cells
          have l6 := hI.st.b1.lt
          have c60 := c6 0
          have c61 := c6 1
          simp at c60 c61
          clear c6
          go_simp
          exact HK.out _ _ (hI.next (by decide)) RK.next (rfl)
        · intro k' x W sb hkn hI hs1 hs2 hd K hK0
          have hK := hK0.out
          simp only [setAll, Act.put, List.foldl_cons, List.foldl_nil, List.setIfInBounds_toArray, List.set_cons_succ, List.set_cons_zero] at hK ⊢
          have HK := Lib.hid hK
          clear hK hK0
          rw [if_pos (by rfl)]
          obtain e : x 36 = .slice A xs.length cap := hd 3 _ rfl (by kernel_rfl)
          rw [e] at HK ⊢
          clear e
          clear hd
          go_simp
          exact HK.out _ _ (hI.next (by decide)) RK.next (rfl)
        · intro k' x W sb hkn hI hs1 hs2 hd K hK0
          have hK := hK0.out
          simp only [setAll, Act.put, List.foldl_cons, List.foldl_nil, List.setIfInBounds_toArray, List.set_cons_succ, List.set_cons_zero] at hK ⊢
          have HK := Lib.hid hK
          clear hK hK0
          rw [if_pos (by rfl)]
          obtain e : x 37 = .int .i64 (xs.length : Int) := hd 4 _ rfl (by kernel_rfl)
          rw [e] at HK ⊢
          clear e
          clear hd
          by_cases hm1 : (xs.length : Int) < 1
          · have hmx : (if (xs.length : Int) < 1 then (1 : Int) else (xs.length : Int)) = 1 := if_pos hm1
            go_simp
            exact HK.out _ _ (hI.next (by decide)) RK.next (⟨_, rfl, by omega, by omega⟩)
          · have hmx : (if (xs.length : Int) < 1 then (1 : Int) else (xs.length : Int)) = (xs.length : Int) := if_neg hm1
            go_simp
            exact HK.out _ _ (hI.next (by decide)) RK.next (⟨_, rfl, by omega, by omega⟩)
        · intro k' x W sb hkn hI hs1 hs2 hd K hK0
          have hK := hK0.out
          simp only [setAll, Act.put, List.foldl_cons, List.foldl_nil, List.setIfInBounds_toArray, List.set_cons_succ, List.set_cons_zero] at hK ⊢
          have HK := Lib.hid hK
          clear hK hK0
          rw [if_pos (by rfl)]
          obtain e : x 34 = .pointer (some ⟨g, 0, none⟩) := hd 1 _ rfl (by kernel_rfl)
          rw [e] at HK ⊢
          clear e
          obtain ⟨M, e, m1, m2⟩ : ∃ M : Int, x 38 = .int .i64 M ∧ 1 ≤ M ∧ M ≤ 9223372036854775807 := hd 5 _ rfl (by kernel_rfl)
          rw [e] at HK ⊢
          clear e
          clear hd
          go_simp
          refine (pick_any w.heap.size g _ M W hI.st.rd (by omega) (by omega) (by omega)).mono ?_
          rintro e W1 ⟨u, rfl, hv, hr, hg, hz⟩
          exact HK.out _ _ (hI.goes hP (by decide) hg hr) (RK.of (.goes hg (.head _))) (⟨u, rfl⟩)
        · intro k' x W sb hkn hI hs1 hs2 hd K hK0
          have hK := hK0.out
          simp only [setAll, Act.put, List.foldl_cons, List.foldl_nil, List.setIfInBounds_toArray, List.set_cons_succ, List.set_cons_zero] at hK ⊢
          have HK := Lib.hid hK
          clear hK hK0
          rw [if_pos (by rfl)]
          clear hd
          go_simp
          exact HK.out _ _ (hI.next (by decide)) RK.next (rfl)
        · intro k' x W sb hkn hI hs1 hs2 hd K hK0
          have hK := hK0.out
          simp only [setAll, Act.put, List.foldl_cons, List.foldl_nil, List.setIfInBounds_toArray, List.set_cons_succ, List.set_cons_zero] at hK ⊢
          have HK := Lib.hid hK
          clear hK hK0
          rw [if_pos (by rfl)]
          obtain e : x 40 = .pointer (some ⟨g, 0, none⟩) := hd 7 _ rfl (by kernel_rfl)
          rw [e] at HK ⊢
          clear e
          clear hd
          go_simp
          refine (pick_any w.heap.size g _ 250 W hI.st.rd (by omega) (by omega) (by omega)).mono ?_
          rintro e W1 ⟨u, rfl, hv, hr, hg, hz⟩
          exact HK.out _ _ (hI.goes hP (by decide) hg hr) (RK.of (.goes hg (.head _))) (⟨u, rfl⟩)
        · intro k' x W sb hkn hI hs1 hs2 hd K hK0
          have hK := hK0.out
          simp only [setAll, Act.put, List.foldl_cons, List.foldl_nil, List.setIfInBounds_toArray, List.set_cons_succ, List.set_cons_zero] at hK ⊢
          have HK := Lib.hid hK
          clear hK hK0
          rw [if_pos (by rfl)]
          obtain e : x 33 = .agg #[.int .i64 v6, .slice A xs.length cap] := hd 0 _ rfl (by kernel_rfl)
          rw [e] at HK ⊢
          clear e
          clear hd
          obtain rfl : sb = false := hs2 rfl
          have cd := hI.st.b0.cells
          have fd := hI.st.b0.free
          have cd0 := cd 0
          have cd1 := cd 1
          simp at cd0 cd1
          clear cd
          go_simp
          exact HK.out undef _ (hI.put hP hD hL (by simp)) ⟨fun h => by simp, Keep.trans (Keep.set _ _ (.tail _ (.head _))) (Keep.set _ _ (.tail _ (.head _)))⟩ (rfl)
        · intro k' x W sb hkn hI hs1 hs2 hd K hK0
          have hK := hK0.out
          simp only [setAll, Act.put, List.foldl_cons, List.foldl_nil, List.setIfInBounds_toArray, List.set_cons_succ, List.set_cons_zero] at hK ⊢
          have HK := Lib.hid hK
          clear hK hK0
          rw [if_pos (by rfl)]
          obtain ⟨z, e⟩ : ∃ z, x 39 = .int .i64 z := hd 6 _ rfl (by kernel_rfl)
          rw [e] at HK ⊢
          clear e
          clear hd
          go_simp
          exact HK.out _ _ (hI.next (by decide)) RK.next (⟨_, rfl⟩)
      case hend =>
        intro x W sb hI hV
        obtain ⟨z1, e1⟩ : ∃ z, x 3 = .int .i64 z := hV 10 _ (by omega) rfl
        obtain ⟨z2, e2⟩ : ∃ z, x 41 = .int .i64 z := hV 8 _ (by omega) rfl
        obtain rfl : sb = true := hV 9 _ (by omega) rfl
        clear hV
        simp only [setAll, Act.put, List.foldl_cons, List.foldl_nil, List.setIfInBounds_toArray, List.set_cons_succ, List.set_cons_zero, List.drop_succ_cons, List.drop_zero]
        rw [e1, e2]
        clear e1 e2
        have cr := hI.st.b0.cells
        simp at cr
        have cr0 := cr 0
        have cr1 := cr 1
        simp at cr0 cr1
        clear cr
        go_wp2_with fail
        refine bodyPost_ret (by simp [results, Try.results28, go_sem, cr0, cr1]; try rfl) rfl ?_
        exact ⟨v6, A, cap, xs, z1, z2, rfl, hI.pr.row, k1, k2, hI.st.below⟩
  · have hv4' : ¬ (0 < v4) := hv4
    go_wp2_with fail
    refine (pick1 S4 16 (by omega) (by omega) (by omega)).mono ?_
    rintro e w7 ⟨v7, rfl, p7, q7, S7, -, -, hg7⟩
    have R7 := R4.keep (Keep.goes (L := [g]) hg7 (.head _)) (by simp)
    have T7 : St w w7 g 200 [(w.heap.size, 26, #[.int .i64 0, .slice none 0 0]), (D6, 26, #[.int .i64 ver, .slice A xs.length cap])] := (S7.le (by omega)).perm (by simp)
    have HS := Lib.hid (And.intro T7 R7)
    have hP : ∀ W W', Keep [g, w.heap.size] W W' → RowX W [D6, g, w.heap.size] A xs → RowX W' [D6, g, w.heap.size] A xs := fun W W' k h => h.keep k (by simp)
    have hD : w.heap.size ≤ w.heap.size := Nat.le_refl _
    have hL : ∀ x ∈ ([(D6, 26, #[.int .i64 ver, .slice A xs.length cap])] : List (Nat × TypeId × Array Value)), x.1 ≠ w.heap.size := by
      intro x hx
      simp at hx
      subst hx
      exact HD6.out
    clear S4 R4 S7 R7 T7 hg7
    by_cases hv7 : v7 = 0
    · subst hv7
      go_upto_region 6 with fail
      refine wp_region_facts3 13 [22, 23, 24, 25, 26, 27, 28, 29, 30, 31, 32, 3] (dpL [[22], [23], [24], [25], [26], [27], [28], [29], [30], [31], [32], [], [3]]) 11 (VV (.agg #[.int .i64 ver, .slice A xs.length cap]) undef undef undef g w.heap.size ⟨0, 0, none⟩ [0, 1, 2, 3, 4, 5, 1, 2, 3, 4, 5, 9, 5]) (IW w g 200 w.heap.size 26 (.int .i64 0) (.slice none 0 0) (.int .i64 ver) (.slice A xs.length cap) [(D6, 26, #[.int .i64 ver, .slice A xs.length cap])] (fun W => RowX W [D6, g, w.heap.size] A xs)) (RK g w.heap.size) (by kernel_rfl) (by kernel_rfl) (by rfl) ?hI VV_keep (by kernel_rfl) ?hob ?hend
      case hI => exact IW.start HS.out.1 hP HS.out.2
      case hob =>
        simp only [List.take_succ_cons, List.take_zero, Obs3, and_true]
        refine ⟨?_, ?_, ?_, ?_, ?_, ?_, ?_, ?_, ?_, ?_, ?_, ?_, ?_⟩
        · intro k' x W sb hkn hI hs1 hs2 hd K hK0
          have hK := hK0.out
          simp only [setAll, Act.put, List.foldl_cons, List.foldl_nil, List.setIfInBounds_toArray, List.set_cons_succ, List.set_cons_zero] at hK ⊢
          have HK := Lib.hid hK
          clear hK hK0
          rw [if_pos (by rfl)]
          clear hd
          have c6 := hI.st.b1.cells
          have l6 := hI.st.b1.lt
          have c60 := c6 0
          have c61 := c6 1
          simp at c60 c61
          clear c6
          go_simp
          exact HK.out _ _ (hI.next (by decide)) RK.next (rfl)
        · intro k' x W sb hkn hI hs1 hs2 hd K hK0
          have hK := hK0.out
          simp only [setAll, Act.put, List.foldl_cons, List.foldl_nil, List.setIfInBounds_toArray, List.set_cons_succ, List.set_cons_zero] at hK ⊢
          have HK := Lib.hid hK
          clear hK hK0
          rw [if_pos (by rfl)]
          clear hd
          go_simp
          exact HK.out _ _ (hI.alloc hP (by decide) _) (RK.of (.alloc _)) (⟨_, _, _, rfl, by have := hI.st.rd.lt; omega, by have := hI.st.b0.lt; omega, Blk.new _ _ _ rfl⟩)
        · intro k' x W sb hkn hI hs1 hs2 hd K hK0
          have hK := hK0.out
          simp only [setAll, Act.put, List.foldl_cons, List.foldl_nil, List.setIfInBounds_toArray, List.set_cons_succ, List.set_cons_zero] at hK ⊢
          have HK := Lib.hid hK
          clear hK hK0
          rw [if_pos (by rfl)]
          clear hd
          go_simp
          exact HK.out _ _ (hI.next (by decide)) RK.next (rfl)
        · intro k' x W sb hkn hI hs1 hs2 hd K hK0
          have hK := hK0.out
          simp only [setAll, Act.put, List.foldl_cons, List.foldl_nil, List.setIfInBounds_toArray, List.set_cons_succ, List.set_cons_zero] at hK ⊢
          have HK := Lib.hid hK
          clear hK hK0
          rw [if_pos (by rfl)]
          obtain e : x 24 = .pointer (some ⟨g, 0, none⟩) := hd 2 _ rfl (by kernel_rfl)
          rw [e] at HK ⊢
          clear e
          clear hd
          go_simp
          refine (pick_any w.heap.size g _ 2 W hI.st.rd (by omega) (by omega) (by omega)).mono ?_
          rintro e W1 ⟨u, rfl, hv, hr, hg, hz⟩
          exact HK.out _ _ (hI.goes hP (by decide) hg hr) (RK.of (.goes hg (.head _))) (⟨u, rfl, hv.1, by have := hv.2; omega⟩)
        · intro k' x W sb hkn hI hs1 hs2 hd K hK0
          have hK := hK0.out
          simp only [setAll, Act.put, List.foldl_cons, List.foldl_nil, List.setIfInBounds_toArray, List.set_cons_succ, List.set_cons_zero] at hK ⊢
          have HK := Lib.hid hK
          clear hK hK0
          rw [if_pos (by rfl)]
          obtain ⟨b, p, q, e, h1, h2, hB⟩ : ∃ b p q, x 23 = .slice (some ⟨b, 0, none⟩) 2 2 ∧ b ≠ g ∧ b ≠ w.heap.size ∧ Blk W b 3 #[.int .i64 p, .int .i64 q] := hd 1 _ rfl (by kernel_rfl)
          rw [e] at HK ⊢
          clear e
          obtain ⟨u, e, u0, u1⟩ : ∃ u : Int, x 25 = .int .i64 u ∧ 0 ≤ u ∧ u ≤ 1 := hd 3 _ rfl (by kernel_rfl)
          rw [e] at HK ⊢
          clear e
          clear hd
          obtain rfl | rfl : u = 0 ∨ u = 1 := by omega
          · go_simp
            exact HK.out _ _ (hI.next (by decide)) RK.next (⟨_, 0, _, _, rfl, .inl rfl, h1, h2, hB⟩)
          · go_simp
            exact HK.out _ _ (hI.next (by decide)) RK.next (⟨_, 1, _, _, rfl, .inr rfl, h1, h2, hB⟩)
        · intro k' x W sb hkn hI hs1 hs2 hd K hK0
          have hK := hK0.out
          simp only [setAll, Act.put, List.foldl_cons, List.foldl_nil, List.setIfInBounds_toArray, List.set_cons_succ, List.set_cons_zero] at hK ⊢
          have HK := Lib.hid hK
          clear hK hK0
          rw [if_pos (by rfl)]
          obtain ⟨b, j, p, q, e, hj, h1, h2, hB⟩ : ∃ b j p q, x 26 = .pointer (some ⟨b, j, none⟩) ∧ (j = 0 ∨ j = 1) ∧ b ≠ g ∧ b ≠ w.heap.size ∧ Blk W b 3 #[.int .i64 p, .int .i64 q] := hd 4 _ rfl (by kernel_rfl)
          rw [e] at HK ⊢
          clear e
          clear hd
          have cb0 := hB.cells 0
          have cb1 := hB.cells 1
          simp at cb0 cb1
          rcases hj with rfl | rfl
          · go_simp
            exact HK.out _ _ (hI.next (by decide)) RK.next (⟨_, rfl⟩)
          · go_simp
            exact HK.out _ _ (hI.next (by decide)) RK.next (⟨_, rfl⟩)
        · intro k' x W sb hkn hI hs1 hs2 hd K hK0
          have hK := hK0.out
          simp only [setAll, Act.put, List.foldl_cons, List.foldl_nil, List.setIfInBounds_toArray, List.set_cons_succ, List.set_cons_zero] at hK ⊢
          have HK := Lib.hid hK
          clear hK hK0
          rw [if_pos (by rfl)]
          clear hd
          go_simp
          exact HK.out _ _ (hI.alloc hP (by decide) _) (RK.of (.alloc _)) (⟨_, _, _, rfl, by have := hI.st.rd.lt; omega, by have := hI.st.b0.lt; omega, Blk.new _ _ _ rfl⟩)
        · intro k' x W sb hkn hI hs1 hs2 hd K hK0
          have hK := hK0.out
          simp only [setAll, Act.put, List.foldl_cons, List.foldl_nil, List.setIfInBounds_toArray, List.set_cons_succ, List.set_cons_zero] at hK ⊢
          have HK := Lib.hid hK
          clear hK hK0
          rw [if_pos (by rfl)]
          clear hd
          go_simp
          exact HK.out _ _ (hI.next (by decide)) RK.next (rfl)
        · intro k' x W sb hkn hI hs1 hs2 hd K hK0
          have hK := hK0.out
          simp only [setAll, Act.put, List.foldl_cons, List.foldl_nil, List.setIfInBounds_toArray, List.set_cons_succ, List.set_cons_zero] at hK ⊢
          have HK := Lib.hid hK
          clear hK hK0
          rw [if_pos (by rfl)]
          obtain e : x 29 = .pointer (some ⟨g, 0, none⟩) := hd 7 _ rfl (by kernel_rfl)
          rw [e] at HK ⊢
          clear e
          clear hd
          go_simp
          refine (pick_any w.heap.size g _ 2 W hI.st.rd (by omega) (by omega) (by omega)).mono ?_
          rintro e W1 ⟨u, rfl, hv, hr, hg, hz⟩
          exact HK.out _ _ (hI.goes hP (by decide) hg hr) (RK.of (.goes hg (.head _))) (⟨u, rfl, hv.1, by have := hv.2; omega⟩)
        · intro k' x W sb hkn hI hs1 hs2 hd K hK0
          have hK := hK0.out
          simp only [setAll, Act.put, List.foldl_cons, List.foldl_nil, List.setIfInBounds_toArray, List.set_cons_succ, List.set_cons_zero] at hK ⊢
          have HK := Lib.hid hK
          clear hK hK0
          rw [if_pos (by rfl)]
          obtain ⟨b, p, q, e, h1, h2, hB⟩ : ∃ b p q, x 28 = .slice (some ⟨b, 0, none⟩) 2 2 ∧ b ≠ g ∧ b ≠ w.heap.size ∧ Blk W b 3 #[.int .i64 p, .int .i64 q] := hd 6 _ rfl (by kernel_rfl)
          rw [e] at HK ⊢
          clear e
          obtain ⟨u, e, u0, u1⟩ : ∃ u : Int, x 30 = .int .i64 u ∧ 0 ≤ u ∧ u ≤ 1 := hd 8 _ rfl (by kernel_rfl)
          rw [e] at HK ⊢
          clear e
          clear hd
          obtain rfl | rfl : u = 0 ∨ u = 1 := by omega
          · go_simp
            exact HK.out _ _ (hI.next (by decide)) RK.next (⟨_, 0, _, _, rfl, .inl rfl, h1, h2, hB⟩)
          · go_simp
            exact HK.out _ _ (hI.next (by decide)) RK.next (⟨_, 1, _, _, rfl, .inr rfl, h1, h2, hB⟩)
        · intro k' x W sb hkn hI hs1 hs2 hd K hK0
          have hK := hK0.out
          simp only [setAll, Act.put, List.foldl_cons, List.foldl_nil, List.setIfInBounds_toArray, List.set_cons_succ, List.set_cons_zero] at hK ⊢
          have HK := Lib.hid hK
          clear hK hK0
          rw [if_pos (by rfl)]
          obtain ⟨b, j, p, q, e, hj, h1, h2, hB⟩ : ∃ b j p q, x 31 = .pointer (some ⟨b, j, none⟩) ∧ (j = 0 ∨ j = 1) ∧ b ≠ g ∧ b ≠ w.heap.size ∧ Blk W b 3 #[.int .i64 p, .int .i64 q] := hd 9 _ rfl (by kernel_rfl)
          rw [e] at HK ⊢
          clear e
          clear hd
          have cb0 := hB.cells 0
          have cb1 := hB.cells 1
          simp at cb0 cb1
          rcases hj with rfl | rfl
          · go_simp
            exact HK.out _ _ (hI.next (by decide)) RK.next (⟨_, rfl⟩)
          · go_simp
            exact HK.out _ _ (hI.next (by decide)) RK.next (⟨_, rfl⟩)
        · intro k' x W sb hkn hI hs1 hs2 hd K hK0
          have hK := hK0.out
          simp only [setAll, Act.put, List.foldl_cons, List.foldl_nil, List.setIfInBounds_toArray, List.set_cons_succ, List.set_cons_zero] at hK ⊢
          have HK := Lib.hid hK
          clear hK hK0
          rw [if_pos (by rfl)]
          obtain e : x 22 = .agg #[.int .i64 ver, .slice A xs.length cap] := hd 0 _ rfl (by kernel_rfl)
          rw [e] at HK ⊢
          clear e
          clear hd
          obtain rfl : sb = false := hs2 rfl
          have cd := hI.st.b0.cells
          have fd := hI.st.b0.free
          have cd0 := cd 0
          have cd1 := cd 1
          simp at cd0 cd1
          clear cd
          go_simp
          exact HK.out undef _ (hI.put hP hD hL (by simp)) ⟨fun h => by simp, Keep.trans (Keep.set _ _ (.tail _ (.head _))) (Keep.set _ _ (.tail _ (.head _)))⟩ (rfl)
        · intro k' x W sb hkn hI hs1 hs2 hd K hK0
          have hK := hK0.out
          simp only [setAll, Act.put, List.foldl_cons, List.foldl_nil, List.setIfInBounds_toArray, List.set_cons_succ, List.set_cons_zero] at hK ⊢
          have HK := Lib.hid hK
          clear hK hK0
          rw [if_pos (by rfl)]
          obtain ⟨z, e⟩ : ∃ z, x 27 = .int .i64 z := hd 5 _ rfl (by kernel_rfl)
          rw [e] at HK ⊢
          clear e
          clear hd
          go_simp
          exact HK.out _ _ (hI.next (by decide)) RK.next (⟨_, rfl⟩)
      case hend =>
        intro x W sb hI hV
        obtain ⟨z1, e1⟩ : ∃ z, x 3 = .int .i64 z := hV 12 _ (by omega) rfl
        obtain ⟨z2, e2⟩ : ∃ z, x 32 = .int .i64 z := hV 10 _ (by omega) rfl
        obtain rfl : sb = true := hV 11 _ (by omega) rfl
        clear hV
        simp only [setAll, Act.put, List.foldl_cons, List.foldl_nil, List.setIfInBounds_toArray, List.set_cons_succ, List.set_cons_zero, List.drop_succ_cons, List.drop_zero]
        rw [e1, e2]
        clear e1 e2
        have cr := hI.st.b0.cells
        simp at cr
        have cr0 := cr 0
        have cr1 := cr 1
        simp at cr0 cr1
        clear cr
        go_wp2_with fail
        refine bodyPost_ret (by simp [results, Try.results28, go_sem, cr0, cr1]; try rfl) rfl ?_
        exact ⟨ver, A, cap, xs, z1, z2, rfl, hI.pr.row, k1, k2, hI.st.below⟩
    · have hne : (v7 == 0) = false := by simpa using hv7
      go_upto_region 7 with fail
      refine wp_region_facts3 11 [33, 34, 35, 36, 37, 38, 39, 40, 41, 3] (dpL [[33], [34], [35], [36], [37], [38], [39], [40], [41], [], [3]]) 9 (VV (.agg #[.int .i64 ver, .slice A xs.length cap]) undef (.slice A xs.length cap) (.int .i64 (xs.length : Int)) g w.heap.size ⟨D6, 1, none⟩ [0, 2, 6, 7, 8, 10, 5, 2, 5, 9, 5]) (IW w g 200 w.heap.size 26 (.int .i64 0) (.slice none 0 0) (.int .i64 ver) (.slice A xs.length cap) [(D6, 26, #[.int .i64 ver, .slice A xs.length cap])] (fun W => RowX W [D6, g, w.heap.size] A xs)) (RK g w.heap.size) (by kernel_rfl) (by kernel_rfl) (by rfl) ?hI VV_keep (by kernel_rfl) ?hob ?hend
      case hI => exact IW.start HS.out.1 hP HS.out.2
      case hob =>
        simp only [List.take_succ_cons, List.take_zero, Obs3, and_true]
        refine ⟨?_, ?_, ?_, ?_, ?_, ?_, ?_, ?_, ?_, ?_, ?_⟩
        · intro k' x W sb hkn hI hs1 hs2 hd K hK0
          have hK := hK0.out
          simp only [setAll, Act.put, List.foldl_cons, List.foldl_nil, List.setIfInBounds_toArray, List.set_cons_succ, List.set_cons_zero] at hK ⊢
          have HK := Lib.hid hK
          clear hK hK0
          rw [if_pos (by rfl)]
          clear hd
          have c6 := hI.st.b1.cells
          have l6 := hI.st.b1.lt
          have c60 := c6 0
          have c61 := c6 1
          simp at c60 c61
          clear c6
          go_simp
          exact HK.out _ _ (hI.next (by decide)) RK.next (rfl)
        · intro k' x W sb hkn hI hs1 hs2 hd K hK0
          have hK := hK0.out
          simp only [setAll, Act.put, List.foldl_cons, List.foldl_nil, List.setIfInBounds_toArray, List.set_cons_succ, List.set_cons_zero] at hK ⊢
          have HK := Lib.hid hK
          clear hK hK0
          rw [if_pos (by rfl)]
          clear hd
          go_simp
          exact HK.out _ _ (hI.next (by decide)) RK.next (rfl)
        · intro k' x W sb hkn hI hs1 hs2 hd K hK0
          have hK := hK0.out
          simp only [setAll, Act.put, List.foldl_cons, List.foldl_nil, List.setIfInBounds_toArray, List.set_cons_succ, List.set_cons_zero] at hK ⊢
          have HK := Lib.hid hK
          clear hK hK0
          rw [if_pos (by rfl)]
          clear hd
          go_simp
          exact HK.out _ _ (hI.next (by decide)) RK.next (rfl)
        · intro k' x W sb hkn hI hs1 hs2 hd K hK0
          have hK := hK0.out
          simp only [setAll, Act.put, List.foldl_cons, List.foldl_nil, List.setIfInBounds_toArray, List.set_cons_succ, List.set_cons_zero] at hK ⊢
          have HK := Lib.hid hK
          clear hK hK0
          rw [if_pos (by rfl)]
          obtain e : x 35 = .pointer (some ⟨D6, 1, none⟩) := hd 2 _ rfl (by kernel_rfl)
          rw [e] at HK ⊢
          clear e
          clear hd
          have c6 := hI.st.b1.cells
          have l6 := hI.st.b1.lt
          have c60 := c6 0
          have c61 := c6 1
          simp at c60 c61
          clear c6
          go_simp
          exact HK.out _ _ (hI.next (by decide)) RK.next (rfl)
        · intro k' x W sb hkn hI hs1 hs2 hd K hK0
          have hK := hK0.out
          simp only [setAll, Act.put, List.foldl_cons, List.foldl_nil, List.setIfInBounds_toArray, List.set_cons_succ, List.set_cons_zero] at hK ⊢
          have HK := Lib.hid hK
          clear hK hK0
          rw [if_pos (by rfl)]
          obtain e : x 36 = .slice A xs.length cap := hd 3 _ rfl (by kernel_rfl)
          rw [e] at HK ⊢
          clear e
          clear hd
          go_simp
          exact HK.out _ _ (hI.next (by decide)) RK.next (rfl)
        · intro k' x W sb hkn hI hs1 hs2 hd K hK0
          have hK := hK0.out
          simp only [setAll, Act.put, List.foldl_cons, List.foldl_nil, List.setIfInBounds_toArray, List.set_cons_succ, List.set_cons_zero] at hK ⊢
          have HK := Lib.hid hK
          clear hK hK0
          rw [if_pos (by rfl)]
          obtain e : x 37 = .int .i64 (xs.length : Int) := hd 4 _ rfl (by kernel_rfl)
          rw [e] at HK ⊢
          clear e
          clear hd
          by_cases hm1 : (xs.length : Int) < 1
          · have hmx : (if (xs.length : Int) < 1 then (1 : Int) else (xs.length : Int)) = 1 := if_pos hm1
            go_simp
            exact HK.out _ _ (hI.next (by decide)) RK.next (⟨_, rfl, by omega, by omega⟩)
          · have hmx : (if (xs.length : Int) < 1 then (1 : Int) else (xs.length : Int)) = (xs.length : Int) := if_neg hm1
            go_simp
            exact HK.out _ _ (hI.next (by decide)) RK.next (⟨_, rfl, by omega, by omega⟩)
        · intro k' x W sb hkn hI hs1 hs2 hd K hK0
          have hK := hK0.out
          simp only [setAll, Act.put, List.foldl_cons, List.foldl_nil, List.setIfInBounds_toArray, List.set_cons_succ, List.set_cons_zero] at hK ⊢
          have HK := Lib.hid hK
          clear hK hK0
          rw [if_pos (by rfl)]
          obtain e : x 34 = .pointer (some ⟨g, 0, none⟩) := hd 1 _ rfl (by kernel_rfl)
          rw [e] at HK ⊢
          clear e
          obtain ⟨M, e, m1, m2⟩ : ∃ M : Int, x 38 = .int .i64 M ∧ 1 ≤ M ∧ M ≤ 9223372036854775807 := hd 5 _ rfl (by kernel_rfl)
          rw [e] at HK ⊢
          clear e
          clear hd
          go_simp
          refine (pick_any w.heap.size g _ M W hI.st.rd (by omega) (by omega) (by omega)).mono ?_
          rintro e W1 ⟨u, rfl, hv, hr, hg, hz⟩
          exact HK.out _ _ (hI.goes hP (by decide) hg hr) (RK.of (.goes hg (.head _))) (⟨u, rfl⟩)
        · intro k' x W sb hkn hI hs1 hs2 hd K hK0
          have hK := hK0.out
          simp only [setAll, Act.put, List.foldl_cons, List.foldl_nil, List.setIfInBounds_toArray, List.set_cons_succ, List.set_cons_zero] at hK ⊢
          have HK := Lib.hid hK
          clear hK hK0
          rw [if_pos (by rfl)]
          clear hd
          go_simp
          exact HK.out _ _ (hI.next (by decide)) RK.next (rfl)
        · intro k' x W sb hkn hI hs1 hs2 hd K hK0
          have hK := hK0.out
          simp only [setAll, Act.put, List.foldl_cons, List.foldl_nil, List.setIfInBounds_toArray, List.set_cons_succ, List.set_cons_zero] at hK ⊢
          have HK := Lib.hid hK
          clear hK hK0
          rw [if_pos (by rfl)]
          obtain e : x 40 = .pointer (some ⟨g, 0, none⟩) := hd 7 _ rfl (by kernel_rfl)
          rw [e] at HK ⊢
          clear e
          clear hd
          go_simp
          refine (pick_any w.heap.size g _ 250 W hI.st.rd (by omega) (by omega) (by omega)).mono ?_
          rintro e W1 ⟨u, rfl, hv, hr, hg, hz⟩
          exact HK.out _ _ (hI.goes hP (by decide) hg hr) (RK.of (.goes hg (.head _))) (⟨u, rfl⟩)
        · intro k' x W sb hkn hI hs1 hs2 hd K hK0
          have hK := hK0.out
          simp only [setAll, Act.put, List.foldl_cons, List.foldl_nil, List.setIfInBounds_toArray, List.set_cons_succ, List.set_cons_zero] at hK ⊢
          have HK := Lib.hid hK
          clear hK hK0
          rw [if_pos (by rfl)]
          obtain e : x 33 = .agg #[.int .i64 ver, .slice A xs.length cap] := hd 0 _ rfl (by kernel_rfl)
          rw [e] at HK ⊢
          clear e
          clear hd
          obtain rfl : sb = false := hs2 rfl
          have cd := hI.st.b0.cells
          have fd := hI.st.b0.free
          have cd0 := cd 0
          have cd1 := cd 1
          simp at cd0 cd1
          clear cd
          go_simp
          exact HK.out undef _ (hI.put hP hD hL (by simp)) ⟨fun h => by simp, Keep.trans (Keep.set _ _ (.tail _ (.head _))) (Keep.set _ _ (.tail _ (.head _)))⟩ (rfl)
        · intro k' x W sb hkn hI hs1 hs2 hd K hK0
          have hK := hK0.out
          simp only [setAll, Act.put, List.foldl_cons, List.foldl_nil, List.setIfInBounds_toArray, List.set_cons_succ, List.set_cons_zero] at hK ⊢
          have HK := Lib.hid hK
          clear hK hK0
          rw [if_pos (by rfl)]
          obtain ⟨z, e⟩ : ∃ z, x 39 = .int .i64 z := hd 6 _ rfl (by kernel_rfl)
          rw [e] at HK ⊢
          clear e
          clear hd
          go_simp
          exact HK.out _ _ (hI.next (by decide)) RK.next (⟨_, rfl⟩)
      case hend =>
        intro x W sb hI hV
        obtain ⟨z1, e1⟩ : ∃ z, x 3 = .int .i64 z := hV 10 _ (by omega) rfl
        obtain ⟨z2, e2⟩ : ∃ z, x 41 = .int .i64 z := hV 8 _ (by omega) rfl
        obtain rfl : sb = true := hV 9 _ (by omega) rfl
        clear hV
        simp only [setAll, Act.put, List.foldl_cons, List.foldl_nil, List.setIfInBounds_toArray, List.set_cons_succ, List.set_cons_zero, List.drop_succ_cons, List.drop_zero]
        rw [e1, e2]
        clear e1 e2
        have cr := hI.st.b0.cells
        simp at cr
        have cr0 := cr 0
        have cr1 := cr 1
        simp at cr0 cr1
        clear cr
        go_wp2_with fail
        refine bodyPost_ret (by simp [results, Try.results28, go_sem, cr0, cr1]; try rfl) rfl ?_
        exact ⟨ver, A, cap, xs, z1, z2, rfl, hI.pr.row, k1, k2, hI.st.below⟩

/-- Two slots and a list of words are returned. -/
def SomeRead (w : World) (e : Ending) (w' : World) : Prop :=
  ∃ va A capa, ∃ xa : List Int, ∃ C capw, ∃ ws : List Int, ∃ vb B capb, ∃ xb : List Int, e = .returned (.tuple #[.agg #[.int .i64 va, .slice A xa.length capa], .slice C ws.length capw, .agg #[.int .i64 vb, .slice B xb.length capb]]) ∧
    IntRow w' w'.heap.size A xa ∧ IntRow w' w'.heap.size C ws ∧ IntRow w' w'.heap.size B xb ∧ xa.length ≤ capa ∧ capa ≤ 9223372036854775807 ∧ ws.length ≤ capw ∧ capw ≤ 9223372036854775807 ∧ xb.length ≤ capb ∧ capb ≤ 9223372036854775807 ∧ Below w.heap.size w w'
set_option maxRecDepth 100000 in
set_option maxHeartbeats 8000000 in
theorem drawRead_any (A0 : Option Addr) (len cap0 : Nat) (w : World) (hl : len ≤ cap0) (hm : cap0 ≤ maxLen) (hc : Code w w.heap.size A0 len) :
    Calls Try.prog 29 #[.slice A0 len cap0] w (SomeRead w) := by
  have HC := Lib.hid hc
  clear hc
  go_enter Try.func29, Try.ntmps29
  go_wp2_with fail
  refine (open_st (w := w) (L := [(w.heap.size + 1, 26, #[.int .i64 0, .slice none 0 0]), (w.heap.size, 26, #[.int .i64 0, .slice none 0 0])]) (Fr.alloc2 (Below.refl _ _) _ _) (.cons (Blk.new _ _ _ (by simp)) (.cons ((Blk.new _ _ _ rfl).alloc _) (.nil _))) hl hm HC.out).mono ?_
  rintro e w1 ⟨g, rfl, hgx, hgw, S1⟩
  go_wp2_with fail
  refine (l91Slot_any2 w w1 g 0 _ S1 (by omega)).mono ?_
  rintro e w2 ⟨ver, A, cap, xs, rfl, S2, hr, k1, k2, x6, hoff⟩
  have R2 : RowX w2 [w2.heap.size, g, w.heap.size + 1, w.heap.size] A xs := fun h0 => by
    obtain ⟨b, o, e, hb, hc⟩ := hr h0
    have h1 := hoff b o e
    have h2 := h1.2 _ (.head _)
    have h4 := h1.2 _ (.tail _ (.head _))
    have h3 := h1.1
    exact ⟨b, o, e, hb, by simp; exact ⟨by omega, h3, fun e => h2 e.symm, fun e => h4 e.symm⟩, hc⟩
  have S3 := S2.push 26 #[.int .i64 ver, .slice A xs.length cap] rfl
  have R3 := R2.keep (Keep.alloc (L := []) (.cells #[.int .i64 ver, .slice A xs.length cap] 26)) (by simp)
  have HD6 := Lib.hid (show w.heap.size + 1 < w2.heap.size from S2.b0.lt)
  clear S1 S2 R2 hr hoff hgx hgw HC hl hm
  obtain ⟨w3, hw3⟩ : ∃ w3, w3 = w2.alloc (.cells #[.int .i64 ver, .slice A xs.length cap] 26) := ⟨_, rfl⟩
  obtain ⟨D6, hD6⟩ : ∃ D6, D6 = w2.heap.size := ⟨_, rfl⟩
  rw [← hw3] at S3 R3
  rw [← hD6] at S3 R3 HD6
  go_upto_region 3 with fail
  rw [← hw3, ← hD6]
  clear hw3 hD6
  clear w2
  have BX := Lib.hid S3.b0
  have PP := Lib.hid R3.row
  have HS3 := Lib.hid S3
  have HR3 := Lib.hid R3
  have H6 := Lib.hid x6
  clear S3 R3
  refine wp_region_facts 8 [13, 14, 15, 16, 17, 18, 19, 7] (VCp D6 ver A xs cap w3.heap.size) (fun _ W => Below w3.heap.size w3 W) (fun w w' => Below w.heap.size w w') (by kernel_rfl) (by kernel_rfl) (by rfl) ?hI VCp_keep ?hob ?hend
  case hI => exact (Below.refl _ _).drew
  case hob =>
    simp only [List.take_succ_cons, List.take_zero, Obs, and_true]
    refine ⟨?_, ?_, ?_, ?_, ?_, ?_, ?_, ?_⟩
    · intro k' x W hkn hI hd K hK0
      have hK := hK0.out
      simp only [setAll, Act.put, List.foldl_cons, List.foldl_nil, List.setIfInBounds_toArray, List.set_cons_succ, List.set_cons_zero] at hK ⊢
      have HK := Lib.hid hK
      clear hK hK0
      rw [if_pos (by rfl)]
      clear hd
      go_simp
      exact HK.out _ _ hI (Below.refl _ _) ⟨rfl, fun h => by cases h⟩
    · intro k' x W hkn hI hd K hK0
      have hK := hK0.out
      simp only [setAll, Act.put, List.foldl_cons, List.foldl_nil, List.setIfInBounds_toArray, List.set_cons_succ, List.set_cons_zero] at hK ⊢
      have HK := Lib.hid hK
      clear hK hK0
      rw [if_pos (by rfl)]
      obtain e : x 13 = .pointer (some ⟨D6, 0, none⟩) := hd 0 _ rfl (by kernel_rfl)
      rw [e] at HK ⊢
      clear e
      clear hd
      have cx0 := (BX.out.below hI BX.out.lt).cells 0
      have cx1 := (BX.out.below hI BX.out.lt).cells 1
      simp at cx0 cx1
      go_simp
      exact HK.out _ _ hI (Below.refl _ _) ⟨rfl, fun h => by cases h⟩
    · intro k' x W hkn hI hd K hK0
      have hK := hK0.out
      simp only [setAll, Act.put, List.foldl_cons, List.foldl_nil, List.setIfInBounds_toArray, List.set_cons_succ, List.set_cons_zero] at hK ⊢
      have HK := Lib.hid hK
      clear hK hK0
      rw [if_pos (by rfl)]
      clear hd
      go_simp
      exact HK.out _ _ (Fr.alloc hI _) (Fr.alloc (Below.refl _ _) _) ⟨⟨_, rfl, by have := hI.size; omega⟩, fun h => by cases h⟩
    · intro k' x W hkn hI hd K hK0
      have hK := hK0.out
      simp only [setAll, Act.put, List.foldl_cons, List.foldl_nil, List.setIfInBounds_toArray, List.set_cons_succ, List.set_cons_zero] at hK ⊢
      have HK := Lib.hid hK
      clear hK hK0
      rw [if_pos (by rfl)]
      clear hd
      go_simp
      exact HK.out _ _ hI (Below.refl _ _) ⟨rfl, fun h => by cases h⟩
    · intro k' x W hkn hI hd K hK0
      have hK := hK0.out
      simp only [setAll, Act.put, List.foldl_cons, List.foldl_nil, List.setIfInBounds_toArray, List.set_cons_succ, List.set_cons_zero] at hK ⊢
      have HK := Lib.hid hK
      clear hK hK0
      rw [if_pos (by rfl)]
      obtain e : x 16 = .pointer (some ⟨D6, 1, none⟩) := hd 3 _ rfl (by kernel_rfl)
      rw [e] at HK ⊢
      clear e
      clear hd
      have cx0 := (BX.out.below hI BX.out.lt).cells 0
      have cx1 := (BX.out.below hI BX.out.lt).cells 1
      simp at cx0 cx1
      go_simp
      exact HK.out _ _ hI (Below.refl _ _) ⟨rfl, fun h => by cases h⟩
    · intro k' x W hkn hI hd K hK0
      have hK := hK0.out
      simp only [setAll, Act.put, List.foldl_cons, List.foldl_nil, List.setIfInBounds_toArray, List.set_cons_succ, List.set_cons_zero] at hK ⊢
      have HK := Lib.hid hK
      clear hK hK0
      rw [if_pos (by rfl)]
      obtain ⟨b, e, hbz⟩ : ∃ b, x 15 = .slice (some ⟨b, 0, none⟩) 0 0 ∧ w3.heap.size ≤ b := hd 2 _ rfl (by kernel_rfl)
      rw [e] at HK ⊢
      clear e
      obtain e : x 17 = .slice A xs.length cap := hd 4 _ rfl (by kernel_rfl)
      rw [e] at HK ⊢
      clear e
      clear hd
      refine wp_append_any _ _ rfl b rfl A W.heap.size cap xs rfl (PP.out.mem hI) (by have := H6.out; omega) fun A' c' w' h1 h5 h2 h3 h4 => HK.out _ _ (Fr.step hI h4) h4 ⟨⟨A', c', rfl, h1, fun g o e => (h5 g o e).elim (fun h => by omega) (fun h => by have := hI.size; omega), h2, h3⟩, fun h => by cases h⟩
    · intro k' x W hkn hI hd K hK0
      have hK := hK0.out
      simp only [setAll, Act.put, List.foldl_cons, List.foldl_nil, List.setIfInBounds_toArray, List.set_cons_succ, List.set_cons_zero] at hK ⊢
      have HK := Lib.hid hK
      clear hK hK0
      rw [if_pos (by rfl)]
      obtain e : x 14 = .int .i64 ver := hd 1 _ rfl (by kernel_rfl)
      rw [e] at HK ⊢
      clear e
      obtain ⟨A', c', e, r6, h6⟩ : ∃ A' cap', x 18 = .slice A' xs.length cap' ∧ RowE W A' xs ∧ (∀ g o, A' = some ⟨g, o, none⟩ → w3.heap.size ≤ g) ∧ xs.length ≤ cap' ∧ cap' ≤ maxLen := hd 5 _ rfl (by kernel_rfl)
      rw [e] at HK ⊢
      clear e
      clear hd
      go_simp
      exact HK.out _ _ hI (Below.refl _ _) ⟨⟨A', c', rfl, r6, h6⟩, fun h => by cases h⟩
    · intro k' x W hkn hI hd K hK0
      have hK := hK0.out
      simp only [setAll, Act.put, List.foldl_cons, List.foldl_nil, List.setIfInBounds_toArray, List.set_cons_succ, List.set_cons_zero] at hK ⊢
      have HK := Lib.hid hK
      clear hK hK0
      rw [if_pos (by rfl)]
      clear hd
      go_simp
      exact HK.out _ _ (Fr.alloc hI _) (Fr.alloc (Below.refl _ _) _) ⟨⟨W.heap.size, rfl, by have := hI.size; omega, Blk.new _ _ _ rfl⟩, fun h => by cases h⟩
  case hend =>
    intro x W hI hV
    obtain ⟨A', c', e6, r7, hA7, h7⟩ : ∃ A' cap', x 19 = .agg #[.int .i64 ver, .slice A' xs.length cap'] ∧ RowE W A' xs ∧ (∀ g o, A' = some ⟨g, o, none⟩ → w3.heap.size ≤ g) ∧ xs.length ≤ cap' ∧ cap' ≤ maxLen := hV 6 _ (by omega) rfl
    obtain ⟨b, e7, hb, hB⟩ : ∃ b, x 7 = .pointer (some ⟨b, 0, none⟩) ∧ w3.heap.size ≤ b ∧ Blk W b 26 #[.int .i64 0, .slice none 0 0] := hV 7 _ (by omega) rfl
    clear hV
    simp only [setAll, Act.put, List.foldl_cons, List.foldl_nil, List.setIfInBounds_toArray, List.set_cons_succ, List.set_cons_zero, List.drop_succ_cons, List.drop_zero]
    rw [e6, e7]
    clear e6 e7
    obtain ⟨A2, hA2⟩ : ∃ A2, A2 = A' := ⟨_, rfl⟩
    obtain ⟨c2, hc2⟩ : ∃ c2, c2 = c' := ⟨_, rfl⟩
    subst hA2 hc2
    have hb2 : xs.length ≤ c2 ∧ c2 ≤ 9223372036854775807 := by have := h7.2; unfold maxLen at this; exact ⟨h7.1, by omega⟩
    have g1 := HS3.out.b0.lt
    have g2 := HS3.out.b1.lt
    have g3 := HS3.out.b2.lt
    have g4 := HS3.out.rd.lt
    have HB := Lib.hid (show D6 < b ∧ w.heap.size + 1 < D6 ∧ g < b by have := HD6.out; omega)
    have cb0 := hB.cells 0
    have cb1 := hB.cells 1
    have fb := hB.free
    have lb := hB.lt
    simp at cb0 cb1
    have S4 : St w ((W.setCell ⟨b, 0, none⟩ (.int .i64 ver)).setCell ⟨b, 1, none⟩ (.slice A2 xs.length c2)) g (0 + 100) [(b, 26, #[.int .i64 ver, .slice A2 xs.length c2]), (D6, 26, #[.int .i64 ver, .slice A xs.length cap]), (w.heap.size + 1, 26, #[.int .i64 0, .slice none 0 0]), (w.heap.size, 26, #[.int .i64 0, .slice none 0 0])] := by
      have hb1 : w.heap.size ≤ b := by omega
      have hL : ∀ x ∈ ([(D6, 26, #[.int .i64 ver, .slice A xs.length cap]), (w.heap.size + 1, 26, #[.int .i64 0, .slice none 0 0]), (w.heap.size, 26, #[.int .i64 0, .slice none 0 0])] : List (Nat × TypeId × Array Value)), x.1 ≠ b := by
        intro x hx
        simp at hx
        rcases hx with rfl | rfl | rfl <;> simp <;> omega
      exact (((HS3.out.mem hI).add hB (by omega)).head1_ hb1 hL 0 (.int .i64 ver)).head1_ hb1 hL 1 (.slice A2 xs.length c2)
    have hk : Keep [b] W ((W.setCell ⟨b, 0, none⟩ (.int .i64 ver)).setCell ⟨b, 1, none⟩ (.slice A2 xs.length c2)) := Keep.trans (Keep.set _ _ (.head _)) (Keep.set _ _ (.head _))
    have R4 := ((HR3.out.cons hb).keep (Keep.below (L := []) hI) (by simp)).keep hk (by simp)
    have Q4 := (RowE.x1 (L := [D6, g, w.heap.size + 1, w.heap.size]) r7 hA7 (by
      intro k hk
      simp at hk
      rcases hk with rfl | rfl | rfl | rfl <;> assumption) hB).keep hk (by simp)
    clear hI hB r7 hA7 h7 hk HS3 HR3 BX PP H6 hb
    go_wp2_with fail
    clear cb0 cb1 fb lb g1 g2 g3 g4
    generalize (W.setCell ⟨b, 0, none⟩ (.int .i64 ver)).setCell ⟨b, 1, none⟩ (.slice A2 xs.length c2) = w4 at *
    clear W
    clear w3
    refine (pick1 S4 3 (by omega) (by omega) (by omega)).mono ?_
    rintro e w5 ⟨v5, rfl, p5, q5, S5, -, -, hg5⟩
    have R5 := R4.keep (Keep.goes (L := [g]) hg5 (.head _)) (by simp)
    have Q5 := Q4.keep (Keep.goes (L := [g]) hg5 (.head _)) (by simp)
    clear S4 R4 Q4 hg5 w4
    by_cases hv5 : v5 = 0
    · subst hv5
      go_upto_region 5 with fail
      have HS := Lib.hid (And.intro (show St w w5 g 200 [(b, 26, #[.int .i64 ver, .slice A2 xs.length c2]), (D6, 26, #[.int .i64 ver, .slice A xs.length cap]), (w.heap.size + 1, 26, #[.int .i64 0, .slice none 0 0]), (w.heap.size, 26, #[.int .i64 0, .slice none 0 0])] from S5.le (by omega)) (And.intro R5 Q5))
      have hP : ∀ W W', Keep [g, b] W W' → (fun W => RowX W [b, D6, g, w.heap.size + 1, w.heap.size] A xs ∧ RowX W [b, D6, g, w.heap.size + 1, w.heap.size] A2 xs) W → (fun W => RowX W [b, D6, g, w.heap.size + 1, w.heap.size] A xs ∧ RowX W [b, D6, g, w.heap.size + 1, w.heap.size] A2 xs) W' := fun W W' k h => ⟨h.1.keep k (by simp), h.2.keep k (by simp)⟩
      clear S5 R5 Q5
      refine wp_region_facts3 7 [23, 24, 25, 26, 27, 28, 29] (dpL [[23], [24], [25], [26], [27], [28], [29]]) 50 (VV undef undef undef (.int .i64 ver) g b ⟨b, 0, none⟩ [6, 8, 5, 2, 5, 5, 6]) (IW w g 200 b 26 (.int .i64 ver) (.slice A2 xs.length c2) (.int .i64 ver) (.slice A2 xs.length c2) [(D6, 26, #[.int .i64 ver, .slice A xs.length cap]), (w.heap.size + 1, 26, #[.int .i64 0, .slice none 0 0]), (w.heap.size, 26, #[.int .i64 0, .slice none 0 0])] (fun W => RowX W [b, D6, g, w.heap.size + 1, w.heap.size] A xs ∧ RowX W [b, D6, g, w.heap.size + 1, w.heap.size] A2 xs)) (RK g b) (by kernel_rfl) (by kernel_rfl) (by rfl) ?hI VV_keep (by kernel_rfl) ?hob ?hend
      case hI => exact IW.start HS.out.1 hP HS.out.2
      case hob =>
        simp only [List.take_succ_cons, List.take_zero, Obs3, and_true]
        refine ⟨?_, ?_, ?_, ?_, ?_, ?_, ?_⟩
        · intro k' x W sb hkn hI hs1 hs2 hd K hK0
          have hK := hK0.out
          simp only [setAll, Act.put, List.foldl_cons, List.foldl_nil, List.setIfInBounds_toArray, List.set_cons_succ, List.set_cons_zero] at hK ⊢
          have HK := Lib.hid hK
          clear hK hK0
          rw [if_pos (by rfl)]
          clear hd
          go_simp
          exact HK.out _ _ (hI.next (by decide)) RK.next (rfl)
        · intro k' x W sb hkn hI hs1 hs2 hd K hK0
          have hK := hK0.out
          simp only [setAll, Act.put, List.foldl_cons, List.foldl_nil, List.setIfInBounds_toArray, List.set_cons_succ, List.set_cons_zero] at hK ⊢
          have HK := Lib.hid hK
          clear hK hK0
          rw [if_pos (by rfl)]
          obtain e : x 23 = .pointer (some ⟨b, 0, none⟩) := hd 0 _ rfl (by kernel_rfl)
          rw [e] at HK ⊢
          clear e
          clear hd
          have hst := hI.st
          rw [ite_self] at hst
          have c6 := hst.b0.cells
          have c60 := c6 0
          simp at c60
          clear c6 hst
          go_simp
          exact HK.out _ _ (hI.next (by decide)) RK.next (rfl)
        · intro k' x W sb hkn hI hs1 hs2 hd K hK0
          have hK := hK0.out
          simp only [setAll, Act.put, List.foldl_cons, List.foldl_nil, List.setIfInBounds_toArray, List.set_cons_succ, List.set_cons_zero] at hK ⊢
          have HK := Lib.hid hK
          clear hK hK0
          rw [if_pos (by rfl)]
          obtain e : x 24 = .int .i64 ver := hd 1 _ rfl (by kernel_rfl)
          rw [e] at HK ⊢
          clear e
          clear hd
          go_simp
          exact HK.out _ _ (hI.next (by decide)) RK.next (⟨_, rfl⟩)
        · intro k' x W sb hkn hI hs1 hs2 hd K hK0
          have hK := hK0.out
          simp only [setAll, Act.put, List.foldl_cons, List.foldl_nil, List.setIfInBounds_toArray, List.set_cons_succ, List.set_cons_zero] at hK ⊢
          have HK := Lib.hid hK
          clear hK hK0
          rw [if_pos (by rfl)]
          clear hd
          go_simp
          exact HK.out _ _ (hI.next (by decide)) RK.next (rfl)
        · intro k' x W sb hkn hI hs1 hs2 hd K hK0
          have hK := hK0.out
          simp only [setAll, Act.put, List.foldl_cons, List.foldl_nil, List.setIfInBounds_toArray, List.set_cons_succ, List.set_cons_zero] at hK ⊢
          have HK := Lib.hid hK
          clear hK hK0
          rw [if_pos (by rfl)]
          obtain e : x 26 = .pointer (some ⟨g, 0, none⟩) := hd 3 _ rfl (by kernel_rfl)
          rw [e] at HK ⊢
          clear e
          clear hd
          go_simp
          refine (pick_any w.heap.size g _ 3 W hI.st.rd (by omega) (by omega) (by omega)).mono ?_
          rintro e W1 ⟨u, rfl, hv, hr, hg, hz⟩
          exact HK.out _ _ (hI.goes hP (by decide) hg hr) (RK.of (.goes hg (.head _))) (⟨u, rfl⟩)
        · intro k' x W sb hkn hI hs1 hs2 hd K hK0
          have hK := hK0.out
          simp only [setAll, Act.put, List.foldl_cons, List.foldl_nil, List.setIfInBounds_toArray, List.set_cons_succ, List.set_cons_zero] at hK ⊢
          have HK := Lib.hid hK
          clear hK hK0
          rw [if_pos (by rfl)]
          obtain ⟨z, e⟩ : ∃ z, x 25 = .int .i64 z := hd 2 _ rfl (by kernel_rfl)
          rw [e] at HK ⊢
          clear e
          obtain ⟨z1, e1⟩ : ∃ z, x 27 = .int .i64 z := hd 4 _ rfl (by kernel_rfl)
          rw [e1] at HK ⊢
          clear e1
          clear hd
          go_simp
          exact HK.out _ _ (hI.next (by decide)) RK.next (⟨_, rfl⟩)
        · intro k' x W sb hkn hI hs1 hs2 hd K hK0
          have hK := hK0.out
          simp only [setAll, Act.put, List.foldl_cons, List.foldl_nil, List.setIfInBounds_toArray, List.set_cons_succ, List.set_cons_zero] at hK ⊢
          have HK := Lib.hid hK
          clear hK hK0
          rw [if_pos (by rfl)]
          clear hd
          go_simp
          exact HK.out _ _ (hI.next (by decide)) RK.next (rfl)
      case hend =>
        intro x W sb hI hV
        obtain e1 : x 29 = .pointer (some ⟨b, 0, none⟩) := hV 6 _ (by omega) rfl
        obtain ⟨z, e2⟩ : ∃ z, x 28 = .int .i64 z := hV 5 _ (by omega) rfl
        clear hV
        simp only [setAll, Act.put, List.foldl_cons, List.foldl_nil, List.setIfInBounds_toArray, List.set_cons_succ, List.set_cons_zero, List.drop_succ_cons, List.drop_zero]
        rw [e1, e2]
        clear e1 e2
        have hst : St w W g 207 [(b, 26, #[.int .i64 ver, .slice A2 xs.length c2]), (D6, 26, #[.int .i64 ver, .slice A xs.length cap]), (w.heap.size + 1, 26, #[.int .i64 0, .slice none 0 0]), (w.heap.size, 26, #[.int .i64 0, .slice none 0 0])] := by
          have := hI.st
          rwa [ite_self] at this
        have cb := hst.b0.cells
        have fb := hst.b0.free
        have cb0 := cb 0
        simp at cb0
        clear cb
        have S6 : St w (W.setCell ⟨b, 0, none⟩ (.int .i64 z)) g _ [(b, 26, #[.int .i64 z, .slice A2 xs.length c2]), (D6, 26, #[.int .i64 ver, .slice A xs.length cap]), (w.heap.size + 1, 26, #[.int .i64 0, .slice none 0 0]), (w.heap.size, 26, #[.int .i64 0, .slice none 0 0])] := hst.head1_ (by have := HB.out; omega) (by
          have := HB.out
          intro x hx
          simp at hx
          rcases hx with rfl | rfl | rfl <;> simp <;> omega) 0 (.int .i64 z)
        have R6 := hI.pr.1.keep (Keep.set (L := [b]) ⟨b, 0, none⟩ (.int .i64 z) (.head _)) (by simp)
        have Q6 := hI.pr.2.keep (Keep.set (L := [b]) ⟨b, 0, none⟩ (.int .i64 z) (.head _)) (by simp)
        clear hI hst
        go_upto_region 6 with fail
        clear cb0 fb
        generalize W.setCell ⟨b, 0, none⟩ (.int .i64 z) = w6 at *
        clear W
        have c6 := S6.b1.cells
        have l6 := S6.b1.lt
        have c60 := c6 0
        have c61 := c6 1
        simp at c60 c61
        clear c6
        have PP := Lib.hid (R6.row.alloc (.cells #[] 3))
        go_upto_region 7 with (at_builtin; refine wpList_append_any rfl (.tmp 30) (.tmp 32) rfl w6.heap.size rfl A _ cap xs rfl PP.out (by have := x6; omega) ?_; intro A8 c8 w8 h81 h85 h82 h83 h84)
        unfold maxLen at h83
        have L8 : Below w6.heap.size w6 w8 := Fr.step (Fr.alloc (Below.refl _ _) _) h84
        have S8 := S6.mem L8
        have R8 := R6.keep (Keep.below (L := []) L8) (by simp)
        have Q8 := Q6.keep (Keep.below (L := []) L8) (by simp)
        have P8 : RowX w8 [b, D6, g, w.heap.size + 1, w.heap.size] A8 xs := RowE.x (Z := w6.heap.size) h81 (fun g o e => (h85 g o e).elim (fun h => by omega) (fun h => by simp at h; omega)) (by
          have g1 := S6.b0.lt
          have g2 := S6.b1.lt
          have g3 := S6.b2.lt
          have g4 := S6.b3.lt
          have g5 := S6.rd.lt
          intro k hk
          simp at hk
          rcases hk with rfl | rfl | rfl | rfl | rfl <;> assumption)
        have hkw1 := h82
        have hkw2 : c8 ≤ 9223372036854775807 := by omega
        clear S6 R6 Q6 c60 c61 l6 h81 h85 h82 h83 h84 L8 PP
        go_wp2_with fail
        refine (pick1 S8 16 (by omega) (by omega) (by omega)).mono ?_
        rintro e w9 ⟨v9, rfl, p9, q9, S9, -, -, hg9⟩
        have R9 := R8.keep (Keep.goes (L := [g]) hg9 (.head _)) (by simp)
        have Q9 := Q8.keep (Keep.goes (L := [g]) hg9 (.head _)) (by simp)
        have P9 := P8.keep (Keep.goes (L := [g]) hg9 (.head _)) (by simp)
        clear S8 R8 Q8 P8 hg9
        by_cases hv9 : v9 = 0
        · subst hv9
          obtain ⟨wz, hwz⟩ : ∃ wz, wz = w9.alloc (.cells #[] 3) := ⟨_, rfl⟩
          obtain ⟨bz, hbz⟩ : ∃ bz, bz = w9.heap.size := ⟨_, rfl⟩
          replace S9 := S9.alloc (.cells #[] 3)
          replace R9 := R9.keep (Keep.alloc (L := []) (.cells #[] 3)) (by simp)
          replace Q9 := Q9.keep (Keep.alloc (L := []) (.cells #[] 3)) (by simp)
          have P0 : RowX wz [b, D6, g, w.heap.size + 1, w.heap.size] (some ⟨bz, 0, none⟩) [] := RowX.nil
          rw [← hwz] at S9 R9 Q9
          go_upto_region 9 with fail
          rw [← hwz, ← hbz]
          clear hwz hbz P9
          have HS := Lib.hid (And.intro (show St w wz g 400 ((w.heap.size, 26, #[.int .i64 0, .slice none 0 0]) :: [(b, 26, #[.int .i64 z, .slice A2 xs.length c2]), (D6, 26, #[.int .i64 ver, .slice A xs.length cap]), (w.heap.size + 1, 26, #[.int .i64 0, .slice none 0 0])]) from (S9.le (by omega)).perm (by simp)) (And.intro R9 (And.intro Q9 P0)))
          have hP : ∀ W W', Keep [g, w.heap.size] W W' → (fun W => RowX W [b, D6, g, w.heap.size + 1, w.heap.size] A xs ∧ RowX W [b, D6, g, w.heap.size + 1, w.heap.size] A2 xs ∧ RowX W [b, D6, g, w.heap.size + 1, w.heap.size] (some ⟨bz, 0, none⟩) ([] : List Int)) W → (fun W => RowX W [b, D6, g, w.heap.size + 1, w.heap.size] A xs ∧ RowX W [b, D6, g, w.heap.size + 1, w.heap.size] A2 xs ∧ RowX W [b, D6, g, w.heap.size + 1, w.heap.size] (some ⟨bz, 0, none⟩) ([] : List Int)) W' := fun W W' k h => ⟨h.1.keep k (by simp), h.2.1.keep k (by simp), h.2.2.keep k (by simp)⟩
          have hD : w.heap.size ≤ w.heap.size := Nat.le_refl _
          have hL : ∀ x ∈ ([(b, 26, #[.int .i64 z, .slice A2 xs.length c2]), (D6, 26, #[.int .i64 ver, .slice A xs.length cap]), (w.heap.size + 1, 26, #[.int .i64 0, .slice none 0 0])] : List (Nat × TypeId × Array Value)), x.1 ≠ w.heap.size := by
            have := HB.out
            intro x hx
            simp at hx
            rcases hx with rfl | rfl | rfl
            · simp; omega
            · simp; omega
            · simp
          clear S9 R9 Q9 P0
          refine wp_region_facts3 5 [38, 39, 40, 3] (dpL [[38], [39], [40], [], [3]]) 3 (VV (.agg #[.int .i64 ver, .slice A xs.length cap]) (.agg #[.int .i64 z, .slice A2 xs.length c2]) (.slice (some ⟨bz, 0, none⟩) ([] : List Int).length 0) undef g w.heap.size ⟨0, 0, none⟩ [0, 7, 11, 9, 7]) (IW w g 400 w.heap.size 26 (.int .i64 0) (.slice none 0 0) (.int .i64 ver) (.slice A xs.length cap) [(b, 26, #[.int .i64 z, .slice A2 xs.length c2]), (D6, 26, #[.int .i64 ver, .slice A xs.length cap]), (w.heap.size + 1, 26, #[.int .i64 0, .slice none 0 0])] (fun W => RowX W [b, D6, g, w.heap.size + 1, w.heap.size] A xs ∧ RowX W [b, D6, g, w.heap.size + 1, w.heap.size] A2 xs ∧ RowX W [b, D6, g, w.heap.size + 1, w.heap.size] (some ⟨bz, 0, none⟩) ([] : List Int))) (RK g w.heap.size) (by kernel_rfl) (by kernel_rfl) (by rfl) ?hI VV_keep (by kernel_rfl) ?hob ?hend
          case hI => exact IW.start HS.out.1 hP HS.out.2
          case hob =>
            simp only [List.take_succ_cons, List.take_zero, Obs3, and_true]
            refine ⟨?_, ?_, ?_, ?_, ?_⟩
            · intro k' x W sb hkn hI hs1 hs2 hd K hK0
              have hK := hK0.out
              simp only [setAll, Act.put, List.foldl_cons, List.foldl_nil, List.setIfInBounds_toArray, List.set_cons_succ, List.set_cons_zero] at hK ⊢
              have HK := Lib.hid hK
              clear hK hK0
              rw [if_pos (by rfl)]
              clear hd
              have c6 := hI.st.b2.cells
              have l6 := hI.st.b2.lt
              have c60 := c6 0
              have c61 := c6 1
              simp at c60 c61
              clear c6
              go_simp
              exact HK.out _ _ (hI.next (by decide)) RK.next (rfl)
            · intro k' x W sb hkn hI hs1 hs2 hd K hK0
              have hK := hK0.out
              simp only [setAll, Act.put, List.foldl_cons, List.foldl_nil, List.setIfInBounds_toArray, List.set_cons_succ, List.set_cons_zero] at hK ⊢
              have HK := Lib.hid hK
              clear hK hK0
              rw [if_pos (by rfl)]
              clear hd
              go_simp
              exact HK.out _ _ (hI.next (by decide)) RK.next (rfl)
            · intro k' x W sb hkn hI hs1 hs2 hd K hK0
              have hK := hK0.out
              simp only [setAll, Act.put, List.foldl_cons, List.foldl_nil, List.setIfInBounds_toArray, List.set_cons_succ, List.set_cons_zero] at hK ⊢
              have HK := Lib.hid hK
              clear hK hK0
              rw [if_pos (by rfl)]
              clear hd
              have c6 := hI.st.b1.cells
              have l6 := hI.st.b1.lt
              have c60 := c6 0
              have c61 := c6 1
              simp at c60 c61
              clear c6
              go_simp
              exact HK.out _ _ (hI.next (by decide)) RK.next (rfl)
            · intro k' x W sb hkn hI hs1 hs2 hd K hK0
              have hK := hK0.out
              simp only [setAll, Act.put, List.foldl_cons, List.foldl_nil, List.setIfInBounds_toArray, List.set_cons_succ, List.set_cons_zero] at hK ⊢
              have HK := Lib.hid hK
              clear hK hK0
              rw [if_pos (by rfl)]
              obtain e : x 38 = .agg #[.int .i64 ver, .slice A xs.length cap] := hd 0 _ rfl (by kernel_rfl)
              rw [e] at HK ⊢
              clear e
              clear hd
              obtain rfl : sb = false := hs2 rfl
              have cd := hI.st.b0.cells
              have fd := hI.st.b0.free
              have cd0 := cd 0
              have cd1 := cd 1
              simp at cd0 cd1
              clear cd
              go_simp
              exact HK.out undef _ (hI.put hP hD hL (by simp)) ⟨fun h => by simp, Keep.trans (Keep.set _ _ (.tail _ (.head _))) (Keep.set _ _ (.tail _ (.head _)))⟩ (rfl)
            · intro k' x W sb hkn hI hs1 hs2 hd K hK0
              have hK := hK0.out
              simp only [setAll, Act.put, List.foldl_cons, List.foldl_nil, List.setIfInBounds_toArray, List.set_cons_succ, List.set_cons_zero] at hK ⊢
              have HK := Lib.hid hK
              clear hK hK0
              rw [if_pos (by rfl)]
              obtain e : x 39 = .slice (some ⟨bz, 0, none⟩) ([] : List Int).length 0 := hd 1 _ rfl (by kernel_rfl)
              rw [e] at HK ⊢
              clear e
              clear hd
              go_simp
              exact HK.out _ _ (hI.next (by decide)) RK.next (rfl)
          case hend =>
            intro x W sb hI hV
            obtain e1 : x 3 = .slice (some ⟨bz, 0, none⟩) ([] : List Int).length 0 := hV 4 _ (by omega) rfl
            obtain e2 : x 40 = .agg #[.int .i64 z, .slice A2 xs.length c2] := hV 2 _ (by omega) rfl
            obtain rfl : sb = true := hV 3 _ (by omega) rfl
            clear hV
            simp only [setAll, Act.put, List.foldl_cons, List.foldl_nil, List.setIfInBounds_toArray, List.set_cons_succ, List.set_cons_zero, List.drop_succ_cons, List.drop_zero]
            rw [e1, e2]
            clear e1 e2
            have cr := hI.st.b0.cells
            simp at cr
            have cr0 := cr 0
            have cr1 := cr 1
            simp at cr0 cr1
            clear cr
            have cd := hI.st.b3.cells
            have fd := hI.st.b3.free
            have ld := hI.st.b3.lt
            have cd0 := cd 0
            have cd1 := cd 1
            simp at cd0 cd1
            clear cd
            go_wp2_with fail
            refine bodyPost_ret (by simp [results, Try.results29, go_sem, cr0, cr1, cd0, cd1]; try rfl) rfl ?_
            have hk : Keep [w.heap.size + 1] W ((W.setCell ⟨w.heap.size + 1, 0, none⟩ (.int .i64 (z))).setCell ⟨w.heap.size + 1, 1, none⟩ (.slice A2 xs.length c2)) := Keep.trans (Keep.set _ _ (.head _)) (Keep.set _ _ (.head _))
            exact ⟨ver, A, cap, xs, (some ⟨bz, 0, none⟩), 0, ([] : List Int), z, A2, c2, xs, rfl, (hI.pr.1.keep hk (by simp)).row, (hI.pr.2.2.keep hk (by simp)).row, (hI.pr.2.1.keep hk (by simp)).row, k1, k2, by first | exact hkw1 | exact Nat.zero_le _, by first | exact hkw2 | exact Nat.zero_le _, hb2.1, hb2.2, Below.setCell (Below.setCell hI.st.below (by simp) _) (by simp) _⟩
        · have hne9 : (v9 == 0) = false := by simpa using hv9
          have HS := Lib.hid (And.intro (show St w w9 g 400 ((w.heap.size, 26, #[.int .i64 0, .slice none 0 0]) :: [(b, 26, #[.int .i64 z, .slice A2 xs.length c2]), (D6, 26, #[.int .i64 ver, .slice A xs.length cap]), (w.heap.size + 1, 26, #[.int .i64 0, .slice none 0 0])]) from (S9.le (by omega)).perm (by simp)) (And.intro R9 (And.intro Q9 P9)))
          have hP : ∀ W W', Keep [g, w.heap.size] W W' → (fun W => RowX W [b, D6, g, w.heap.size + 1, w.heap.size] A xs ∧ RowX W [b, D6, g, w.heap.size + 1, w.heap.size] A2 xs ∧ RowX W [b, D6, g, w.heap.size + 1, w.heap.size] A8 xs) W → (fun W => RowX W [b, D6, g, w.heap.size + 1, w.heap.size] A xs ∧ RowX W [b, D6, g, w.heap.size + 1, w.heap.size] A2 xs ∧ RowX W [b, D6, g, w.heap.size + 1, w.heap.size] A8 xs) W' := fun W W' k h => ⟨h.1.keep k (by simp), h.2.1.keep k (by simp), h.2.2.keep k (by simp)⟩
          have hD : w.heap.size ≤ w.heap.size := Nat.le_refl _
          have hL : ∀ x ∈ ([(b, 26, #[.int .i64 z, .slice A2 xs.length c2]), (D6, 26, #[.int .i64 ver, .slice A xs.length cap]), (w.heap.size + 1, 26, #[.int .i64 0, .slice none 0 0])] : List (Nat × TypeId × Array Value)), x.1 ≠ w.heap.size := by
            have := HB.out
            intro x hx
            simp at hx
            rcases hx with rfl | rfl | rfl
            · simp; omega
            · simp; omega
            · simp
          clear S9 R9 Q9 P9
          go_upto_region 9 with fail
          refine wp_region_facts3 5 [38, 39, 40, 3] (dpL [[38], [39], [40], [], [3]]) 3 (VV (.agg #[.int .i64 ver, .slice A xs.length cap]) (.agg #[.int .i64 z, .slice A2 xs.length c2]) (.slice A8 xs.length c8) undef g w.heap.size ⟨0, 0, none⟩ [0, 7, 11, 9, 7]) (IW w g 400 w.heap.size 26 (.int .i64 0) (.slice none 0 0) (.int .i64 ver) (.slice A xs.length cap) [(b, 26, #[.int .i64 z, .slice A2 xs.length c2]), (D6, 26, #[.int .i64 ver, .slice A xs.length cap]), (w.heap.size + 1, 26, #[.int .i64 0, .slice none 0 0])] (fun W => RowX W [b, D6, g, w.heap.size + 1, w.heap.size] A xs ∧ RowX W [b, D6, g, w.heap.size + 1, w.heap.size] A2 xs ∧ RowX W [b, D6, g, w.heap.size + 1, w.heap.size] A8 xs)) (RK g w.heap.size) (by kernel_rfl) (by kernel_rfl) (by rfl) ?hI VV_keep (by kernel_rfl) ?hob ?hend
          case hI => exact IW.start HS.out.1 hP HS.out.2
          case hob =>
            simp only [List.take_succ_cons, List.take_zero, Obs3, and_true]
            refine ⟨?_, ?_, ?_, ?_, ?_⟩
            · intro k' x W sb hkn hI hs1 hs2 hd K hK0
              have hK := hK0.out
              simp only [setAll, Act.put, List.foldl_cons, List.foldl_nil, List.setIfInBounds_toArray, List.set_cons_succ, List.set_cons_zero] at hK ⊢
              have HK := Lib.hid hK
              clear hK hK0
              rw [if_pos (by rfl)]
              clear hd
              have c6 := hI.st.b2.cells
              have l6 := hI.st.b2.lt
              have c60 := c6 0
              have c61 := c6 1
              simp at c60 c61
              clear c6
              go_simp
              exact HK.out _ _ (hI.next (by decide)) RK.next (rfl)
            · intro k' x W sb hkn hI hs1 hs2 hd K hK0
              have hK := hK0.out
              simp only [setAll, Act.put, List.foldl_cons, List.foldl_nil, List.setIfInBounds_toArray, List.set_cons_succ, List.set_cons_zero] at hK ⊢
              have HK := Lib.hid hK
              clear hK hK0
              rw [if_pos (by rfl)]
              clear hd
              go_simp
              exact HK.out _ _ (hI.next (by decide)) RK.next (rfl)
            · intro k' x W sb hkn hI hs1 hs2 hd K hK0
              have hK := hK0.out
              simp only [setAll, Act.put, List.foldl_cons, List.foldl_nil, List.setIfInBounds_toArray, List.set_cons_succ, List.set_cons_zero] at hK ⊢
              have HK := Lib.hid hK
              clear hK hK0
              rw [if_pos (by rfl)]
              clear hd
              have c6 := hI.st.b1.cells
              have l6 := hI.st.b1.lt
              have c60 := c6 0
              have c61 := c6 1
              simp at c60 c61
              clear c6
              go_simp
              exact HK.out _ _ (hI.next (by decide)) RK.next (rfl)
            · intro k' x W sb hkn hI hs1 hs2 hd K hK0
              have hK := hK0.out
              simp only [setAll, Act.put, List.foldl_cons, List.foldl_nil, List.setIfInBounds_toArray, List.set_cons_succ, List.set_cons_zero] at hK ⊢
              have HK := Lib.hid hK
              clear hK hK0
              rw [if_pos (by rfl)]
              obtain e : x 38 = .agg #[.int .i64 ver, .slice A xs.length cap] := hd 0 _ rfl (by kernel_rfl)
              rw [e] at HK ⊢
              clear e
              clear hd
              obtain rfl : sb = false := hs2 rfl
              have cd := hI.st.b0.cells
              have fd := hI.st.b0.free
              have cd0 := cd 0
              have cd1 := cd 1
              simp at cd0 cd1
              clear cd
              go_simp
              exact HK.out undef _ (hI.put hP hD hL (by simp)) ⟨fun h => by simp, Keep.trans (Keep.set _ _ (.tail _ (.head _))) (Keep.set _ _ (.tail _ (.head _)))⟩ (rfl)
            · intro k' x W sb hkn hI hs1 hs2 hd K hK0
              have hK := hK0.out
              simp only [setAll, Act.put, List.foldl_cons, List.foldl_nil, List.setIfInBounds_toArray, List.set_cons_succ, List.set_cons_zero] at hK ⊢
              have HK := Lib.hid hK
              clear hK hK0
              rw [if_pos (by rfl)]
              obtain e : x 39 = .slice A8 xs.length c8 := hd 1 _ rfl (by kernel_rfl)
              rw [e] at HK ⊢
              clear e
              clear hd
              go_simp
              exact HK.out _ _ (hI.next (by decide)) RK.next (rfl)
          case hend =>
            intro x W sb hI hV
            obtain e1 : x 3 = .slice A8 xs.length c8 := hV 4 _ (by omega) rfl
            obtain e2 : x 40 = .agg #[.int .i64 z, .slice A2 xs.length c2] := hV 2 _ (by omega) rfl
            obtain rfl : sb = true := hV 3 _ (by omega) rfl
            clear hV
            simp only [setAll, Act.put, List.foldl_cons, List.foldl_nil, List.setIfInBounds_toArray, List.set_cons_succ, List.set_cons_zero, List.drop_succ_cons, List.drop_zero]
            rw [e1, e2]
            clear e1 e2
            have cr := hI.st.b0.cells
            simp at cr
            have cr0 := cr 0
            have cr1 := cr 1
            simp at cr0 cr1
            clear cr
            have cd := hI.st.b3.cells
            have fd := hI.st.b3.free
            have ld := hI.st.b3.lt
            have cd0 := cd 0
            have cd1 := cd 1
            simp at cd0 cd1
            clear cd
            go_wp2_with fail
            refine bodyPost_ret (by simp [results, Try.results29, go_sem, cr0, cr1, cd0, cd1]; try rfl) rfl ?_
            have hk : Keep [w.heap.size + 1] W ((W.setCell ⟨w.heap.size + 1, 0, none⟩ (.int .i64 (z))).setCell ⟨w.heap.size + 1, 1, none⟩ (.slice A2 xs.length c2)) := Keep.trans (Keep.set _ _ (.head _)) (Keep.set _ _ (.head _))
            exact ⟨ver, A, cap, xs, A8, c8, xs, z, A2, c2, xs, rfl, (hI.pr.1.keep hk (by simp)).row, (hI.pr.2.2.keep hk (by simp)).row, (hI.pr.2.1.keep hk (by simp)).row, k1, k2, by first | exact hkw1 | exact Nat.zero_le _, by first | exact hkw2 | exact Nat.zero_le _, hb2.1, hb2.2, Below.setCell (Below.setCell hI.st.below (by simp) _) (by simp) _⟩
    · have hne5 : (v5 == 0) = false := by simpa using hv5
      go_upto_region 6 with fail
      have c6 := S5.b1.cells
      have l6 := S5.b1.lt
      have c60 := c6 0
      have c61 := c6 1
      simp at c60 c61
      clear c6
      have PP := Lib.hid (R5.row.alloc (.cells #[] 3))
      go_upto_region 7 with (at_builtin; refine wpList_append_any rfl (.tmp 30) (.tmp 32) rfl w5.heap.size rfl A _ cap xs rfl PP.out (by have := x6; omega) ?_; intro A8 c8 w8 h81 h85 h82 h83 h84)
      unfold maxLen at h83
      have L8 : Below w5.heap.size w5 w8 := Fr.step (Fr.alloc (Below.refl _ _) _) h84
      have S8 := S5.mem L8
      have R8 := R5.keep (Keep.below (L := []) L8) (by simp)
      have Q8 := Q5.keep (Keep.below (L := []) L8) (by simp)
      have P8 : RowX w8 [b, D6, g, w.heap.size + 1, w.heap.size] A8 xs := RowE.x (Z := w5.heap.size) h81 (fun g o e => (h85 g o e).elim (fun h => by omega) (fun h => by simp at h; omega)) (by
        have g1 := S5.b0.lt
        have g2 := S5.b1.lt
        have g3 := S5.b2.lt
        have g4 := S5.b3.lt
        have g5 := S5.rd.lt
        intro k hk
        simp at hk
        rcases hk with rfl | rfl | rfl | rfl | rfl <;> assumption)
      have hkw1 := h82
      have hkw2 : c8 ≤ 9223372036854775807 := by omega
      clear S5 R5 Q5 c60 c61 l6 h81 h85 h82 h83 h84 L8 PP
      go_wp2_with fail
      refine (pick1 S8 16 (by omega) (by omega) (by omega)).mono ?_
      rintro e w9 ⟨v9, rfl, p9, q9, S9, -, -, hg9⟩
      have R9 := R8.keep (Keep.goes (L := [g]) hg9 (.head _)) (by simp)
      have Q9 := Q8.keep (Keep.goes (L := [g]) hg9 (.head _)) (by simp)
      have P9 := P8.keep (Keep.goes (L := [g]) hg9 (.head _)) (by simp)
      clear S8 R8 Q8 P8 hg9
      by_cases hv9 : v9 = 0
      · subst hv9
        obtain ⟨wz, hwz⟩ : ∃ wz, wz = w9.alloc (.cells #[] 3) := ⟨_, rfl⟩
        obtain ⟨bz, hbz⟩ : ∃ bz, bz = w9.heap.size := ⟨_, rfl⟩
        replace S9 := S9.alloc (.cells #[] 3)
        replace R9 := R9.keep (Keep.alloc (L := []) (.cells #[] 3)) (by simp)
        replace Q9 := Q9.keep (Keep.alloc (L := []) (.cells #[] 3)) (by simp)
        have P0 : RowX wz [b, D6, g, w.heap.size + 1, w.heap.size] (some ⟨bz, 0, none⟩) [] := RowX.nil
        rw [← hwz] at S9 R9 Q9
        go_upto_region 9 with fail
        rw [← hwz, ← hbz]
        clear hwz hbz P9
        have HS := Lib.hid (And.intro (show St w wz g 400 ((w.heap.size, 26, #[.int .i64 0, .slice none 0 0]) :: [(b, 26, #[.int .i64 ver, .slice A2 xs.length c2]), (D6, 26, #[.int .i64 ver, .slice A xs.length cap]), (w.heap.size + 1, 26, #[.int .i64 0, .slice none 0 0])]) from (S9.le (by omega)).perm (by simp)) (And.intro R9 (And.intro Q9 P0)))
        have hP : ∀ W W', Keep [g, w.heap.size] W W' → (fun W => RowX W [b, D6, g, w.heap.size + 1, w.heap.size] A xs ∧ RowX W [b, D6, g, w.heap.size + 1, w.heap.size] A2 xs ∧ RowX W [b, D6, g, w.heap.size + 1, w.heap.size] (some ⟨bz, 0, none⟩) ([] : List Int)) W → (fun W => RowX W [b, D6, g, w.heap.size + 1, w.heap.size] A xs ∧ RowX W [b, D6, g, w.heap.size + 1, w.heap.size] A2 xs ∧ RowX W [b, D6, g, w.heap.size + 1, w.heap.size] (some ⟨bz, 0, none⟩) ([] : List Int)) W' := fun W W' k h => ⟨h.1.keep k (by simp), h.2.1.keep k (by simp), h.2.2.keep k (by simp)⟩
        have hD : w.heap.size ≤ w.heap.size := Nat.le_refl _
        have hL : ∀ x ∈ ([(b, 26, #[.int .i64 ver, .slice A2 xs.length c2]), (D6, 26, #[.int .i64 ver, .slice A xs.length cap]), (w.heap.size + 1, 26, #[.int .i64 0, .slice none 0 0])] : List (Nat × TypeId × Array Value)), x.1 ≠ w.heap.size := by
          have := HB.out
          intro x hx
          simp at hx
          rcases hx with rfl | rfl | rfl
          · simp; omega
          · simp; omega
          · simp
        clear S9 R9 Q9 P0
        refine wp_region_facts3 5 [38, 39, 40, 3] (dpL [[38], [39], [40], [], [3]]) 3 (VV (.agg #[.int .i64 ver, .slice A xs.length cap]) (.agg #[.int .i64 ver, .slice A2 xs.length c2]) (.slice (some ⟨bz, 0, none⟩) ([] : List Int).length 0) undef g w.heap.size ⟨0, 0, none⟩ [0, 7, 11, 9, 7]) (IW w g 400 w.heap.size 26 (.int .i64 0) (.slice none 0 0) (.int .i64 ver) (.slice A xs.length cap) [(b, 26, #[.int .i64 ver, .slice A2 xs.length c2]), (D6, 26, #[.int .i64 ver, .slice A xs.length cap]), (w.heap.size + 1, 26, #[.int .i64 0, .slice none 0 0])] (fun W => RowX W [b, D6, g, w.heap.size + 1, w.heap.size] A xs ∧ RowX W [b, D6, g, w.heap.size + 1, w.heap.size] A2 xs ∧ RowX W [b, D6, g, w.heap.size + 1, w.heap.size] (some ⟨bz, 0, none⟩) ([] : List Int))) (RK g w.heap.size) (by kernel_rfl) (by kernel_rfl) (by rfl) ?hI VV_keep (by kernel_rfl) ?hob ?hend
        case hI => exact IW.start HS.out.1 hP HS.out.2
        case hob =>
          simp only [List.take_succ_cons, List.take_zero, Obs3, and_true]
          refine ⟨?_, ?_, ?_, ?_, ?_⟩
          · intro k' x W sb hkn hI hs1 hs2 hd K hK0
            have hK := hK0.out
            simp only [setAll, Act.put, List.foldl_cons, List.foldl_nil, List.setIfInBounds_toArray, List.set_cons_succ, List.set_cons_zero] at hK ⊢
            have HK := Lib.hid hK
            clear hK hK0
            rw [if_pos (by rfl)]
            clear hd
            have c6 := hI.st.b2.cells
            have l6 := hI.st.b2.lt
            have c60 := c6 0
            have c61 := c6 1
            simp at c60 c61
            clear c6
            go_simp
            exact HK.out _ _ (hI.next (by decide)) RK.next (rfl)
          · intro k' x W sb hkn hI hs1 hs2 hd K hK0
            have hK := hK0.out
            simp only [setAll, Act.put, List.foldl_cons, List.foldl_nil, List.setIfInBounds_toArray, List.set_cons_succ, List.set_cons_zero] at hK ⊢
            have HK := Lib.hid hK
            clear hK hK0
            rw [if_pos (by rfl)]
            clear hd
            go_simp
            exact HK.out _ _ (hI.next (by decide)) RK.next (rfl)
          · intro k' x W sb hkn hI hs1 hs2 hd K hK0
            have hK := hK0.out
            simp only [setAll, Act.put, List.foldl_cons, List.foldl_nil, List.setIfInBounds_toArray, List.set_cons_succ, List.set_cons_zero] at hK ⊢
            have HK := Lib.hid hK
            clear hK hK0
            rw [if_pos (by rfl)]
            clear hd
            have c6 := hI.st.b1.cells
            have l6 := hI.st.b1.lt
            have c60 := c6 0
            have c61 := c6 1
            simp at c60 c61
            clear c6
            go_simp
            exact HK.out _ _ (hI.next (by decide)) RK.next (rfl)
          · intro k' x W sb hkn hI hs1 hs2 hd K hK0
            have hK := hK0.out
            simp only [setAll, Act.put, List.foldl_cons, List.foldl_nil, List.setIfInBounds_toArray, List.set_cons_succ, List.set_cons_zero] at hK ⊢
            have HK := Lib.hid hK
            clear hK hK0
            rw [if_pos (by rfl)]
            obtain e : x 38 = .agg #[.int .i64 ver, .slice A xs.length cap] := hd 0 _ rfl (by kernel_rfl)
            rw [e] at HK ⊢
            clear e
            clear hd
            obtain rfl : sb = false := hs2 rfl
            have cd := hI.st.b0.cells
            have fd := hI.st.b0.free
            have cd0 := cd 0
            have cd1 := cd 1
            simp at cd0 cd1
            clear cd
            go_simp
            exact HK.out undef _ (hI.put hP hD hL (by simp)) ⟨fun h => by simp, Keep.trans (Keep.set _ _ (.tail _ (.head _))) (Keep.set _ _ (.tail _ (.head _)))⟩ (rfl)
          · intro k' x W sb hkn hI hs1 hs2 hd K hK0
            have hK := hK0.out
            simp only [setAll, Act.put, List.foldl_cons, List.foldl_nil, List.setIfInBounds_toArray, List.set_cons_succ, List.set_cons_zero] at hK ⊢
            have HK := Lib.hid hK
            clear hK hK0
            rw [if_pos (by rfl)]
            obtain e : x 39 = .slice (some ⟨bz, 0, none⟩) ([] : List Int).length 0 := hd 1 _ rfl (by kernel_rfl)
            rw [e] at HK ⊢
            clear e
            clear hd
            go_simp
            exact HK.out _ _ (hI.next (by decide)) RK.next (rfl)
        case hend =>
          intro x W sb hI hV
          obtain e1 : x 3 = .slice (some ⟨bz, 0, none⟩) ([] : List Int).length 0 := hV 4 _ (by omega) rfl
          obtain e2 : x 40 = .agg #[.int .i64 ver, .slice A2 xs.length c2] := hV 2 _ (by omega) rfl
          obtain rfl : sb = true := hV 3 _ (by omega) rfl
          clear hV
          simp only [setAll, Act.put, List.foldl_cons, List.foldl_nil, List.setIfInBounds_toArray, List.set_cons_succ, List.set_cons_zero, List.drop_succ_cons, List.drop_zero]
          rw [e1, e2]
          clear e1 e2
          have cr := hI.st.b0.cells
          simp at cr
          have cr0 := cr 0
          have cr1 := cr 1
          simp at cr0 cr1
          clear cr
          have cd := hI.st.b3.cells
          have fd := hI.st.b3.free
          have ld := hI.st.b3.lt
          have cd0 := cd 0
          have cd1 := cd 1
          simp at cd0 cd1
          clear cd
          go_wp2_with fail
          refine bodyPost_ret (by simp [results, Try.results29, go_sem, cr0, cr1, cd0, cd1]; try rfl) rfl ?_
          have hk : Keep [w.heap.size + 1] W ((W.setCell ⟨w.heap.size + 1, 0, none⟩ (.int .i64 (ver))).setCell ⟨w.heap.size + 1, 1, none⟩ (.slice A2 xs.length c2)) := Keep.trans (Keep.set _ _ (.head _)) (Keep.set _ _ (.head _))
          exact ⟨ver, A, cap, xs, (some ⟨bz, 0, none⟩), 0, ([] : List Int), ver, A2, c2, xs, rfl, (hI.pr.1.keep hk (by simp)).row, (hI.pr.2.2.keep hk (by simp)).row, (hI.pr.2.1.keep hk (by simp)).row, k1, k2, by first | exact hkw1 | exact Nat.zero_le _, by first | exact hkw2 | exact Nat.zero_le _, hb2.1, hb2.2, Below.setCell (Below.setCell hI.st.below (by simp) _) (by simp) _⟩
      · have hne9 : (v9 == 0) = false := by simpa using hv9
        have HS := Lib.hid (And.intro (show St w w9 g 400 ((w.heap.size, 26, #[.int .i64 0, .slice none 0 0]) :: [(b, 26, #[.int .i64 ver, .slice A2 xs.length c2]), (D6, 26, #[.int .i64 ver, .slice A xs.length cap]), (w.heap.size + 1, 26, #[.int .i64 0, .slice none 0 0])]) from (S9.le (by omega)).perm (by simp)) (And.intro R9 (And.intro Q9 P9)))
        have hP : ∀ W W', Keep [g, w.heap.size] W W' → (fun W => RowX W [b, D6, g, w.heap.size + 1, w.heap.size] A xs ∧ RowX W [b, D6, g, w.heap.size + 1, w.heap.size] A2 xs ∧ RowX W [b, D6, g, w.heap.size + 1, w.heap.size] A8 xs) W → (fun W => RowX W [b, D6, g, w.heap.size + 1, w.heap.size] A xs ∧ RowX W [b, D6, g, w.heap.size + 1, w.heap.size] A2 xs ∧ RowX W [b, D6, g, w.heap.size + 1, w.heap.size] A8 xs) W' := fun W W' k h => ⟨h.1.keep k (by simp), h.2.1.keep k (by simp), h.2.2.keep k (by simp)⟩
        have hD : w.heap.size ≤ w.heap.size := Nat.le_refl _
        have hL : ∀ x ∈ ([(b, 26, #[.int .i64 ver, .slice A2 xs.length c2]), (D6, 26, #[.int .i64 ver, .slice A xs.length cap]), (w.heap.size + 1, 26, #[.int .i64 0, .slice none 0 0])] : List (Nat × TypeId × Array Value)), x.1 ≠ w.heap.size := by
          have := HB.out
          intro x hx
          simp at hx
          rcases hx with rfl | rfl | rfl
          · simp; omega
          · simp; omega
          · simp
        clear S9 R9 Q9 P9
        go_upto_region 9 with fail
        refine wp_region_facts3 5 [38, 39, 40, 3] (dpL [[38], [39], [40], [], [3]]) 3 (VV (.agg #[.int .i64 ver, .slice A xs.length cap]) (.agg #[.int .i64 ver, .slice A2 xs.length c2]) (.slice A8 xs.length c8) undef g w.heap.size ⟨0, 0, none⟩ [0, 7, 11, 9, 7]) (IW w g 400 w.heap.size 26 (.int .i64 0) (.slice none 0 0) (.int .i64 ver) (.slice A xs.length cap) [(b, 26, #[.int .i64 ver, .slice A2 xs.length c2]), (D6, 26, #[.int .i64 ver, .slice A xs.length cap]), (w.heap.size + 1, 26, #[.int .i64 0, .slice none 0 0])] (fun W => RowX W [b, D6, g, w.heap.size + 1, w.heap.size] A xs ∧ RowX W [b, D6, g, w.heap.size + 1, w.heap.size] A2 xs ∧ RowX W [b, D6, g, w.heap.size + 1, w.heap.size] A8 xs)) (RK g w.heap.size) (by kernel_rfl) (by kernel_rfl) (by rfl) ?hI VV_keep (by kernel_rfl) ?hob ?hend
        case hI => exact IW.start HS.out.1 hP HS.out.2
        case hob =>
          simp only [List.take_succ_cons, List.take_zero, Obs3, and_true]
          refine ⟨?_, ?_, ?_, ?_, ?_⟩
          · intro k' x W sb hkn hI hs1 hs2 hd K hK0
            have hK := hK0.out
            simp only [setAll, Act.put, List.foldl_cons, List.foldl_nil, List.setIfInBounds_toArray, List.set_cons_succ, List.set_cons_zero] at hK ⊢
            have HK := Lib.hid hK
            clear hK hK0
            rw [if_pos (by rfl)]
            clear hd
            have c6 := hI.st.b2.cells
            have l6 := hI.st.b2.lt
            have c60 := c6 0
            have c61 := c6 1
            simp at c60 c61
            clear c6
            go_simp
            exact HK.out _ _ (hI.next (by decide)) RK.next (rfl)
          · intro k' x W sb hkn hI hs1 hs2 hd K hK0
            have hK := hK0.out
            simp only [setAll, Act.put, List.foldl_cons, List.foldl_nil, List.setIfInBounds_toArray, List.set_cons_succ, List.set_cons_zero] at hK ⊢
            have HK := Lib.hid hK
            clear hK hK0
            rw [if_pos (by rfl)]
            clear hd
            go_simp
            exact HK.out _ _ (hI.next (by decide)) RK.next (rfl)
          · intro k' x W sb hkn hI hs1 hs2 hd K hK0
            have hK := hK0.out
            simp only [setAll, Act.put, List.foldl_cons, List.foldl_nil, List.setIfInBounds_toArray, List.set_cons_succ, List.set_cons_zero] at hK ⊢
            have HK := Lib.hid hK
            clear hK hK0
            rw [if_pos (by rfl)]
            clear hd
            have c6 := hI.st.b1.cells
            have l6 := hI.st.b1.lt
            have c60 := c6 0
            have c61 := c6 1
            simp at c60 c61
            clear c6
            go_simp
            exact HK.out _ _ (hI.next (by decide)) RK.next (rfl)
          · intro k' x W sb hkn hI hs1 hs2 hd K hK0
            have hK := hK0.out
            simp only [setAll, Act.put, List.foldl_cons, List.foldl_nil, List.setIfInBounds_toArray, List.set_cons_succ, List.set_cons_zero] at hK ⊢
            have HK := Lib.hid hK
            clear hK hK0
            rw [if_pos (by rfl)]
            obtain e : x 38 = .agg #[.int .i64 ver, .slice A xs.length cap] := hd 0 _ rfl (by kernel_rfl)
            rw [e] at HK ⊢
            clear e
            clear hd
            obtain rfl : sb = false := hs2 rfl
            have cd := hI.st.b0.cells
            have fd := hI.st.b0.free
            have cd0 := cd 0
            have cd1 := cd 1
            simp at cd0 cd1
            clear cd
            go_simp
            exact HK.out undef _ (hI.put hP hD hL (by simp)) ⟨fun h => by simp, Keep.trans (Keep.set _ _ (.tail _ (.head _))) (Keep.set _ _ (.tail _ (.head _)))⟩ (rfl)
          · intro k' x W sb hkn hI hs1 hs2 hd K hK0
            have hK := hK0.out
            simp only [setAll, Act.put, List.foldl_cons, List.foldl_nil, List.setIfInBounds_toArray, List.set_cons_succ, List.set_cons_zero] at hK ⊢
            have HK := Lib.hid hK
            clear hK hK0
            rw [if_pos (by rfl)]
            obtain e : x 39 = .slice A8 xs.length c8 := hd 1 _ rfl (by kernel_rfl)
            rw [e] at HK ⊢
            clear e
            clear hd
            go_simp
            exact HK.out _ _ (hI.next (by decide)) RK.next (rfl)
        case hend =>
          intro x W sb hI hV
          obtain e1 : x 3 = .slice A8 xs.length c8 := hV 4 _ (by omega) rfl
          obtain e2 : x 40 = .agg #[.int .i64 ver, .slice A2 xs.length c2] := hV 2 _ (by omega) rfl
          obtain rfl : sb = true := hV 3 _ (by omega) rfl
          clear hV
          simp only [setAll, Act.put, List.foldl_cons, List.foldl_nil, List.setIfInBounds_toArray, List.set_cons_succ, List.set_cons_zero, List.drop_succ_cons, List.drop_zero]
          rw [e1, e2]
          clear e1 e2
          have cr := hI.st.b0.cells
          simp at cr
          have cr0 := cr 0
          have cr1 := cr 1
          simp at cr0 cr1
          clear cr
          have cd := hI.st.b3.cells
          have fd := hI.st.b3.free
          have ld := hI.st.b3.lt
          have cd0 := cd 0
          have cd1 := cd 1
          simp at cd0 cd1
          clear cd
          go_wp2_with fail
          refine bodyPost_ret (by simp [results, Try.results29, go_sem, cr0, cr1, cd0, cd1]; try rfl) rfl ?_
          have hk : Keep [w.heap.size + 1] W ((W.setCell ⟨w.heap.size + 1, 0, none⟩ (.int .i64 (ver))).setCell ⟨w.heap.size + 1, 1, none⟩ (.slice A2 xs.length c2)) := Keep.trans (Keep.set _ _ (.head _)) (Keep.set _ _ (.head _))
          exact ⟨ver, A, cap, xs, A8, c8, xs, ver, A2, c2, xs, rfl, (hI.pr.1.keep hk (by simp)).row, (hI.pr.2.2.keep hk (by simp)).row, (hI.pr.2.1.keep hk (by simp)).row, k1, k2, by first | exact hkw1 | exact Nat.zero_le _, by first | exact hkw2 | exact Nat.zero_le _, hb2.1, hb2.2, Below.setCell (Below.setCell hI.st.below (by simp) _) (by simp) _⟩

end Go.Proofs.Ytlcjepgmmbdkmaa
