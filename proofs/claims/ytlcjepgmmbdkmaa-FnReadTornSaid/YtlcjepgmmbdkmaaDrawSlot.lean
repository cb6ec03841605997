/-
  The drawing of a slot.
-/
import Derived.Test.YtlcjepgmmbdkmaaSl
namespace Go.Proofs.Ytlcjepgmmbdkmaa
open Go.RowKit
set_option linter.unusedSimpArgs false
set_option linter.unusedVariables false

theorem IntRow.set {w : World} {B : Nat} {A : Option Addr} {xs : List Int} {p : Addr} (h : IntRow w B A xs) (hn : ∀ b o, A = some ⟨b, o, none⟩ → b ≠ p.block) (u : Value) : IntRow (w.setCell p u) B A xs := fun h0 => by
  obtain ⟨b, off, e, hb, hc⟩ := h h0
  exact ⟨b, off, e, hb, fun j x hj => (World.cell?_of_block (a := ⟨b, off + j, none⟩) (Below.heap_setCell w p u b (hn b off e))).trans (hc j x hj)⟩
theorem OwnI.intRow {w : World} {base : Nat} {A : Option Addr} {xs : List Int} {len cap : Nat} (h : OwnI w base (.slice A len cap) xs) : IntRow w w.heap.size A xs := by
  obtain ⟨A', cap', e, _, _, h⟩ := OwnI.row h
  injection e with e1
  subst e1
  exact h
theorem St.head1_ {w wx : World} {g N b T : Nat} {L : List (Nat × TypeId × Array Value)} {cs : Array Value} (h : St w wx g N ((b, T, cs) :: L)) (hp : w.heap.size ≤ b) (hL : ∀ x ∈ L, x.1 ≠ b) (i : Nat) (u : Value) : St w (wx.setCell ⟨b, i, none⟩ u) g N ((b, T, cs.setIfInBounds i u) :: L) := by
  have k := h.pop.far (p := ⟨b, i, none⟩) (Ne.symm h.n0) hp hL u
  refine ⟨k.below, k.rd, fun b' T' cs' hm => ?_⟩
  rcases List.mem_cons.1 hm with e | hm
  · cases e; exact ⟨h.n0, h.b0.set_ i u⟩
  · exact k.blks b' T' cs' hm
theorem St.fin2 {w wx : World} {g N : Nat} {x : Nat × TypeId × Array Value} {D2 T : Nat} {cs : Array Value} {L : List (Nat × TypeId × Array Value)} (h : St w wx g N (x :: (D2, T, cs) :: L)) (hL : ∀ y ∈ L, y.1 ≠ D2) (hp : w.heap.size ≤ D2) (a b : Value) : St w ((wx.setCell ⟨D2, 0, none⟩ a).setCell ⟨D2, 1, none⟩ b) g N L :=
  (h.pop.pop.far (p := ⟨D2, 0, none⟩) (Ne.symm h.pop.n0) hp hL a).far (p := ⟨D2, 1, none⟩) (Ne.symm h.pop.n0) hp hL b
/-- What the operations of the region leave that appends a word. -/
def VApp (g D2 D3 base : Nat) (L : List (Nat × TypeId × Array Value)) (v : Value) (xs : List Int) (i : Nat) (sw : Bool) (vs : List Value) (w : World) : Prop := match i, vs with
  | 0, [x] => x = .pointer (some ⟨D3, 1, none⟩)
  | 1, [x] => x = v
  | 2, [x] => x = .pointer (some ⟨g, 0, none⟩)
  | 3, [x] => ∃ u, x = .int .i64 u
  | 4, [x] => ∃ b u, x = .slice (some ⟨b, 0, none⟩) 1 1 ∧ b ≠ g ∧ v.ownBlock ≠ some b ∧ Blk w b 3 #[.int .i64 u]
  | 5, [x] => sw = true ∧ Off x g D2 D3 L ∧ ∃ u, OwnI w base x (xs ++ [u])
  | 6, [x] => x = .pointer (some ⟨D3, 1, none⟩)
  | _, _ => True
def dpA (i : Nat) : List Tmp := match i with
  | 0 => [18] | 1 => [19] | 2 => [20] | 3 => [21] | 4 => [22] | 5 => [23] | 6 => [24] | _ => []
def RApp (g : Nat) (v : Value) (sw sw' : Bool) (w w' : World) : Prop := (sw = true → sw' = true) ∧ (Goes g w w' ∨ (sw = false ∧ w.grownBy w' v.ownBlock))
theorem VApp_keep {g D2 D3 base : Nat} {L : List (Nat × TypeId × Array Value)} {v : Value} {xs : List Int} : ∀ (i : Nat) (sw sw' : Bool) (vs : List Value) (w w' : World), RApp g v sw sw' w w' → VApp g D2 D3 base L v xs i sw vs w → VApp g D2 D3 base L v xs i sw' vs w'
  | 0, _, _, [_], _, _, _, h => h
  | 1, _, _, [_], _, _, _, h => h
  | 2, _, _, [_], _, _, _, h => h
  | 3, _, _, [_], _, _, _, h => h
  | 4, _, _, [_], _, _, hr, ⟨b, u, e, hg, hn, hB⟩ => by
    refine ⟨b, u, e, hg, hn, ?_⟩
    rcases hr.2 with hr | ⟨_, hr⟩
    · exact hB.goes hr hg
    · exact (hr.block b hB.lt (fun e => hn e.symm)).trans hB
  | 5, _, _, [_], _, _, hr, ⟨hs, ho, u, h⟩ => by
    refine ⟨hr.1 hs, ho, u, ?_⟩
    rcases hr.2 with hr | ⟨h0, _⟩
    · exact h.goes hr ho.g
    · rw [hs] at h0; cases h0
  | 6, _, _, [_], _, _, _, h => h
  | _ + 7, _, _, _, _, _, _, h => h
  | 0, _, _, [], _, _, _, h => h
  | 1, _, _, [], _, _, _, h => h
  | 2, _, _, [], _, _, _, h => h
  | 3, _, _, [], _, _, _, h => h
  | 4, _, _, [], _, _, _, h => h
  | 5, _, _, [], _, _, _, h => h
  | 6, _, _, [], _, _, _, h => h
  | 0, _, _, _ :: _ :: _, _, _, _, h => h
  | 1, _, _, _ :: _ :: _, _, _, _, h => h
  | 2, _, _, _ :: _ :: _, _, _, _, h => h
  | 3, _, _, _ :: _ :: _, _, _, _, h => h
  | 4, _, _, _ :: _ :: _, _, _, _, h => h
  | 5, _, _, _ :: _ :: _, _, _, _, h => h
  | 6, _, _, _ :: _ :: _, _, _, _, h => h
/-- What holds throughout. -/
def IApp (w : World) (g N base D2 D3 : Nat) (L : List (Nat × TypeId × Array Value)) (ver : Int) (v : Value) (xs : List Int) (k : Nat) (sw : Bool) (W : World) : Prop :=
  St w W g (N + k) ((D3, 26, #[.int .i64 ver, v]) :: (D2, 26, #[.int .i64 0, .slice none 0 0]) :: L) ∧ base ≤ W.heap.size ∧ (sw = false → OwnI W base v xs)
/-- What holds between two rounds. -/
def SlRel (w : World) (g N base D2 D3 : Nat) (L : List (Nat × TypeId × Array Value)) (ver n : Int) (c5 : Value) (wr : World) : Prop :=
  ∃ (k : Nat) (v : Value) (xs : List Int), (k : Int) ≤ n ∧ c5 = .int .i64 k ∧ xs.length = k ∧ Sl w wr g (N + 10 * k) base D2 D3 L ver v xs
/-- What the drawing of a slot leaves. -/
def DrawnSlot (w : World) (g N : Nat) (L : List (Nat × TypeId × Array Value)) (e : Ending) (w' : World) : Prop :=
  ∃ ver A cap, ∃ xs : List Int, e = .returned (.agg #[.int .i64 ver, .slice A xs.length cap]) ∧ St w w' g (N + 100) L ∧ IntRow w' w'.heap.size A xs ∧ xs.length ≤ cap ∧ cap ≤ 9223372036854775807 ∧ ∀ b o, A = some ⟨b, o, none⟩ → ∀ y ∈ L, y.1 ≠ b
/-- .. with the row apart from the reader, too. -/
def DrawnSlot2 (w : World) (g N : Nat) (L : List (Nat × TypeId × Array Value)) (e : Ending) (w' : World) : Prop :=
  ∃ ver A cap, ∃ xs : List Int, e = .returned (.agg #[.int .i64 ver, .slice A xs.length cap]) ∧ St w w' g (N + 100) L ∧ IntRow w' w'.heap.size A xs ∧ xs.length ≤ cap ∧ cap ≤ 9223372036854775807 ∧ xs.length ≤ 6 ∧ ∀ b o, A = some ⟨b, o, none⟩ → b ≠ g ∧ ∀ y ∈ L, y.1 ≠ b

set_option maxRecDepth 100000 in
set_option maxHeartbeats 4000000 in
theorem l91Slot_any2 (w wx : World) (g N : Nat) (L : List (Nat × TypeId × Array Value)) (h : St w wx g N L) (hN : N ≤ 800000000000) :
    Calls Try.prog 44 #[.pointer (some ⟨g, 0, none⟩)] wx (DrawnSlot2 w g N L) := by
  obtain ⟨i0, hi, hz0, hz1, hz2⟩ := ints_parts_ intInfo_
  have HI := Lib.hid (And.intro hi (And.intro hz0 (And.intro hz1 hz2)))
  have hLl : ∀ x ∈ L, x.1 < wx.heap.size := fun x hx => (h.blks x.1 x.2.1 x.2.2 hx).2.lt
  have S0 := h.push 26 #[.int .i64 0, .slice none 0 0] rfl
  have hwx := h.below.size
  have hgl := h.rd.lt
  clear h hi hz0 hz1 hz2
  generalize hD2 : wx.heap.size = D2 at *
  generalize hW0 : wx.alloc (.cells #[.int .i64 0, .slice none 0 0] 26) = wa at *
  have hwa : wa.heap.size = D2 + 1 := by rw [← hW0, ← hD2]; simp
  go_enter Try.func44, Try.ntmps44
  go_wp2_with fail
  clear hW0 hD2
  refine (pick1 S0 9 (by omega) (by omega) (by omega)).mono ?_
  rintro e w1 ⟨ver, rfl, p1, q1, S1, s1, s2, -⟩
  clear S0
  have hw1 : D2 < w1.heap.size := by omega
  clear s1 s2 hwa q1 p1
  go_wp2_with fail
  have S2 := (S1.alloc (.cells #[] 3)).push (b := w1.heap.size + 1) 26 #[.int .i64 ver, .slice (some ⟨w1.heap.size, 0, none⟩) 0 0] (by simp)
  have SL2 : Sl w ((w1.alloc (.cells #[] 3)).alloc (.cells #[.int .i64 ver, .slice (some ⟨w1.heap.size, 0, none⟩) 0 0] 26)) g (N + 1) w1.heap.size D2 (w1.heap.size + 1) L ver (.slice (some ⟨w1.heap.size, 0, none⟩) 0 0) [] :=
    ⟨S2, World.ownsRow.alloc (World.ownsRow_lit w1 #[] 0 (Nat.le_refl _) (Nat.zero_le _) rfl) _, fun k hk => by
      simp [Value.ownBlock] at hk
      subst hk
      exact ⟨by omega, by omega, by omega, fun x hx => by have := hLl x hx; omega⟩, by have := S1.below.size; omega, by simp; omega⟩
  clear S1 S2
  refine (pickL SL2 6 (by omega) (by omega) (by omega)).mono ?_
  rintro e w2 ⟨n0, rfl, p2, q2, SL3, -⟩
  clear SL2
  obtain ⟨base, hbase⟩ : ∃ base, base = w1.heap.size := ⟨_, rfl⟩
  obtain ⟨D3, hD3⟩ : ∃ D3, D3 = w1.heap.size + 1 := ⟨_, rfl⟩
  have HD : Hid (D2 ≠ D3 ∧ (∀ x ∈ L, x.1 ≠ D3) ∧ (∀ x ∈ L, x.1 ≠ D2) ∧ w.heap.size ≤ D3 ∧ w.heap.size ≤ D2 ∧ g ≠ D3 ∧ g ≠ D2) := ⟨by omega, fun x hx => by have := hLl x hx; omega, fun x hx => by have := hLl x hx; omega, by omega, by omega, by omega, by omega⟩
  rw [← hD3, ← hbase] at SL3
  rw [← hD3, ← hbase]
  have HDR : ∀ T cs, ∀ y ∈ ((D2, T, cs) :: L : List (Nat × TypeId × Array Value)), y.1 ≠ D3 := fun T cs y hy => by
    rcases List.mem_cons.1 hy with e | hy
    · cases e; exact HD.out.1
    · exact HD.out.2.1 y hy
  have HDL : ∀ _ : Unit, ∀ y ∈ L, y.1 ≠ D2 := fun _ => HD.out.2.2.1
  clear hD3 hbase hw1 hLl hwx hgl
  have u2 : n0 ≤ 5 := by omega
  clear q2
  go_wp2_with fail
  go_loopw [5] (fun c5 wr => SlRel w g (N + 1 + 1) base D2 D3 L ver (1 + n0) c5 wr) (fun c _ => (1 + n0 - intOf c).toNat)
  case atStart => exact ⟨0, _, [], by omega, rfl, rfl, SL3⟩
  case round =>
    clear SL3
    obtain ⟨k, v, xs, hk, rfl, hxl, SL4⟩ := hrel
    by_cases hlt : (k : Int) < 1 + n0
    · have HXL := Lib.hid hxl
      have hk6 : k ≤ 6 := by omega
      clear hxl
      go_upto_region 6 with fail
      have HS := Lib.hid (And.intro SL4.off SL4.wb)
      refine wp_region_facts3 7 [18, 19, 20, 21, 22, 23, 24] dpA 5 (VApp g D2 D3 base L v xs) (IApp w g (N + 1 + 1 + 10 * k) base D2 D3 L ver v xs) (RApp g v) (by kernel_rfl) (by kernel_rfl) (by rfl) ?hI VApp_keep (by kernel_rfl) ?hob ?hend
      case hI => exact ⟨SL4.st.drew, SL4.bs, fun _ => SL4.own⟩
      case hob =>
        simp only [List.take_succ_cons, List.take_zero, Obs3, and_true]
        refine ⟨?_, ?_, ?_, ?_, ?_, ?_, ?_⟩
        · intro k' x W sb hkn hI hs1 hs2 hd K hK0
          have hK := hK0.out
          simp only [setAll, Act.put, List.foldl_cons, List.foldl_nil, List.setIfInBounds_toArray, List.set_cons_succ, List.set_cons_zero] at hK ⊢
          have HK := Lib.hid hK
          clear hK hK0
          rw [if_pos (by rfl)]
          clear hd
          go_simp
          exact HK.out _ _ ⟨hI.1.le (by omega), hI.2.1, fun h => hI.2.2 (by simpa using h)⟩ ⟨fun h => by simpa using h, .inl (Goes.refl _ _)⟩ (rfl)
        · intro k' x W sb hkn hI hs1 hs2 hd K hK0
          have hK := hK0.out
          simp only [setAll, Act.put, List.foldl_cons, List.foldl_nil, List.setIfInBounds_toArray, List.set_cons_succ, List.set_cons_zero] at hK ⊢
          have HK := Lib.hid hK
          clear hK hK0
          rw [if_pos (by rfl)]
          obtain e18 : x 18 = .pointer (some ⟨D3, 1, none⟩) := hd 0 _ rfl (by kernel_rfl)
          rw [e18] at HK ⊢
          clear e18
          clear hd
          have cx := hI.1.b0.cells
          go_simp
          exact HK.out _ _ ⟨hI.1.le (by omega), hI.2.1, fun h => hI.2.2 (by simpa using h)⟩ ⟨fun h => by simpa using h, .inl (Goes.refl _ _)⟩ (rfl)
        · intro k' x W sb hkn hI hs1 hs2 hd K hK0
          have hK := hK0.out
          simp only [setAll, Act.put, List.foldl_cons, List.foldl_nil, List.setIfInBounds_toArray, List.set_cons_succ, List.set_cons_zero] at hK ⊢
          have HK := Lib.hid hK
          clear hK hK0
          rw [if_pos (by rfl)]
          clear hd
          go_simp
          exact HK.out _ _ ⟨hI.1.le (by omega), hI.2.1, fun h => hI.2.2 (by simpa using h)⟩ ⟨fun h => by simpa using h, .inl (Goes.refl _ _)⟩ (rfl)
        · intro k' x W sb hkn hI hs1 hs2 hd K hK0
          have hK := hK0.out
          simp only [setAll, Act.put, List.foldl_cons, List.foldl_nil, List.setIfInBounds_toArray, List.set_cons_succ, List.set_cons_zero] at hK ⊢
          have HK := Lib.hid hK
          clear hK hK0
          rw [if_pos (by rfl)]
          obtain e20 : x 20 = .pointer (some ⟨g, 0, none⟩) := hd 2 _ rfl (by kernel_rfl)
          rw [e20] at HK ⊢
          clear e20
          clear hd
          go_simp
          refine (pick_any w.heap.size g _ 250 W hI.1.rd (by omega) (by omega) (by omega)).mono ?_
          rintro e W1 ⟨u, rfl, hv, hr, hg, hz⟩
          exact HK.out _ _ ⟨(hI.1.goes hg hr).le (by omega), Nat.le_trans hI.2.1 hg.size, fun h => (hI.2.2 (by simpa using h)).goes hg HS.out.1.g⟩ ⟨fun h => by simpa using h, .inl hg⟩ (⟨u, rfl⟩)
        · intro k' x W sb hkn hI hs1 hs2 hd K hK0
          have hK := hK0.out
          simp only [setAll, Act.put, List.foldl_cons, List.foldl_nil, List.setIfInBounds_toArray, List.set_cons_succ, List.set_cons_zero] at hK ⊢
          have HK := Lib.hid hK
          clear hK hK0
          rw [if_pos (by rfl)]
          obtain ⟨u, e21⟩ : ∃ u, x 21 = .int .i64 u := hd 3 _ rfl (by kernel_rfl)
          rw [e21] at HK ⊢
          clear e21
          clear hd
          have hlt4 : sb = false → ∀ k, v.ownBlock = some k → k < W.heap.size := fun h k hk => (World.ownsRow.lt (hI.2.2 h) k hk).2
          have hsf : sb = false := hs1 (by kernel_rfl)
          go_simp
          refine HK.out _ _ ⟨(hI.1.alloc _).le (by omega), by have := hI.2.1; simp; omega, fun h => World.ownsRow.alloc (hI.2.2 (by simpa using h)) _⟩ ⟨fun h => by simpa using h, .inl ((Goes.refl g W).alloc _)⟩ (⟨_, u, rfl, ?_, ?_, Blk.new _ _ _ rfl⟩)
          · have := hI.1.rd.lt; omega
          · intro e; have := hlt4 hsf _ e; omega
        · intro k' x W sb hkn hI hs1 hs2 hd K hK0
          have hK := hK0.out
          simp only [setAll, Act.put, List.foldl_cons, List.foldl_nil, List.setIfInBounds_toArray, List.set_cons_succ, List.set_cons_zero] at hK ⊢
          have HK := Lib.hid hK
          clear hK hK0
          rw [if_pos (by rfl)]
          obtain e19 : x 19 = v := hd 1 _ rfl (by kernel_rfl)
          obtain ⟨b, u, e22, hbg, hbn, hB⟩ : ∃ b u, x 22 = .slice (some ⟨b, 0, none⟩) 1 1 ∧ b ≠ g ∧ v.ownBlock ≠ some b ∧ Blk W b 3 #[.int .i64 u] := hd 4 _ rfl (by kernel_rfl)
          rw [e19, e22] at HK ⊢
          clear e19 e22
          clear hd
          have hsf : sb = false := hs2 rfl
          have hown := hI.2.2 hsf
          refine wp_append_own (.tmp 19) (.tmp 22) (by rfl) base i0 HI.out.1 HI.out.2.1 HI.out.2.2.1 HI.out.2.2.2 v xs (by rfl) hown b u (by rfl) hB (by rw [HXL.out]; omega) hI.2.1 ?_
          intro v' w' hown' hgrow hat
          refine HK.out v' w' ⟨(st_grow hI.1 hown HS.out.1 HS.out.2 hgrow).le (by omega), Nat.le_trans hI.2.1 hgrow.size, fun h => by simp at h⟩ ⟨fun h => by simp [h], .inr ⟨hsf, hgrow⟩⟩ (⟨by simp, ?_, u, hown'⟩)
          intro k hk
          rcases hat with hat | hat
          · exact HS.out.1 k (by rw [← hat]; exact hk)
          · have hkk : k = W.heap.size := by have := hk.symm.trans hat; simpa using this
            subst hkk
            have d3 := hI.1.b0.lt; have d2 := hI.1.b1.lt; have gl := hI.1.rd.lt
            exact ⟨by omega, by omega, by omega, fun y hy => by have := (hI.1.blks y.1 y.2.1 y.2.2 (.tail _ (.tail _ hy))).2.lt; omega⟩
        · intro k' x W sb hkn hI hs1 hs2 hd K hK0
          have hK := hK0.out
          simp only [setAll, Act.put, List.foldl_cons, List.foldl_nil, List.setIfInBounds_toArray, List.set_cons_succ, List.set_cons_zero] at hK ⊢
          have HK := Lib.hid hK
          clear hK hK0
          rw [if_pos (by rfl)]
          clear hd
          go_simp
          exact HK.out _ _ ⟨hI.1.le (by omega), hI.2.1, fun h => hI.2.2 (by simpa using h)⟩ ⟨fun h => by simpa using h, .inl (Goes.refl _ _)⟩ (rfl)
      case hend =>
        intro x W sb hI hV
        obtain e24 : x 24 = .pointer (some ⟨D3, 1, none⟩) := hV 6 _ (by omega) rfl
        obtain ⟨-, hoff, u, hown⟩ : sb = true ∧ Off (x 23) g D2 D3 L ∧ ∃ u, OwnI W base (x 23) (xs ++ [u]) := hV 5 _ (by omega) rfl
        clear hV
        simp only [setAll, Act.put, List.foldl_cons, List.foldl_nil, List.setIfInBounds_toArray, List.set_cons_succ, List.set_cons_zero, List.drop_succ_cons, List.drop_zero]
        rw [e24]
        clear e24
        obtain ⟨v', h23⟩ : ∃ v', v' = x 23 := ⟨_, rfl⟩
        rw [← h23] at hoff hown ⊢
        clear h23
        obtain ⟨A2, cap2, hv2, -, -, -⟩ := OwnI.row hown
        rw [show (xs ++ [u]).length = xs.length + 1 by simp] at hv2
        subst hv2
        have c3 := hI.1.b0.cells; have f3 := hI.1.b0.free; have l3 := hI.1.b0.lt
        have hk1 : IntKind.i64.wrap ((k : Int) + 1) = ((k + 1 : Nat) : Int) := by rw [IntWalk.i64_in _ (by omega)]; omega
        have hL3 : ∀ y ∈ ((D2, 26, #[.int .i64 0, .slice none 0 0]) :: L : List (Nat × TypeId × Array Value)), y.1 ≠ D3 := fun y hy => by
          rcases List.mem_cons.1 hy with e | hy
          · cases e; exact HD.out.1
          · exact HD.out.2.1 y hy
        have hst : St w (W.setCell ⟨D3, 1, none⟩ (.slice A2 (xs.length + 1) cap2)) g (N + 1 + 1 + 10 * (k + 1)) ((D3, 26, #[.int .i64 ver, (.slice A2 (xs.length + 1) cap2)]) :: (D2, 26, #[.int .i64 0, .slice none 0 0]) :: L) := by
          have k2 := (hI.1.le (M := N + 1 + 1 + 10 * (k + 1)) (by omega)).pop.far (p := ⟨D3, 1, none⟩) (Ne.symm hI.1.n0) HD.out.2.2.2.1 hL3 (.slice A2 (xs.length + 1) cap2)
          refine ⟨k2.below, k2.rd, fun b' T' cs' hm => ?_⟩
          rcases List.mem_cons.1 hm with e | hm
          · cases e; exact ⟨hI.1.n0, by simpa using hI.1.b0.set_ 1 (.slice A2 (xs.length + 1) cap2)⟩
          · exact k2.blks b' T' cs' hm
        have hown2 : OwnI (W.setCell ⟨D3, 1, none⟩ (.slice A2 (xs.length + 1) cap2)) base (.slice A2 (xs.length + 1) cap2) (xs ++ [u]) := hown.goes (Goes.setCell (p := ⟨D3, 1, none⟩) (Goes.refl D3 W) (.inl rfl) (.slice A2 (xs.length + 1) cap2)) (fun e => (hoff _ e).2.1 rfl)
        have HF := Lib.hid (show Sl w (W.setCell ⟨D3, 1, none⟩ (.slice A2 (xs.length + 1) cap2)) g (N + 1 + 1 + 10 * (k + 1)) base D2 D3 L ver (.slice A2 (xs.length + 1) cap2) (xs ++ [u]) from ⟨hst, hown2, hoff, HS.out.2, by have := hI.2.1; simpa using this⟩)
        clear hst hown2 hown hoff hI SL4
        go_wp2_with fail
        go_roundw
        case rel => first | exact ⟨k + 1, (.slice A2 (xs.length + 1) cap2), xs ++ [u], by omega, by go_num, by simp [HXL.out], HF.out⟩ | ((repeat apply Exists.intro); exact ⟨⟨k + 1, (.slice A2 (xs.length + 1) cap2), xs ++ [u], by omega, by go_num, by simp [HXL.out], HF.out⟩, rfl⟩)
        case measure => simp [intOf]; omega
    · have hkn : (k : Int) = 1 + n0 := by omega
      have hpos : 0 < xs.length := by omega
      have hxs6 : xs.length ≤ 6 := by omega
      obtain ⟨A, cap, rfl, k1, k2, -⟩ := OwnI.row SL4.own
      unfold maxLen at k2
      have SL4' := SL4.le (M := N + 62) (by omega)
      clear SL4 hk hxl
      go_wp2_with fail
      refine (pickL SL4' 30 (by omega) (by omega) (by omega)).mono ?_
      rintro e w4 ⟨v4, rfl, p4, q4, SL5, -⟩
      clear SL4'
      by_cases hv0 : v4 = 0
      · subst hv0
        go_wp2_with fail
        have SL6 := SL5.alloc (.cells #[.int .i64 (-1), .int .i64 999999, .int .i64 999998] 3)
        refine (pickL SL6 3 (by omega) (by omega) (by omega)).mono ?_
        rintro e w5 ⟨v5, rfl, p5, q5, SL7, hg5⟩
        have hgl := SL5.st.rd.lt
        have cl := ((Blk.new w4 3 #[.int .i64 (-1), .int .i64 999999, .int .i64 999998] rfl).goes hg5 (by omega)).cells
        clear SL6 SL5 hg5
        have c3 := SL7.st.b0.cells; have f3 := SL7.st.b0.free; have l3 := SL7.st.b0.lt
        have c2 := SL7.st.b1.cells; have f2 := SL7.st.b1.free; have l2 := SL7.st.b1.lt
        have hne := HD.out.1
        have hv5 : v5 = 0 ∨ v5 = 1 ∨ v5 = 2 := by omega
        rcases hv5 with rfl | rfl | rfl
        · go_wp2_with fail
          refine bodyPost_ret (by simp [results, Try.results44, go_sem, c2, l2]; try rfl) rfl ?_
          exact ⟨(-1), A, cap, xs, rfl, ((SL7.st.head1_ HD.out.2.2.2.1 (HDR _ _) 0 (.int .i64 (-1))).fin2 (HDL ()) HD.out.2.2.2.2.1 _ _).le (by omega), (((OwnI.intRow SL7.own).set (fun b o e => (SL7.off b (by rw [e]; rfl)).2.1) _).set (fun b o e => (SL7.off b (by rw [e]; rfl)).2.2.1) _).set (fun b o e => (SL7.off b (by rw [e]; rfl)).2.2.1) _ |>.more (by simp), k1, by omega, hxs6, fun b o e => ⟨(SL7.off b (by rw [e]; rfl)).1, (SL7.off b (by rw [e]; rfl)).2.2.2⟩⟩
        · go_wp2_with fail
          refine bodyPost_ret (by simp [results, Try.results44, go_sem, c2, l2]; try rfl) rfl ?_
          exact ⟨999999, A, cap, xs, rfl, ((SL7.st.head1_ HD.out.2.2.2.1 (HDR _ _) 0 (.int .i64 999999)).fin2 (HDL ()) HD.out.2.2.2.2.1 _ _).le (by omega), (((OwnI.intRow SL7.own).set (fun b o e => (SL7.off b (by rw [e]; rfl)).2.1) _).set (fun b o e => (SL7.off b (by rw [e]; rfl)).2.2.1) _).set (fun b o e => (SL7.off b (by rw [e]; rfl)).2.2.1) _ |>.more (by simp), k1, by omega, hxs6, fun b o e => ⟨(SL7.off b (by rw [e]; rfl)).1, (SL7.off b (by rw [e]; rfl)).2.2.2⟩⟩
        · go_wp2_with fail
          refine bodyPost_ret (by simp [results, Try.results44, go_sem, c2, l2]; try rfl) rfl ?_
          exact ⟨999998, A, cap, xs, rfl, ((SL7.st.head1_ HD.out.2.2.2.1 (HDR _ _) 0 (.int .i64 999998)).fin2 (HDL ()) HD.out.2.2.2.2.1 _ _).le (by omega), (((OwnI.intRow SL7.own).set (fun b o e => (SL7.off b (by rw [e]; rfl)).2.1) _).set (fun b o e => (SL7.off b (by rw [e]; rfl)).2.2.1) _).set (fun b o e => (SL7.off b (by rw [e]; rfl)).2.2.1) _ |>.more (by simp), k1, by omega, hxs6, fun b o e => ⟨(SL7.off b (by rw [e]; rfl)).1, (SL7.off b (by rw [e]; rfl)).2.2.2⟩⟩
      by_cases hv1 : v4 = 1
      · subst hv1
        have SL6 := SL5.alloc (.cells #[] 3)
        have c3 := SL5.st.b0.cells; have f3 := SL5.st.b0.free; have l3 := SL5.st.b0.lt
        have c2 := SL5.st.b1.cells; have f2 := SL5.st.b1.free; have l2 := SL5.st.b1.lt
        have hne := HD.out.1
        go_wp2_with fail
        refine bodyPost_ret (by simp [results, Try.results44, go_sem, c2, l2]; try rfl) rfl ?_
        exact ⟨ver, some ⟨w4.heap.size, 0, none⟩, 0, [], rfl, (((SL5.st.head1_ HD.out.2.2.2.1 (HDR _ _) 1 (.slice (some ⟨w4.heap.size, 0, none⟩) 0 0)).fin2 (HDL ()) HD.out.2.2.2.2.1 _ _).alloc _).le (by omega), IntRow.nil _ _ _, Nat.le_refl _, Nat.zero_le _, Nat.zero_le _, fun b o e => ⟨by injection e with e; injection e with e1 _; have := SL5.st.rd.lt; omega, fun y hy => by injection e with e; injection e with e1 _; have := (SL5.st.blks y.1 y.2.1 y.2.2 (.tail _ (.tail _ hy))).2.lt; omega⟩⟩
      have c3 := SL5.st.b0.cells; have f3 := SL5.st.b0.free; have l3 := SL5.st.b0.lt
      have c2 := SL5.st.b1.cells; have f2 := SL5.st.b1.free; have l2 := SL5.st.b1.lt
      have hne := HD.out.1
      by_cases hv2 : v4 = 2
      · subst hv2
        obtain ⟨b, cap9, e9, hb9, hbl⟩ := World.ownsRow.form SL5.own hpos
        injection e9 with e1 _ e3
        subst e1
        subst e3
        obtain ⟨o1, o2, o3, o4⟩ := SL5.off b rfl
        have hst := World.ownsRow.stored SL5.own 0 (.int .i64 (-1))
        have hc0 := World.ownsRow.cellAt SL5.own 0 (by omega)
        obtain ⟨y, hy⟩ : ∃ y, (xs.map iv)[0]? = some y := ⟨_, List.getElem?_eq_getElem (by simpa using hpos)⟩
        rw [hy] at hc0
        have hf0 := World.ownsRow.frozenAt SL5.own 0
        have hown : OwnI (w4.setCell ⟨b, 0, none⟩ (.int .i64 (-1))) base (.slice (some ⟨b, 0, none⟩) (xs.set 0 (-1)).length cap) (xs.set 0 (-1)) := by
          have h1 := hst.1
          unfold OwnI
          rw [List.map_set]
          simpa [iv] using h1
        have hwb := SL5.wb
        have hlenset : (xs.set 0 (-1)).length = xs.length := by simp
        have hpos' : (0 : Int) < (xs.length : Int) := by omega
        have hst5 := SL5.st.far (p := ⟨b, 0, none⟩) (Ne.symm o1) (by show w.heap.size ≤ b; omega) (fun z hz => by
          simp only [List.mem_cons] at hz
          rcases hz with rfl | rfl | hz
          · exact Ne.symm o2
          · exact Ne.symm o3
          · exact o4 z hz) (.int .i64 (-1))
        have HF := Lib.hid (And.intro hst5 (And.intro hown hlenset))
        clear hst hst5 hown hlenset hy
        go_wp2_with fail
        refine bodyPost_ret (by simp [results, Try.results44, go_sem, c2, l2]; try rfl) rfl ?_
        refine ⟨ver, some ⟨b, 0, none⟩, cap, xs.set 0 (-1), by rw [HF.out.2.2], (HF.out.1.fin2 (HDL ()) HD.out.2.2.2.2.1 _ _).le (by omega), (((OwnI.intRow HF.out.2.1).set (fun b' o' e' => ?_) _).set (fun b' o' e' => ?_) _).more (by simp), by rw [HF.out.2.2]; exact k1, by omega, by rw [HF.out.2.2]; exact hxs6, fun b' o' e' => by injection e' with e'; injection e' with e1 _; subst e1; exact ⟨o1, o4⟩⟩
        · injection e' with e'; injection e' with e1 _; subst e1; exact o3
        · injection e' with e'; injection e' with e1 _; subst e1; exact o3
      go_wp2_with fail
      refine bodyPost_ret (by simp [results, Try.results44, go_sem, c2, l2]; try rfl) rfl ?_
      exact ⟨ver, A, cap, xs, rfl, (SL5.st.fin2 (HDL ()) HD.out.2.2.2.2.1 _ _).le (by omega), ((OwnI.intRow SL5.own).set (fun b o e => (SL5.off b (by rw [e]; rfl)).2.2.1) _).set (fun b o e => (SL5.off b (by rw [e]; rfl)).2.2.1) _ |>.more (by simp), k1, by omega, hxs6, fun b o e => ⟨(SL5.off b (by rw [e]; rfl)).1, (SL5.off b (by rw [e]; rfl)).2.2.2⟩⟩

theorem l91Slot_any (w wx : World) (g N : Nat) (L : List (Nat × TypeId × Array Value)) (h : St w wx g N L) (hN : N ≤ 800000000000) :
    Calls Try.prog 44 #[.pointer (some ⟨g, 0, none⟩)] wx (DrawnSlot w g N L) :=
  (l91Slot_any2 w wx g N L h hN).mono fun _ _ ⟨ver, A, cap, xs, he, hs, hr, h1, h2, _, h3⟩ => ⟨ver, A, cap, xs, he, hs, hr, h1, h2, fun b o e => (h3 b o e).2⟩

end Go.Proofs.Ytlcjepgmmbdkmaa
