/-
  The drawing of a list of packets.
-/
import Derived.Test.YtjdpagjcbhkonaaSo
namespace Go.Proofs.Ytjdpagjcbhkonaa
open Go.RowKit
set_option linter.unusedSimpArgs false
set_option linter.unusedVariables false

theorem pkInfo_ : (Try.prog.info? 31).map (fun i => (i.zero, i.size, i.bytes)) = some (some (.agg #[.int .i64 0, .int .i64 0, .int .i64 0, .int .i64 0, .bool false, .bool false]), 6, 40) := by kernel_rfl

/-- Packets whose parts are small. -/
def Small (ps : List Pk) : Prop := ∀ p ∈ ps, (-1000 ≤ p.wd ∧ p.wd ≤ 1000) ∧ (-2000 ≤ p.tm ∧ p.tm ≤ 2000) ∧ (0 ≤ p.ly ∧ p.ly ≤ 2) ∧ (1 ≤ p.sz ∧ p.sz ≤ 250)
theorem Small.nil : Small [] := fun _ h => by cases h
theorem Small.snoc {ps : List Pk} {p : Pk} (h : Small ps) (hp : (-1000 ≤ p.wd ∧ p.wd ≤ 1000) ∧ (-2000 ≤ p.tm ∧ p.tm ≤ 2000) ∧ (0 ≤ p.ly ∧ p.ly ≤ 2) ∧ (1 ≤ p.sz ∧ p.sz ≤ 250)) : Small (ps ++ [p]) := fun q hq => by
  rcases List.mem_append.1 hq with hq | hq
  · exact h q hq
  · simp at hq; subst hq; exact hp
theorem Small.set {ps : List Pk} {p : Pk} {k : Nat} (h : Small ps) (hp : (-1000 ≤ p.wd ∧ p.wd ≤ 1000) ∧ (-2000 ≤ p.tm ∧ p.tm ≤ 2000) ∧ (0 ≤ p.ly ∧ p.ly ≤ 2) ∧ (1 ≤ p.sz ∧ p.sz ≤ 250)) : Small (ps.set k p) := fun q hq => by
  rcases List.mem_or_eq_of_mem_set hq with hq | rfl
  · exact h q hq
  · exact hp
/-- .. in the rounds of the drawing: a little narrower. -/
def Tiny (ps : List Pk) (k : Nat) : Prop := ∀ p ∈ ps, (0 ≤ p.wd ∧ p.wd ≤ 20 + 4 * (k : Int)) ∧ (0 ≤ p.tm ∧ p.tm ≤ 300 + 30 * (k : Int)) ∧ (0 ≤ p.ly ∧ p.ly ≤ 2) ∧ (1 ≤ p.sz ∧ p.sz ≤ 250)
theorem Tiny.nil : Tiny [] 0 := fun _ h => by cases h
theorem Tiny.snoc {ps : List Pk} {k : Nat} {p : Pk} (h : Tiny ps k) (hp : (0 ≤ p.wd ∧ p.wd ≤ 20 + 4 * (k : Int)) ∧ (0 ≤ p.tm ∧ p.tm ≤ 300 + 30 * (k : Int)) ∧ (0 ≤ p.ly ∧ p.ly ≤ 2) ∧ (1 ≤ p.sz ∧ p.sz ≤ 250)) : Tiny (ps ++ [p]) (k + 1) := fun q hq => by
  rcases List.mem_append.1 hq with hq | hq
  · have := h q hq; omega
  · simp at hq; subst hq; omega
theorem Tiny.small {ps : List Pk} {k : Nat} (h : Tiny ps k) (hk : k ≤ 20) : Small ps := fun q hq => by
  have := h q hq; omega

/-- What the drawing of a list leaves. -/
def DrawnPks (w : World) (g N : Nat) (L : List (Nat × TypeId × Array Value)) (base : Nat) (most : Int) (e : Ending) (w' : World) : Prop :=
  ∃ v ps, e = .returned v ∧ So w w' g (N + 300) L base v ps ∧ (ps.length : Int) ≤ most ∧ Small ps

/-- What holds between two rounds. -/
def PksRel (w : World) (g N : Nat) (L : List (Nat × TypeId × Array Value)) (base : Nat) (n : Int) (v c7 c8 c9 c10 c11 : Value) (wr : World) : Prop :=
  ∃ (k : Nat) (ps : List Pk) (wide time : Int) (bg ky : Bool), (k : Int) ≤ n ∧ c11 = .int .i64 k ∧ ps.length = k ∧ c7 = .int .i64 wide ∧ c8 = .int .i64 time ∧ c9 = .bool bg ∧ c10 = .bool ky ∧
    (0 ≤ wide ∧ wide ≤ 20 + 4 * (k : Int)) ∧ (0 ≤ time ∧ time ≤ 300 + 30 * (k : Int)) ∧ Tiny ps k ∧ So w wr g (N + 3 + 8 * k) L base v ps

/-- What the operations of the region leave that turns a packet's number. -/
def V20 (g b len cap kk : Nat) (wd : Int) (i : Nat) (v : Value) (w : World) : Prop := match i with
  | 0 => v = .slice (some ⟨b, 0, none⟩) len cap
  | 1 => v = .int .i64 (kk : Int)
  | 2 => v = .slice (some ⟨b, 0, none⟩) len cap
  | 3 => v = .int .i64 (kk : Int)
  | 4 => v = .pointer (some ⟨b, kk * 6, none⟩)
  | 5 => v = .pointer (some ⟨b, kk * 6, none⟩)
  | 6 => v = .int .i64 wd
  | 7 => ∃ b' T, v = .slice (some ⟨b', 0, none⟩) 3 3 ∧ b' ≠ g ∧ Blk w b' T #[.int .i64 (-3), .int .i64 0, .int .i64 5]
  | 8 => v = .pointer (some ⟨g, 0, none⟩)
  | 9 => ∃ u, v = .int .i64 u ∧ 0 ≤ u ∧ u + 1 ≤ 3
  | 10 => ∃ b' T j, v = .pointer (some ⟨b', j, none⟩) ∧ j < 3 ∧ b' ≠ g ∧ Blk w b' T #[.int .i64 (-3), .int .i64 0, .int .i64 5]
  | 11 => ∃ u, v = .int .i64 u ∧ -3 ≤ u ∧ u ≤ 5
  | 12 => ∃ u, v = .int .i64 u ∧ wd - 3 ≤ u ∧ u ≤ wd + 5
  | 13 => v = .pointer (some ⟨b, kk * 6, none⟩)
  | 14 => v = .pointer (some ⟨b, kk * 6, none⟩)
  | _ => True
theorem V20_keep {g b len cap kk : Nat} {wd : Int} : ∀ (i : Nat) (v : Value) (w w' : World), Goes g w w' → V20 g b len cap kk wd i v w → V20 g b len cap kk wd i v w'
  | 0, _, _, _, _, h => h
  | 1, _, _, _, _, h => h
  | 2, _, _, _, _, h => h
  | 3, _, _, _, _, h => h
  | 4, _, _, _, _, h => h
  | 5, _, _, _, _, h => h
  | 6, _, _, _, _, h => h
  | 7, _, _, _, hg, ⟨b, T, e, hb, hB⟩ => ⟨b, T, e, hb, hB.goes hg hb⟩
  | 8, _, _, _, _, h => h
  | 9, _, _, _, _, h => h
  | 10, _, _, _, hg, ⟨b, T, j, e, hj, hb, hB⟩ => ⟨b, T, j, e, hj, hb, hB.goes hg hb⟩
  | 11, _, _, _, _, h => h
  | 12, _, _, _, _, h => h
  | 13, _, _, _, _, h => h
  | 14, _, _, _, _, h => h
  | _ + 15, _, _, _, _, h => h

/-- .. that turns its time. -/
def V21 (g b len cap kk : Nat) (tm : Int) (i : Nat) (v : Value) (w : World) : Prop := match i with
  | 0 => v = .slice (some ⟨b, 0, none⟩) len cap
  | 1 => v = .int .i64 (kk : Int)
  | 2 => v = .slice (some ⟨b, 0, none⟩) len cap
  | 3 => v = .int .i64 (kk : Int)
  | 4 => v = .pointer (some ⟨b, kk * 6, none⟩)
  | 5 => v = .pointer (some ⟨b, kk * 6 + 1, none⟩)
  | 6 => v = .int .i64 tm
  | 7 => v = .pointer (some ⟨g, 0, none⟩)
  | 8 => ∃ u, v = .int .i64 u ∧ 0 ≤ u ∧ u + 1 ≤ 2
  | 9 => ∃ u, v = .int .i64 u ∧ 0 ≤ u ∧ u ≤ 60
  | 10 => ∃ u, v = .int .i64 u ∧ tm - 60 ≤ u ∧ u ≤ tm
  | 11 => v = .pointer (some ⟨b, kk * 6, none⟩)
  | 12 => v = .pointer (some ⟨b, kk * 6 + 1, none⟩)
  | _ => True
theorem V21_keep {g b len cap kk : Nat} {tm : Int} : ∀ (i : Nat) (v : Value) (w w' : World), Goes g w w' → V21 g b len cap kk tm i v w → V21 g b len cap kk tm i v w' := fun i v w w' _ h => by
  unfold V21 at h ⊢
  exact h

set_option maxRecDepth 100000 in
set_option maxHeartbeats 4000000 in
theorem l91Packets_any (w wx : World) (g N : Nat) (L : List (Nat × TypeId × Array Value)) (most : Int) (h : St w wx g N L) (hN : N ≤ 900000000000) (h0 : 0 ≤ most) (h1 : most ≤ 20) :
    Calls Try.prog 22 #[.pointer (some ⟨g, 0, none⟩), .int .i64 most] wx (DrawnPks w g N L wx.heap.size most) := by
  obtain ⟨i0, hi, hz0, hz1, hz2⟩ := info_parts pkInfo_
  have hgl := h.rd.lt
  have hLl : ∀ x ∈ L, x.1 < wx.heap.size := fun x hx => (h.blks x.1 x.2.1 x.2.2 hx).2.lt
  have HI := Lib.hid (And.intro hi (And.intro hz0 (And.intro hz1 hz2)))
  have S0 : So w (wx.alloc (.cells #[] 31)) g N L wx.heap.size (.slice (some ⟨wx.heap.size, 0, none⟩) 0 0) [] :=
    ⟨h.alloc _, World.ownsRow_lit wx #[] 0 (Nat.le_refl _) (Nat.zero_le _) rfl, hgl, hLl, h.below.size, by simp⟩
  have HW := Lib.hid h.below.size
  clear hi hz0 hz1 hz2 h hLl
  generalize hb0 : wx.heap.size = base at *
  generalize hW0 : wx.alloc (.cells #[] 31) = wa at *
  go_enter Try.func22, Try.ntmps22
  go_wp2_with fail
  clear hW0 hb0
  refine (pickO S0 (most + 1) (by omega) (by omega) (by omega)).mono ?_
  rintro e w1 ⟨v1, rfl, p1, q1, S1, -⟩
  clear S0
  have u1 : v1 ≤ most := by omega
  clear q1
  go_wp2_with fail
  refine (pickO S1 20 (by omega) (by omega) (by omega)).mono ?_
  rintro e w2 ⟨v2, rfl, p2, q2, S2, -⟩
  clear S1
  go_wp2_with fail
  refine (pickO S2 10 (by omega) (by omega) (by omega)).mono ?_
  rintro e w3 ⟨v3, rfl, p3, q3, S3, -⟩
  clear S2
  go_wp2_with fail
  go_loopw [5, 7, 8, 9, 10, 11] (fun v c7 c8 c9 c10 c11 wr => PksRel w g N L base v1 v c7 c8 c9 c10 c11 wr) (fun _ _ _ _ _ c _ => (v1 - intOf c).toNat)
  case atStart => exact ⟨0, [], v2, 30 * v3, true, true, by omega, rfl, rfl, rfl, rfl, rfl, rfl, by omega, by omega, Tiny.nil, S3⟩
  case round =>
    obtain ⟨k, ps, wide, time, bg, ky, hk, rfl, hlen, rfl, rfl, rfl, rfl, hwd, htm, htiny, S4⟩ := hrel
    obtain ⟨v, rfl⟩ : ∃ v, v = u5 := ⟨_, rfl⟩
    clear S3
    by_cases hlt : (k : Int) < v1
    · have hkn : k ≤ 20 := by omega
      have hll : ps.length ≤ 20 := by omega
      have HLEN := Lib.hid hlen
      have HT := Lib.hid htiny
      clear hlen htiny
      go_wp2_with fail
      refine (pickO S4 2 (by omega) (by omega) (by omega)).mono ?_
      rintro e w4 ⟨v4, rfl, p4, q4, S5, -⟩
      clear S4
      go_upto_if 32 with fail
      go_cut [10] (fun c wx => ∃ ky' : Bool, c = .bool ky' ∧ So w wx g (N + 3 + 8 * k + 3) L base v ps)
      case first =>
        cases bg
        · go_wp2_with fail
          go_meet
          exact ⟨_, rfl, S5.le (by omega)⟩
        · by_cases hk0 : k = 0
          · have hz : ((k : Int) == 0) = true := by simp [hk0]
            clear hk0
            go_wp2_with fail
            refine (pickO S5 4 (by omega) (by omega) (by omega)).mono ?_
            rintro e w5 ⟨v5, rfl, p5, q5, S6, -⟩
            by_cases h5 : 0 < v5
            · go_wp2_with fail
              go_meet
              exact ⟨_, rfl, S6.le (by omega)⟩
            · go_wp2_with fail
              refine (pickO S6 5 (by omega) (by omega) (by omega)).mono ?_
              rintro e w6 ⟨v6, rfl, p6, q6, S7, -⟩
              go_wp2_with fail
              go_meet
              exact ⟨_, rfl, S7.le (by omega)⟩
          · have hz : ((k : Int) == 0) = false := by simp; omega
            clear hk0
            go_wp2_with fail
            refine (pickO S5 5 (by omega) (by omega) (by omega)).mono ?_
            rintro e w5 ⟨v5, rfl, p5, q5, S6, -⟩
            go_wp2_with fail
            go_meet
            exact ⟨_, rfl, S6.le (by omega)⟩
      case rest =>
        obtain ⟨ky', rfl, S6⟩ := hcut
        clear S5
        go_upto_region 13 with fail
        go_cut [5] (fun s wx => ∃ (ps' : List Pk), ps'.length = k + 1 ∧ Tiny ps' (k + 1) ∧ So w wx g (N + 3 + 8 * k + 5) L base s ps')
        case first =>
          cases ky'
          · go_wp2_with fail
            refine (pickO S6 3 (by omega) (by omega) (by omega)).mono ?_
            rintro e w6 ⟨v6, rfl, p6, q6, S7, -⟩
            go_wp2_with fail
            refine (pickO S7 250 (by omega) (by omega) (by omega)).mono ?_
            rintro e w7 ⟨v7, rfl, p7, q7, S8, -⟩
            have hbs := S8.bs
            have hown := World.ownsRow.alloc S8.own (.cells #[.int .i64 wide, .int .i64 time, .int .i64 v6, .int .i64 (1 + v7), .bool false, .bool (v4 == 0)] 31)
            have HS8 := Lib.hid S8
            clear S6 S7 S8
            go_wp2_with (at_builtin; refine wpList_append_lies _ rfl (.tmp 45) (.tmp 59) _ rfl base 31 i0 _ 6 40 Try.underlying23 HI.out.1 HI.out.2.1 HI.out.2.2.1 HI.out.2.2.2 rfl (by omega) v ps.length (pkcs ps) rfl hown ⟨w7.heap.size, 0, none⟩ 1 1 (pkc ⟨wide, time, v6, 1 + v7, false, v4 == 0⟩) rfl rfl (World.news_of_block (heap_alloc_new w7 _)) (by intro u hu; simp [pkc] at hu; rcases hu with rfl | rfl | rfl | rfl | rfl | rfl <;> rfl) (by omega) (by unfold maxLen; omega) (by omega) (by simp; omega) _ rfl ?_; intro g' cap' w8 hown8 hgrow hat hlt8)
            have hS := HS8.out.app (p := ⟨wide, time, v6, 1 + v7, false, v4 == 0⟩) hgrow hown8
            go_meet
            exact ⟨_, by simp [HLEN.out], HT.out.snoc ⟨hwd, htm, by simp; omega, by simp; omega⟩, hS.le (by omega)⟩
          · cases bg
            · go_wp2_with fail
              refine (pickO S6 3 (by omega) (by omega) (by omega)).mono ?_
              rintro e w6 ⟨v6, rfl, p6, q6, S7, -⟩
              go_wp2_with fail
              refine (pickO S7 250 (by omega) (by omega) (by omega)).mono ?_
              rintro e w7 ⟨v7, rfl, p7, q7, S8, -⟩
              have hbs := S8.bs
              have hown := World.ownsRow.alloc S8.own (.cells #[.int .i64 wide, .int .i64 time, .int .i64 v6, .int .i64 (1 + v7), .bool false, .bool (v4 == 0)] 31)
              have HS8 := Lib.hid S8
              clear S6 S7 S8
              go_wp2_with (at_builtin; refine wpList_append_lies _ rfl (.tmp 45) (.tmp 59) _ rfl base 31 i0 _ 6 40 Try.underlying23 HI.out.1 HI.out.2.1 HI.out.2.2.1 HI.out.2.2.2 rfl (by omega) v ps.length (pkcs ps) rfl hown ⟨w7.heap.size, 0, none⟩ 1 1 (pkc ⟨wide, time, v6, 1 + v7, false, v4 == 0⟩) rfl rfl (World.news_of_block (heap_alloc_new w7 _)) (by intro u hu; simp [pkc] at hu; rcases hu with rfl | rfl | rfl | rfl | rfl | rfl <;> rfl) (by omega) (by unfold maxLen; omega) (by omega) (by simp; omega) _ rfl ?_; intro g' cap' w8 hown8 hgrow hat hlt8)
              have hS := HS8.out.app (p := ⟨wide, time, v6, 1 + v7, false, v4 == 0⟩) hgrow hown8
              go_meet
              exact ⟨_, by simp [HLEN.out], HT.out.snoc ⟨hwd, htm, by simp; omega, by simp; omega⟩, hS.le (by omega)⟩
            · go_wp2_with fail
              refine (pickO S6 3 (by omega) (by omega) (by omega)).mono ?_
              rintro e w6 ⟨v6, rfl, p6, q6, S7, -⟩
              go_wp2_with fail
              refine (pickO S7 250 (by omega) (by omega) (by omega)).mono ?_
              rintro e w7 ⟨v7, rfl, p7, q7, S8, -⟩
              have hbs := S8.bs
              have hown := World.ownsRow.alloc S8.own (.cells #[.int .i64 wide, .int .i64 time, .int .i64 v6, .int .i64 (1 + v7), .bool true, .bool (v4 == 0)] 31)
              have HS8 := Lib.hid S8
              clear S6 S7 S8
              go_wp2_with (at_builtin; refine wpList_append_lies _ rfl (.tmp 45) (.tmp 59) _ rfl base 31 i0 _ 6 40 Try.underlying23 HI.out.1 HI.out.2.1 HI.out.2.2.1 HI.out.2.2.2 rfl (by omega) v ps.length (pkcs ps) rfl hown ⟨w7.heap.size, 0, none⟩ 1 1 (pkc ⟨wide, time, v6, 1 + v7, true, v4 == 0⟩) rfl rfl (World.news_of_block (heap_alloc_new w7 _)) (by intro u hu; simp [pkc] at hu; rcases hu with rfl | rfl | rfl | rfl | rfl | rfl <;> rfl) (by omega) (by unfold maxLen; omega) (by omega) (by simp; omega) _ rfl ?_; intro g' cap' w8 hown8 hgrow hat hlt8)
              have hS := HS8.out.app (p := ⟨wide, time, v6, 1 + v7, true, v4 == 0⟩) hgrow hown8
              go_meet
              exact ⟨_, by simp [HLEN.out], HT.out.snoc ⟨hwd, htm, by simp; omega, by simp; omega⟩, hS.le (by omega)⟩
        case rest =>
          obtain ⟨ps', hlen', htiny', S9⟩ := hcut
          obtain ⟨v', rfl⟩ : ∃ v', v' = u5 := ⟨_, rfl⟩
          have HLEN' := Lib.hid hlen'
          have HT' := Lib.hid htiny'
          clear hlen' htiny' S6
          go_upto_region 14 with fail
          go_cut [7] (fun c wx => ∃ wide' : Int, c = .int .i64 wide' ∧ (0 ≤ wide' ∧ wide' ≤ 20 + 4 * ((k : Int) + 1)) ∧ So w wx g (N + 3 + 8 * k + 7) L base v' ps')
          case first =>
            go_wp2_with fail
            refine (pickO S9 8 (by omega) (by omega) (by omega)).mono ?_
            rintro e w8 ⟨v8, rfl, p8, q8, S10, -⟩
            clear S9
            go_wp2_with fail
            refine (pickO S10 3 (by omega) (by omega) (by omega)).mono ?_
            rintro e w9 ⟨v9, rfl, p9, q9, S11, -⟩
            clear S10
            have hz8 : v8 / 7 = 0 ∨ v8 / 7 = 1 := by omega
            rcases hz8 with hz8 | hz8
            · go_wp2_with fail
              go_meet
              exact ⟨_, rfl, by omega, S11.le (by omega)⟩
            · go_wp2_with fail
              go_meet
              exact ⟨_, rfl, by omega, S11.le (by omega)⟩
          case rest =>
            obtain ⟨wide', rfl, hwd', S12⟩ := hcut
            clear S9
            go_upto_region 15 with fail
            go_cut [9, 12] (fun c l wx => ∃ bg' : Bool, c = .bool bg' ∧ l = .bool (v4 == 0) ∧ So w wx g (N + 3 + 8 * k + 8) L base v' ps')
            case first =>
              cases hv4 : (v4 == 0)
              · go_wp2_with fail
                refine (pickO S12 12 (by omega) (by omega) (by omega)).mono ?_
                rintro e w10 ⟨v10, rfl, p10, q10, S13, -⟩
                go_wp2_with fail
                go_meet
                exact ⟨_, rfl, by rw [hv4], S13.le (by omega)⟩
              · go_wp2_with fail
                go_meet
                exact ⟨_, rfl, by rw [hv4], S12.le (by omega)⟩
            case rest =>
              obtain ⟨bg', rfl, rfl, S14⟩ := hcut
              clear S12
              have HTR := Lib.hid (And.intro hwd' (And.intro HLEN'.out HT'.out))
              cases bg'
              · go_wp2_with fail
                go_roundw
                case rel => first | exact ⟨k + 1, ps', wide', time, false, ky', by omega, by go_num, HLEN'.out, rfl, rfl, rfl, rfl, by omega, by omega, HT'.out, S14.le (by omega)⟩ | ((repeat apply Exists.intro); exact ⟨⟨k + 1, ps', wide', time, false, ky', by omega, by go_num, HLEN'.out, rfl, rfl, rfl, rfl, by omega, by omega, HT'.out, S14.le (by omega)⟩, rfl⟩)
                case measure => simp [intOf]; omega
              · go_wp2_with fail
                go_roundw
                case rel => first | exact ⟨k + 1, ps', wide', time + 30, true, ky', by omega, by go_num, HLEN'.out, rfl, rfl, rfl, rfl, by omega, by omega, HT'.out, S14.le (by omega)⟩ | ((repeat apply Exists.intro); exact ⟨⟨k + 1, ps', wide', time + 30, true, ky', by omega, by go_num, HLEN'.out, rfl, rfl, rfl, rfl, by omega, by omega, HT'.out, S14.le (by omega)⟩, rfl⟩)
                case measure => simp [intOf]; omega
    · have hkv : (k : Int) = v1 := by omega
      have hsm := htiny.small (show k ≤ 20 by omega)
      have hlm : (ps.length : Int) ≤ most := by omega
      have HS := Lib.hid hsm
      have HK20 := Lib.hid (show (k : Int) ≤ 20 by omega)
      have HTN := Lib.hid htiny
      have S5 := S4.le (M := N + 3 + 8 * 20) (by omega)
      have hl20 : ps.length ≤ 20 := by omega
      have hlv : (ps.length : Int) = v1 := by omega
      have HLV := Lib.hid hlv
      clear htiny hsm S4 hlv hlen hkv
      by_cases hn : 0 < v1
      · go_wp2_with fail
        refine (pickO S5 30 (by omega) (by omega) (by omega)).mono ?_
        rintro e w4 ⟨v4, rfl, p4, q4, S6, -⟩
        clear S5
        by_cases hv4 : v4 = 0
        · subst hv4
          go_wp2_with fail
          refine (pickO S6 v1 (by omega) (by omega) (by omega)).mono ?_
          rintro e w5 ⟨v5, rfl, p5, q5, S7, -⟩
          clear S6
          obtain ⟨kk, rfl⟩ := Int.eq_ofNat_of_zero_le p5
          have hkk : kk < ps.length := by have := HLV.out; omega
          obtain ⟨b, cap, rfl, hbb, hbl⟩ := S7.form (by omega)
          obtain ⟨p, hpk⟩ : ∃ p, ps[kk]? = some p := ⟨ps[kk], List.getElem?_eq_getElem hkk⟩
          have hps := HTN.out p (List.mem_of_getElem? hpk)
          have hk20 := HK20.out
          obtain ⟨⟨hw0, hw1⟩, ⟨ht0, ht1⟩, hly, hsz⟩ := hps
          have hw2 : p.wd ≤ 100 := by omega
          have ht2 : p.tm ≤ 900 := by omega
          clear hw1 ht1
          have HP := Lib.hid hpk
          have i0' : (0 : Int) ≤ (kk : Int) := by omega
          have i1' : (kk : Int) < (ps.length : Int) := by omega
          have hcap : ps.length ≤ cap := by
            obtain ⟨A, c, e, h1, _⟩ := Own.row S7.own
            injection e with _ _ e; omega
          have hcap' : cap ≤ 9223372036854775807 := by
            obtain ⟨A, c, e, _, h2, _⟩ := Own.row S7.own
            injection e with _ _ e; unfold maxLen at h2; omega
          clear hpk
          go_wp2_with fail
          refine wp_region_facts 15 [90, 91, 92, 93, 94, 95, 96, 97, 98, 99, 100, 101, 102, 103, 104] (V20 g b ps.length cap kk p.wd) (fun j W => So w W g (N + 3 + 8 * 20 + 1 + 1 + 4 * j) L base (.slice (some ⟨b, 0, none⟩) ps.length cap) ps) (Goes g) (by kernel_rfl) (by kernel_rfl) (by rfl) ?hI V20_keep ?hob ?hend
          case hI => exact S7.drew
          case hob =>
            simp only [List.take_succ_cons, List.take_zero, Obs, and_true]
            refine ⟨?_, ?_, ?_, ?_, ?_, ?_, ?_, ?_, ?_, ?_, ?_, ?_, ?_, ?_, ?_⟩
            · intro k' x W hkn hI hd K hK0
              have hK := hK0.out
              simp only [setAll, Act.put, List.foldl_cons, List.foldl_nil, List.setIfInBounds_toArray, List.set_cons_succ, List.set_cons_zero] at hK ⊢
              have HK := Lib.hid hK
              clear hK hK0
              rw [if_pos (by rfl)]
              clear hd
              go_simp
              exact HK.out _ _ (hI.le (by omega)) (Goes.refl _ _) ⟨rfl, fun h => by cases h⟩
            · intro k' x W hkn hI hd K hK0
              have hK := hK0.out
              simp only [setAll, Act.put, List.foldl_cons, List.foldl_nil, List.setIfInBounds_toArray, List.set_cons_succ, List.set_cons_zero] at hK ⊢
              have HK := Lib.hid hK
              clear hK hK0
              rw [if_pos (by rfl)]
              clear hd
              go_simp
              exact HK.out _ _ (hI.le (by omega)) (Goes.refl _ _) ⟨rfl, fun h => by cases h⟩
            · intro k' x W hkn hI hd K hK0
              have hK := hK0.out
              simp only [setAll, Act.put, List.foldl_cons, List.foldl_nil, List.setIfInBounds_toArray, List.set_cons_succ, List.set_cons_zero] at hK ⊢
              have HK := Lib.hid hK
              clear hK hK0
              rw [if_pos (by rfl)]
              clear hd
              go_simp
              exact HK.out _ _ (hI.le (by omega)) (Goes.refl _ _) ⟨rfl, fun h => by cases h⟩
            · intro k' x W hkn hI hd K hK0
              have hK := hK0.out
              simp only [setAll, Act.put, List.foldl_cons, List.foldl_nil, List.setIfInBounds_toArray, List.set_cons_succ, List.set_cons_zero] at hK ⊢
              have HK := Lib.hid hK
              clear hK hK0
              rw [if_pos (by rfl)]
              clear hd
              go_simp
              exact HK.out _ _ (hI.le (by omega)) (Goes.refl _ _) ⟨rfl, fun h => by cases h⟩
            · intro k' x W hkn hI hd K hK0
              have hK := hK0.out
              simp only [setAll, Act.put, List.foldl_cons, List.foldl_nil, List.setIfInBounds_toArray, List.set_cons_succ, List.set_cons_zero] at hK ⊢
              have HK := Lib.hid hK
              clear hK hK0
              rw [if_pos (by rfl)]
              obtain e92 : x 92 = (.slice (some ⟨b, 0, none⟩) ps.length cap) := hd 2 _ rfl (by kernel_rfl)
              obtain e93 : x 93 = .int .i64 (kk : Int) := hd 3 _ rfl (by kernel_rfl)
              rw [e92, e93] at HK ⊢
              clear hd
              clear e92 e93
              go_simp
              exact HK.out _ _ (hI.le (by omega)) (Goes.refl _ _) ⟨rfl, fun h => by cases h⟩
            · intro k' x W hkn hI hd K hK0
              have hK := hK0.out
              simp only [setAll, Act.put, List.foldl_cons, List.foldl_nil, List.setIfInBounds_toArray, List.set_cons_succ, List.set_cons_zero] at hK ⊢
              have HK := Lib.hid hK
              clear hK hK0
              rw [if_pos (by rfl)]
              obtain e94 : x 94 = (.pointer (some ⟨b, kk * 6, none⟩)) := hd 4 _ rfl (by kernel_rfl)
              rw [e94] at HK ⊢
              clear hd
              clear e94
              go_simp
              exact HK.out _ _ (hI.le (by omega)) (Goes.refl _ _) ⟨rfl, fun h => by cases h⟩
            · intro k' x W hkn hI hd K hK0
              have hK := hK0.out
              simp only [setAll, Act.put, List.foldl_cons, List.foldl_nil, List.setIfInBounds_toArray, List.set_cons_succ, List.set_cons_zero] at hK ⊢
              have HK := Lib.hid hK
              clear hK hK0
              rw [if_pos (by rfl)]
              obtain e95 : x 95 = (.pointer (some ⟨b, kk * 6, none⟩)) := hd 5 _ rfl (by kernel_rfl)
              rw [e95] at HK ⊢
              clear hd
              clear e95
              have cx := (Own.cells hI.own HP.out).1
              go_simp
              exact HK.out _ _ (hI.le (by omega)) (Goes.refl _ _) ⟨rfl, fun h => by cases h⟩
            · intro k' x W hkn hI hd K hK0
              have hK := hK0.out
              simp only [setAll, Act.put, List.foldl_cons, List.foldl_nil, List.setIfInBounds_toArray, List.set_cons_succ, List.set_cons_zero] at hK ⊢
              have HK := Lib.hid hK
              clear hK hK0
              rw [if_pos (by rfl)]
              clear hd
              go_simp
              refine HK.out _ _ ((hI.alloc _).le (by omega)) ((Goes.refl g W).alloc _) ⟨⟨_, _, rfl, by have := hI.st.rd.lt; omega, Blk.new _ _ _ rfl⟩, fun h => by cases h⟩
            · intro k' x W hkn hI hd K hK0
              have hK := hK0.out
              simp only [setAll, Act.put, List.foldl_cons, List.foldl_nil, List.setIfInBounds_toArray, List.set_cons_succ, List.set_cons_zero] at hK ⊢
              have HK := Lib.hid hK
              clear hK hK0
              rw [if_pos (by rfl)]
              clear hd
              go_simp
              exact HK.out _ _ (hI.le (by omega)) (Goes.refl _ _) ⟨rfl, fun h => by cases h⟩
            · intro k' x W hkn hI hd K hK0
              have hK := hK0.out
              simp only [setAll, Act.put, List.foldl_cons, List.foldl_nil, List.setIfInBounds_toArray, List.set_cons_succ, List.set_cons_zero] at hK ⊢
              have HK := Lib.hid hK
              clear hK hK0
              rw [if_pos (by rfl)]
              obtain e98 : x 98 = (.pointer (some ⟨g, 0, none⟩)) := hd 8 _ rfl (by kernel_rfl)
              rw [e98] at HK ⊢
              clear hd
              clear e98
              go_simp
              refine (pickO hI 3 (by omega) (by omega) (by omega)).mono ?_
              rintro e W1 ⟨u, rfl, u0, u1, SW, GW⟩
              exact HK.out _ _ (SW.le (by omega)) GW ⟨⟨u, rfl, u0, u1⟩, fun h => by cases h⟩
            · intro k' x W hkn hI hd K hK0
              have hK := hK0.out
              simp only [setAll, Act.put, List.foldl_cons, List.foldl_nil, List.setIfInBounds_toArray, List.set_cons_succ, List.set_cons_zero] at hK ⊢
              have HK := Lib.hid hK
              clear hK hK0
              rw [if_pos (by rfl)]
              obtain ⟨b', T, e97, hbg, hB⟩ : ∃ b' T, x 97 = .slice (some ⟨b', 0, none⟩) 3 3 ∧ b' ≠ g ∧ Blk W b' T #[.int .i64 (-3), .int .i64 0, .int .i64 5] := hd 7 _ rfl (by kernel_rfl)
              obtain ⟨u, e99, u0, u1⟩ : ∃ u, x 99 = .int .i64 u ∧ 0 ≤ u ∧ u + 1 ≤ 3 := hd 9 _ rfl (by kernel_rfl)
              rw [e97, e99] at HK ⊢
              clear hd
              clear e97 e99
              have u2 : u < 3 := by omega
              go_simp
              exact HK.out _ _ (hI.le (by omega)) (Goes.refl _ _) ⟨⟨b', T, _, rfl, by omega, hbg, hB⟩, fun h => by cases h⟩
            · intro k' x W hkn hI hd K hK0
              have hK := hK0.out
              simp only [setAll, Act.put, List.foldl_cons, List.foldl_nil, List.setIfInBounds_toArray, List.set_cons_succ, List.set_cons_zero] at hK ⊢
              have HK := Lib.hid hK
              clear hK hK0
              rw [if_pos (by rfl)]
              obtain ⟨b', T, j, e100, hj, hbg, hB⟩ : ∃ b' T j, x 100 = .pointer (some ⟨b', j, none⟩) ∧ j < 3 ∧ b' ≠ g ∧ Blk W b' T #[.int .i64 (-3), .int .i64 0, .int .i64 5] := hd 10 _ rfl (by kernel_rfl)
              rw [e100] at HK ⊢
              clear hd
              clear e100
              have cB := hB.cells
              obtain rfl | rfl | rfl : j = 0 ∨ j = 1 ∨ j = 2 := by omega
              · go_simp
                exact HK.out _ _ (hI.le (by omega)) (Goes.refl _ _) ⟨⟨_, rfl, by omega, by omega⟩, fun h => by cases h⟩
              · go_simp
                exact HK.out _ _ (hI.le (by omega)) (Goes.refl _ _) ⟨⟨_, rfl, by omega, by omega⟩, fun h => by cases h⟩
              · go_simp
                exact HK.out _ _ (hI.le (by omega)) (Goes.refl _ _) ⟨⟨_, rfl, by omega, by omega⟩, fun h => by cases h⟩
            · intro k' x W hkn hI hd K hK0
              have hK := hK0.out
              simp only [setAll, Act.put, List.foldl_cons, List.foldl_nil, List.setIfInBounds_toArray, List.set_cons_succ, List.set_cons_zero] at hK ⊢
              have HK := Lib.hid hK
              clear hK hK0
              rw [if_pos (by rfl)]
              obtain e96 : x 96 = .int .i64 p.wd := hd 6 _ rfl (by kernel_rfl)
              obtain ⟨u, e101, u0, u1⟩ : ∃ u, x 101 = .int .i64 u ∧ -3 ≤ u ∧ u ≤ 5 := hd 11 _ rfl (by kernel_rfl)
              rw [e96, e101] at HK ⊢
              clear hd
              clear e96 e101
              have hwr : IntKind.i64.wrap (p.wd + u) = p.wd + u := IntWalk.i64_in _ (by omega)
              go_simp
              exact HK.out _ _ (hI.le (by omega)) (Goes.refl _ _) ⟨⟨_, rfl, by omega, by omega⟩, fun h => by cases h⟩
            · intro k' x W hkn hI hd K hK0
              have hK := hK0.out
              simp only [setAll, Act.put, List.foldl_cons, List.foldl_nil, List.setIfInBounds_toArray, List.set_cons_succ, List.set_cons_zero] at hK ⊢
              have HK := Lib.hid hK
              clear hK hK0
              rw [if_pos (by rfl)]
              obtain e90 : x 90 = (.slice (some ⟨b, 0, none⟩) ps.length cap) := hd 0 _ rfl (by kernel_rfl)
              obtain e91 : x 91 = .int .i64 (kk : Int) := hd 1 _ rfl (by kernel_rfl)
              rw [e90, e91] at HK ⊢
              clear hd
              clear e90 e91
              go_simp
              exact HK.out _ _ (hI.le (by omega)) (Goes.refl _ _) ⟨rfl, fun h => by cases h⟩
            · intro k' x W hkn hI hd K hK0
              have hK := hK0.out
              simp only [setAll, Act.put, List.foldl_cons, List.foldl_nil, List.setIfInBounds_toArray, List.set_cons_succ, List.set_cons_zero] at hK ⊢
              have HK := Lib.hid hK
              clear hK hK0
              rw [if_pos (by rfl)]
              obtain e103 : x 103 = (.pointer (some ⟨b, kk * 6, none⟩)) := hd 13 _ rfl (by kernel_rfl)
              rw [e103] at HK ⊢
              clear hd
              clear e103
              go_simp
              exact HK.out _ _ (hI.le (by omega)) (Goes.refl _ _) ⟨rfl, fun h => by cases h⟩
          case hend =>
            intro x W hI hV
            obtain ⟨u, e102, u0, u1⟩ : ∃ u, x 102 = .int .i64 u ∧ p.wd - 3 ≤ u ∧ u ≤ p.wd + 5 := hV 12 _ (by omega) rfl
            obtain e104 : x 104 = .pointer (some ⟨b, kk * 6, none⟩) := hV 14 _ (by omega) rfl
            clear hV
            simp only [setAll, Act.put, List.foldl_cons, List.foldl_nil, List.setIfInBounds_toArray, List.set_cons_succ, List.set_cons_zero, List.drop_succ_cons, List.drop_zero]
            rw [e102, e104]
            clear e102 e104
            have cx := (Own.cells hI.own HP.out).1
            have fx := World.ownsRow.frozenAt hI.own
            have S8 := hI.set hbb HP.out 0 (.int .i64 u) (by omega) (q := (Pk.mk u p.tm p.ly p.sz p.k p.l)) rfl
            have hq : (ps.set kk (Pk.mk u p.tm p.ly p.sz p.k p.l))[kk]? = some (Pk.mk u p.tm p.ly p.sz p.k p.l) := by simp [hkk]
            have HQ := Lib.hid hq
            
            clear hq hI
            go_wp2_with fail
            have cy := (Own.cells S8.own HQ.out).2.1
            clear cx fx cy
            have hl2 : (ps.set kk (Pk.mk u p.tm p.ly p.sz p.k p.l)).length = ps.length := by simp
            have HL2 := Lib.hid hl2
            rw [hl2] at S8
            clear hl2
            refine wp_region_facts 13 [105, 106, 107, 108, 109, 110, 111, 112, 113, 114, 115, 116, 117] (V21 g b ps.length cap kk p.tm) (fun j W => So w W g (N + 3 + 8 * 20 + 1 + 1 + 4 * 15 + 4 * j) L base (.slice (some ⟨b, 0, none⟩) ps.length cap) (ps.set kk (Pk.mk u p.tm p.ly p.sz p.k p.l))) (Goes g) (by kernel_rfl) (by kernel_rfl) (by rfl) ?hI2 V21_keep ?hob2 ?hend2
            case hI2 => exact S8.drew
            case hob2 =>
              simp only [List.take_succ_cons, List.take_zero, Obs, and_true]
              refine ⟨?_, ?_, ?_, ?_, ?_, ?_, ?_, ?_, ?_, ?_, ?_, ?_, ?_⟩
              · intro k' x W hkn hI hd K hK0
                have hK := hK0.out
                simp only [setAll, Act.put, List.foldl_cons, List.foldl_nil, List.setIfInBounds_toArray, List.set_cons_succ, List.set_cons_zero] at hK ⊢
                have HK := Lib.hid hK
                clear hK hK0
                rw [if_pos (by rfl)]
                clear hd
                go_simp
                exact HK.out _ _ (hI.le (by omega)) (Goes.refl _ _) ⟨rfl, fun h => by cases h⟩
              · intro k' x W hkn hI hd K hK0
                have hK := hK0.out
                simp only [setAll, Act.put, List.foldl_cons, List.foldl_nil, List.setIfInBounds_toArray, List.set_cons_succ, List.set_cons_zero] at hK ⊢
                have HK := Lib.hid hK
                clear hK hK0
                rw [if_pos (by rfl)]
                clear hd
                go_simp
                exact HK.out _ _ (hI.le (by omega)) (Goes.refl _ _) ⟨rfl, fun h => by cases h⟩
              · intro k' x W hkn hI hd K hK0
                have hK := hK0.out
                simp only [setAll, Act.put, List.foldl_cons, List.foldl_nil, List.setIfInBounds_toArray, List.set_cons_succ, List.set_cons_zero] at hK ⊢
                have HK := Lib.hid hK
                clear hK hK0
                rw [if_pos (by rfl)]
                clear hd
                go_simp
                exact HK.out _ _ (hI.le (by omega)) (Goes.refl _ _) ⟨rfl, fun h => by cases h⟩
              · intro k' x W hkn hI hd K hK0
                have hK := hK0.out
                simp only [setAll, Act.put, List.foldl_cons, List.foldl_nil, List.setIfInBounds_toArray, List.set_cons_succ, List.set_cons_zero] at hK ⊢
                have HK := Lib.hid hK
                clear hK hK0
                rw [if_pos (by rfl)]
                clear hd
                go_simp
                exact HK.out _ _ (hI.le (by omega)) (Goes.refl _ _) ⟨rfl, fun h => by cases h⟩
              · intro k' x W hkn hI hd K hK0
                have hK := hK0.out
                simp only [setAll, Act.put, List.foldl_cons, List.foldl_nil, List.setIfInBounds_toArray, List.set_cons_succ, List.set_cons_zero] at hK ⊢
                have HK := Lib.hid hK
                clear hK hK0
                rw [if_pos (by rfl)]
                obtain e107 : x 107 = (.slice (some ⟨b, 0, none⟩) ps.length cap) := hd 2 _ rfl (by kernel_rfl)
                obtain e108 : x 108 = .int .i64 (kk : Int) := hd 3 _ rfl (by kernel_rfl)
                rw [e107, e108] at HK ⊢
                clear hd
                clear e107 e108
                go_simp
                exact HK.out _ _ (hI.le (by omega)) (Goes.refl _ _) ⟨rfl, fun h => by cases h⟩
              · intro k' x W hkn hI hd K hK0
                have hK := hK0.out
                simp only [setAll, Act.put, List.foldl_cons, List.foldl_nil, List.setIfInBounds_toArray, List.set_cons_succ, List.set_cons_zero] at hK ⊢
                have HK := Lib.hid hK
                clear hK hK0
                rw [if_pos (by rfl)]
                obtain e109 : x 109 = (.pointer (some ⟨b, kk * 6, none⟩)) := hd 4 _ rfl (by kernel_rfl)
                rw [e109] at HK ⊢
                clear hd
                clear e109
                go_simp
                exact HK.out _ _ (hI.le (by omega)) (Goes.refl _ _) ⟨rfl, fun h => by cases h⟩
              · intro k' x W hkn hI hd K hK0
                have hK := hK0.out
                simp only [setAll, Act.put, List.foldl_cons, List.foldl_nil, List.setIfInBounds_toArray, List.set_cons_succ, List.set_cons_zero] at hK ⊢
                have HK := Lib.hid hK
                clear hK hK0
                rw [if_pos (by rfl)]
                obtain e110 : x 110 = (.pointer (some ⟨b, kk * 6 + 1, none⟩)) := hd 5 _ rfl (by kernel_rfl)
                rw [e110] at HK ⊢
                clear hd
                clear e110
                have hI' := hI
                rw [← HL2.out] at hI'
                have cx := (Own.cells hI'.own HQ.out).2.1
                clear hI'
                go_simp
                exact HK.out _ _ (hI.le (by omega)) (Goes.refl _ _) ⟨rfl, fun h => by cases h⟩
              · intro k' x W hkn hI hd K hK0
                have hK := hK0.out
                simp only [setAll, Act.put, List.foldl_cons, List.foldl_nil, List.setIfInBounds_toArray, List.set_cons_succ, List.set_cons_zero] at hK ⊢
                have HK := Lib.hid hK
                clear hK hK0
                rw [if_pos (by rfl)]
                clear hd
                go_simp
                exact HK.out _ _ (hI.le (by omega)) (Goes.refl _ _) ⟨rfl, fun h => by cases h⟩
              · intro k' x W hkn hI hd K hK0
                have hK := hK0.out
                simp only [setAll, Act.put, List.foldl_cons, List.foldl_nil, List.setIfInBounds_toArray, List.set_cons_succ, List.set_cons_zero] at hK ⊢
                have HK := Lib.hid hK
                clear hK hK0
                rw [if_pos (by rfl)]
                obtain e112 : x 112 = (.pointer (some ⟨g, 0, none⟩)) := hd 7 _ rfl (by kernel_rfl)
                rw [e112] at HK ⊢
                clear hd
                clear e112
                go_simp
                refine (pickO hI 2 (by omega) (by omega) (by omega)).mono ?_
                rintro e W1 ⟨u, rfl, u0, u1, SW, GW⟩
                exact HK.out _ _ (SW.le (by omega)) GW ⟨⟨u, rfl, u0, u1⟩, fun h => by cases h⟩
              · intro k' x W hkn hI hd K hK0
                have hK := hK0.out
                simp only [setAll, Act.put, List.foldl_cons, List.foldl_nil, List.setIfInBounds_toArray, List.set_cons_succ, List.set_cons_zero] at hK ⊢
                have HK := Lib.hid hK
                clear hK hK0
                rw [if_pos (by rfl)]
                obtain ⟨u, e113, u0, u1⟩ : ∃ u, x 113 = .int .i64 u ∧ 0 ≤ u ∧ u + 1 ≤ 2 := hd 8 _ rfl (by kernel_rfl)
                rw [e113] at HK ⊢
                clear hd
                clear e113
                have hwr : IntKind.i64.wrap (u * 60) = u * 60 := IntWalk.i64_in _ (by omega)
                go_simp
                exact HK.out _ _ (hI.le (by omega)) (Goes.refl _ _) ⟨⟨_, rfl, by omega, by omega⟩, fun h => by cases h⟩
              · intro k' x W hkn hI hd K hK0
                have hK := hK0.out
                simp only [setAll, Act.put, List.foldl_cons, List.foldl_nil, List.setIfInBounds_toArray, List.set_cons_succ, List.set_cons_zero] at hK ⊢
                have HK := Lib.hid hK
                clear hK hK0
                rw [if_pos (by rfl)]
                obtain e111 : x 111 = .int .i64 p.tm := hd 6 _ rfl (by kernel_rfl)
                obtain ⟨u, e114, u0, u1⟩ : ∃ u, x 114 = .int .i64 u ∧ 0 ≤ u ∧ u ≤ 60 := hd 9 _ rfl (by kernel_rfl)
                rw [e111, e114] at HK ⊢
                clear hd
                clear e111 e114
                have hwr : IntKind.i64.wrap (p.tm - u) = p.tm - u := IntWalk.i64_in _ (by omega)
                go_simp
                exact HK.out _ _ (hI.le (by omega)) (Goes.refl _ _) ⟨⟨_, rfl, by omega, by omega⟩, fun h => by cases h⟩
              · intro k' x W hkn hI hd K hK0
                have hK := hK0.out
                simp only [setAll, Act.put, List.foldl_cons, List.foldl_nil, List.setIfInBounds_toArray, List.set_cons_succ, List.set_cons_zero] at hK ⊢
                have HK := Lib.hid hK
                clear hK hK0
                rw [if_pos (by rfl)]
                obtain e105 : x 105 = (.slice (some ⟨b, 0, none⟩) ps.length cap) := hd 0 _ rfl (by kernel_rfl)
                obtain e106 : x 106 = .int .i64 (kk : Int) := hd 1 _ rfl (by kernel_rfl)
                rw [e105, e106] at HK ⊢
                clear hd
                clear e105 e106
                go_simp
                exact HK.out _ _ (hI.le (by omega)) (Goes.refl _ _) ⟨rfl, fun h => by cases h⟩
              · intro k' x W hkn hI hd K hK0
                have hK := hK0.out
                simp only [setAll, Act.put, List.foldl_cons, List.foldl_nil, List.setIfInBounds_toArray, List.set_cons_succ, List.set_cons_zero] at hK ⊢
                have HK := Lib.hid hK
                clear hK hK0
                rw [if_pos (by rfl)]
                obtain e116 : x 116 = (.pointer (some ⟨b, kk * 6, none⟩)) := hd 11 _ rfl (by kernel_rfl)
                rw [e116] at HK ⊢
                clear hd
                clear e116
                go_simp
                exact HK.out _ _ (hI.le (by omega)) (Goes.refl _ _) ⟨rfl, fun h => by cases h⟩
            case hend2 =>
              intro x W hI hV
              obtain ⟨u2, e115, u20, u21⟩ : ∃ u, x 115 = .int .i64 u ∧ p.tm - 60 ≤ u ∧ u ≤ p.tm := hV 10 _ (by omega) rfl
              obtain e117 : x 117 = .pointer (some ⟨b, kk * 6 + 1, none⟩) := hV 12 _ (by omega) rfl
              clear hV
              simp only [setAll, Act.put, List.foldl_cons, List.foldl_nil, List.setIfInBounds_toArray, List.set_cons_succ, List.set_cons_zero, List.drop_succ_cons, List.drop_zero]
              rw [e115, e117]
              clear e115 e117
              rw [← HL2.out] at hI
              have cx := (Own.cells hI.own HQ.out).2.1
              have fx := World.ownsRow.frozenAt hI.own
              have S9 := hI.set hbb HQ.out 1 (.int .i64 u2) (by omega) (q := (Pk.mk u u2 p.ly p.sz p.k p.l)) rfl
              have hfin := (HS.out.set (k := kk) (p := (Pk.mk u p.tm p.ly p.sz p.k p.l)) ⟨⟨by show -1000 ≤ u; omega, by show u ≤ 1000; omega⟩, ⟨by show -2000 ≤ p.tm; omega, by show p.tm ≤ 2000; omega⟩, hly, hsz⟩).set (k := kk) (p := (Pk.mk u u2 p.ly p.sz p.k p.l)) ⟨⟨by show -1000 ≤ u; omega, by show u ≤ 1000; omega⟩, ⟨by show -2000 ≤ u2; omega, by show u2 ≤ 2000; omega⟩, hly, hsz⟩
              have HF := Lib.hid hfin
              clear hfin hI
              go_wp2_with fail
              go_ret
              exact ⟨_, _, by simp, S9.le (by omega), by simpa using hlm, HF.out⟩
        · have hv4' : (v4 == 0) = false := by simp [hv4]
          go_wp2_with fail
          go_ret
          exact ⟨_, _, rfl, S6.le (by omega), hlm, HS.out⟩
      · go_wp2_with fail
        go_ret
        exact ⟨_, _, rfl, S5.le (by omega), hlm, HS.out⟩

end Go.Proofs.Ytjdpagjcbhkonaa
