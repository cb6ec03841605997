/-
  What RingPut leaves: a valid ring with packets of its own, or none.
-/
import Derived.Test.YtlnhnljckceeaaaAppFresh
import Derived.Test.YtlnhnljckceeaaaRing2
import Derived.Test.YtlnhnljckceeaaaFacts
import Derived.Maps.AppendAt
namespace Go.Proofs.Ytlnhnljckceeaaa
open Go.RowKit
set_option linter.unusedSimpArgs false
set_option linter.unusedVariables false

theorem wp_append_fresh {w : World} {o : Oper} {a : Act} {K : Act → World → Prop} {Q : Exit → Act → World → Prop} (s x : Operand)
    (ho : o.op = .call { callee := .builtin .append, args := #[s, x], argTypes := #[23, 23] })
    (i : TypeInfo) (hi : Try.prog.info? 31 = some i) (hz : i.zero = some (.agg #[.int .i64 0, .int .i64 0, .int .i64 0, .int .i64 0, .bool false, .bool false])) (hsize : i.size = 6) (hby : i.bytes = 40)
    (base b : Nat) (hs : a.eval s = .slice (some ⟨b, 0, none⟩) 0 0) (hb : Blk w b 31 #[]) (hbb : base ≤ b) (ad : Addr) (c : Nat) (qs : List Pk) (hx : a.eval x = .slice (some ad) qs.length c)
    (hr : ∀ j u, (pkcs qs)[j]? = some u → w.cell? (ad.add j) = some u) (hlen : qs.length ≤ 1000) (h : ∀ v' w', Own w' base v' qs → Below w.heap.size w w' → K (a.put o.dst v') w') : Oper.wp Try.prog o a w K Q := by
  obtain ⟨v', w', hrun, h1, h2⟩ := run_append_fresh w o.type i hi hz hsize hby base b hb hbb ad c qs hr hlen
  unfold Oper.wp execOp
  simp only [ho, resolve, invoke, builtin, Sem.run_bind, Sem.run_pure, Result.andThen_ok, List.map_toArray, List.map_cons, List.map_nil, hs, hx, hrun]
  exact h v' w' h1 h2
theorem Own.below {w w' : World} {base : Nat} {v : Value} {ps : List Pk} (h : Own w base v ps) (hb : Below w.heap.size w w') : Own w' base v ps :=
  World.ownsRow.kept (row := none) h ⟨hb.os, hb.tape, hb.output, hb.size, fun k hk _ => hb.block k hk⟩ (by
    cases hv : v.ownBlock with
    | none => exact .inl rfl
    | some k => right; simp)

/-- What the head of the region leaves that appends a packet to a copy. -/
def VPut (base : Nat) (ad : Addr) (cap : Nat) (ps : List Pk) (p : Pk) (a13 : Value) (i : Nat) (v : Value) (w : World) : Prop := match i with
  | 0 => ∃ b, v = .slice (some ⟨b, 0, none⟩) 0 0 ∧ base ≤ b ∧ Blk w b 31 #[]
  | 1 => v = a13
  | 2 => v = .slice (some ad) ps.length cap
  | 3 => Own w base v ps
  | 4 => v = .agg #[.int .i64 p.wd, .int .i64 p.tm, .int .i64 p.ly, .int .i64 p.sz, .bool p.k, .bool p.l]
  | 5 => ∃ b, v = .slice (some ⟨b, 0, none⟩) 1 1 ∧ Blk w b 31 #[.int .i64 p.wd, .int .i64 p.tm, .int .i64 p.ly, .int .i64 p.sz, .bool p.k, .bool p.l]
  | _ => True
theorem VPut_keep {base : Nat} {ad : Addr} {cap : Nat} {ps : List Pk} {p : Pk} {a13 : Value} : ∀ (i : Nat) (v : Value) (w w' : World), Below w.heap.size w w' → VPut base ad cap ps p a13 i v w → VPut base ad cap ps p a13 i v w'
  | 0, _, _, _, hb, ⟨b, e, hbb, hB⟩ => ⟨b, e, hbb, hB.below hb hB.lt⟩
  | 1, _, _, _, _, h => h
  | 2, _, _, _, _, h => h
  | 3, _, _, _, hb, h => h.below hb
  | 4, _, _, _, _, h => h
  | 5, _, _, _, hb, ⟨b, e, hB⟩ => ⟨b, e, hB.below hb hB.lt⟩
  | _ + 6, _, _, _, _, h => h

/-- A ring as the drawing has it. -/
structure RingOk (w : World) (room count : Int) (A : Option Addr) (ps : List Pk) (cap : Nat) : Prop where
  row : PkRow w w.heap.size A ps
  len : ps.length ≤ cap
  hcap : cap ≤ maxLen
  hroom : 0 ≤ room ∧ room ≤ 8
  hcount : 0 ≤ count ∧ count ≤ 999999
  some : ringB room count ps = true → ∃ ad, A = some ad
theorem prow {w : World} {B : Nat} {ad : Addr} {ps : List Pk} (h : PkRow w B (some ad) ps) : ∀ j u, (pkcs ps)[j]? = some u → w.cell? (ad.add j) = some u := fun j u hu => by
  have h0 : 0 < ps.length := by
    rcases Nat.eq_zero_or_pos ps.length with h0 | h0
    · rw [List.eq_nil_of_length_eq_zero h0] at hu; simp [pkcs] at hu
    · exact h0
  obtain ⟨b, off, e, _, hr⟩ := h h0
  injection e with e
  subst e
  exact pkcs_cells hr j u hu

theorem Own.full {wx : World} {base : Nat} {v : Value} {ps : List Pk} (h : Own wx base v ps) (h0 : 0 < ps.length) : ∃ b off cap, v = .slice (some ⟨b, off, none⟩) ps.length cap ∧ base ≤ b ∧ b < wx.heap.size ∧ ps.length ≤ cap ∧ cap ≤ maxLen ∧ ∀ j p, ps[j]? = some p → Six wx b (off + j * 6) p := by
  obtain ⟨b, cap, hv, hb, hlt⟩ := World.ownsRow.form h h0
  obtain ⟨A, cap', hv', h1, h2, _⟩ := Own.row h
  subst hv
  injection hv' with _ _ hc
  subst hc
  exact ⟨b, 0, cap, rfl, hb, hlt, h1, h2, fun j p hj => by rw [Nat.zero_add]; exact Own.cells (base := base) (cap := cap) h hj⟩
theorem Own.grow {w3 W w6 : World} {v : Value} {ps : List Pk} (hI : Below w3.heap.size w3 W) (ho : Own W w3.heap.size v ps) (hg : W.grownBy w6 v.ownBlock) : Below w3.heap.size w3 w6 :=
  ⟨hg.os.trans hI.os, hg.tape.trans hI.tape, hg.output.trans hI.output, Nat.le_trans hI.size hg.size, fun k hk =>
    (hg.block k (Nat.lt_of_lt_of_le hk hI.size) (fun e => by have := (World.ownsRow.lt ho k e.symm).1; omega)).trans (hI.block k hk)⟩

theorem PkRow.farSet {w : World} {B b o : Nat} {ps : List Pk} (h : PkRow w B (some ⟨b, o, none⟩) ps) {p : Addr} (hne : b ≠ p.block) (u : Value) : PkRow (w.setCell p u) B (some ⟨b, o, none⟩) ps := fun h0 => by
  obtain ⟨b', o', e, hb, hc⟩ := h h0
  injection e with e
  injection e with e1 e2 _
  subst e1; subst e2
  exact ⟨_, _, rfl, hb, fun j q hq => (hc j q hq).keep fun i => World.cell?_of_block (a := ⟨b, i, none⟩) (Below.heap_setCell w p u b hne)⟩

/-- What the operations of the region leave that cuts the packets. -/
def VCut (B : Nat) (rp cp : Value) (room count d : Int) (k b off o6 n cap : Nat) (i : Nat) (v : Value) (w : World) : Prop := match i with
  | 0 => v = rp
  | 1 => v = .int .i64 room
  | 2 => v = cp
  | 3 => v = .int .i64 count
  | 4 => v = .int .i64 (count + 1)
  | 5 => v = .slice (some ⟨b, off, none⟩) n cap
  | 6 => v = .slice (some ⟨b, off, none⟩) n cap
  | 7 => v = .int .i64 (n : Int)
  | 8 => v = rp
  | 9 => v = .int .i64 room
  | 10 => v = .int .i64 d
  | 11 => v = .int .i64 (k : Int)
  | 12 => v = .slice (some ⟨b, o6, none⟩) (n - k) (cap - k)
  | 13 => v = .agg #[.int .i64 room, .int .i64 (count + 1), .slice (some ⟨b, o6, none⟩) (n - k) (cap - k)]
  | 14 => ∃ b', v = .pointer (some ⟨b', 0, none⟩) ∧ B ≤ b' ∧ Blk w b' 25 #[.int .i64 0, .int .i64 0, .slice none 0 0]
  | _ => True
theorem VCut_keep {B : Nat} {rp cp : Value} {room count d : Int} {k b off o6 n cap : Nat} : ∀ (i : Nat) (v : Value) (w w' : World), Below w.heap.size w w' → VCut B rp cp room count d k b off o6 n cap i v w → VCut B rp cp room count d k b off o6 n cap i v w'
  | 0, _, _, _, _, h => h | 1, _, _, _, _, h => h | 2, _, _, _, _, h => h | 3, _, _, _, _, h => h | 4, _, _, _, _, h => h
  | 5, _, _, _, _, h => h | 6, _, _, _, _, h => h | 7, _, _, _, _, h => h | 8, _, _, _, _, h => h | 9, _, _, _, _, h => h
  | 10, _, _, _, _, h => h | 11, _, _, _, _, h => h | 12, _, _, _, _, h => h | 13, _, _, _, _, h => h
  | 14, _, _, _, hb, ⟨b, e, hbb, hB⟩ => ⟨b, e, hbb, hB.below hb hB.lt⟩
  | _ + 15, _, _, _, _, h => h

/-- A ring out of RingPut. -/
def PutRing (w : World) (e : Ending) (w' : World) : Prop :=
  ∃ room' count' A' cap', ∃ ps' : List Pk, ∃ ok, e = .returned (.tuple #[.agg #[.int .i64 room', .int .i64 count', .slice A' ps'.length cap'], .bool ok]) ∧ Below w.heap.size w w' ∧ RingOk w' room' count' A' ps' cap'
theorem RingOk.zero (w : World) : RingOk w 0 0 none [] 0 := ⟨PkRow.nil _ _ _, Nat.le_refl _, Nat.zero_le _, by omega, by omega, fun h => by cases h⟩

set_option maxHeartbeats 2000000 in
theorem put_any (room count : Int) (A : Option Addr) (ps : List Pk) (cap : Nat) (p : Pk) (w : World) (hA : ringB room count ps = true → ∃ ad, A = some ad) (hp : PkRow w w.heap.size A ps) (hl : ps.length ≤ cap) (hm : cap ≤ 9223372036854775807) :
    Calls Try.prog 51 #[.agg #[.int .i64 room, .int .i64 count, .slice A ps.length cap], .agg #[.int .i64 p.wd, .int .i64 p.tm, .int .i64 p.ly, .int .i64 p.sz, .bool p.k, .bool p.l]] w (PutRing w) := by
  have P1 := ((hp.alloc (.cells #[.int .i64 room, .int .i64 count, .slice A ps.length cap] 25)).alloc (.cells #[.int .i64 p.wd, .int .i64 p.tm, .int .i64 p.ly, .int .i64 p.sz, .bool p.k, .bool p.l] 31)).alloc (.cells #[.int .i64 0, .int .i64 0, .slice none 0 0] 25)
  have X1 := ((Blk.new w 25 #[.int .i64 room, .int .i64 count, .slice A ps.length cap] rfl).alloc (.cells #[.int .i64 p.wd, .int .i64 p.tm, .int .i64 p.ly, .int .i64 p.sz, .bool p.k, .bool p.l] 31)).alloc (.cells #[.int .i64 0, .int .i64 0, .slice none 0 0] 25)
  have Y1 := (Blk.new (w.alloc (.cells #[.int .i64 room, .int .i64 count, .slice A ps.length cap] 25)) 31 #[.int .i64 p.wd, .int .i64 p.tm, .int .i64 p.ly, .int .i64 p.sz, .bool p.k, .bool p.l] rfl).alloc (.cells #[.int .i64 0, .int .i64 0, .slice none 0 0] 25)
  have R1 := Blk.new ((w.alloc (.cells #[.int .i64 room, .int .i64 count, .slice A ps.length cap] 25)).alloc (.cells #[.int .i64 p.wd, .int .i64 p.tm, .int .i64 p.ly, .int .i64 p.sz, .bool p.k, .bool p.l] 31)) 25 #[.int .i64 0, .int .i64 0, .slice none 0 0] rfl
  have L1 : Below w.heap.size w (((w.alloc (.cells #[.int .i64 room, .int .i64 count, .slice A ps.length cap] 25)).alloc (.cells #[.int .i64 p.wd, .int .i64 p.tm, .int .i64 p.ly, .int .i64 p.sz, .bool p.k, .bool p.l] 31)).alloc (.cells #[.int .i64 0, .int .i64 0, .slice none 0 0] 25)) := Fr.alloc3 (Below.refl _ _) _ _ _
  cases h1 : ringB room count ps
  · have H1 := Lib.hid h1
    clear h1
    go_enter Try.func51, Try.ntmps51
    go_wp2_with fail
    refine (ringSpec _ _ _ _ _ _ P1 hl hm).mono ?_
    rintro e w1 ⟨rfl, hb⟩
    rw [H1.out]
    have R9 := R1.below hb R1.lt
    simp only [World.size_alloc] at R9
    have hb9 := Fr.step L1 hb
    have r0 := R9.cells 0; have r1 := R9.cells 1; have r2 := R9.cells 2; have rf := R9.free; have rl := R9.lt
    simp at r0 r1 r2
    clear hb X1 P1 R1 L1 Y1
    go_wp2_with fail
    refine bodyPost_ret (by simp [results, Try.results51, go_sem, r0, r1, r2, rl]; try rfl) rfl ?_
    refine ⟨0, 0, none, 0, [], false, rfl, ?_, RingOk.zero _⟩
    repeat' (first | (with_reducible exact hb9) | (with_reducible refine Fr.alloc ?_ _) | (with_reducible refine Below.setCell ?_ ?_ _) | (simp; omega) | (simp; done))
  · obtain ⟨ad, rfl⟩ := hA h1
    clear hA
    obtain ⟨h2, ⟨c0, c1⟩, c2, c5⟩ := ringB_iff.1 h1
    have c4 : (ps.length : Int) ≤ room := by have := minI_le room count; omega
    have HC := Lib.hid (And.intro c0 (And.intro c1 (And.intro c4 h2)))
    have H1 := Lib.hid h1
    clear h1 c0 c1 c2 c4 c5 h2
    obtain ⟨i0, hi0, hz0, hz1, hz2⟩ := info_parts pkInfo
    have HI := Lib.hid (And.intro hi0 (And.intro hz0 (And.intro hz1 hz2)))
    clear hi0 hz0 hz1 hz2
    go_enter Try.func51, Try.ntmps51
    go_wp2_with fail
    refine (ringSpec _ _ _ _ _ _ P1 hl hm).mono ?_
    rintro e w3 ⟨rfl, hb⟩
    rw [H1.out]
    have R3 := R1.below hb R1.lt
    have X3 := X1.below hb X1.lt
    have Y3 := Y1.below hb Y1.lt
    simp only [World.size_alloc] at R3 Y3
    have L3 := Fr.step L1 hb
    have P3 := P1.mem hb
    clear hb X1 P1 R1 L1 Y1
    go_upto_region 3 with fail
    refine wp_region_facts 6 [12, 13, 14, 15, 16, 17] (VPut w3.heap.size ad cap ps p (.pointer (some ⟨w.heap.size, 2, none⟩))) (fun _ W => Below w3.heap.size w3 W) (fun w w' => Below w.heap.size w w') (by kernel_rfl) (by kernel_rfl) (by rfl) ?hI VPut_keep ?hob ?hend
    case hI => exact (Below.refl _ _).drew
    case hob =>
      simp only [List.take_succ_cons, List.take_zero, Obs, and_true]
      refine ⟨?_, ?_, ?_, ?_, ?_, ?_⟩
      · intro k' x W hkn hI hd K hK0
        have hK := hK0.out
        simp only [setAll, Act.put, List.foldl_cons, List.foldl_nil, List.setIfInBounds_toArray, List.set_cons_succ, List.set_cons_zero] at hK ⊢
        have HK := Lib.hid hK
        clear hK hK0
        rw [if_pos (by rfl)]
        clear hd
        go_simp
        exact HK.out _ _ (Fr.alloc hI _) (Fr.alloc (Below.refl _ _) _) ⟨⟨_, rfl, hI.size, Blk.new _ _ _ rfl⟩, fun h => by cases h⟩
      · intro k' x W hkn hI hd K hK0
        have hK := hK0.out
        simp only [setAll, Act.put, List.foldl_cons, List.foldl_nil, List.setIfInBounds_toArray, List.set_cons_succ, List.set_cons_zero] at hK ⊢
        have HK := Lib.hid hK
        clear hK hK0
        rw [if_pos (by rfl)]
        clear hd
        go_simp
        exact HK.out _ _ hI (Below.refl _ _) ⟨rfl, fun h => by cases h⟩
      · intro k' x W hkn hI hd K hK0
        have hK := hK0.out
        simp only [setAll, Act.put, List.foldl_cons, List.foldl_nil, List.setIfInBounds_toArray, List.set_cons_succ, List.set_cons_zero] at hK ⊢
        have HK := Lib.hid hK
        clear hK hK0
        rw [if_pos (by rfl)]
        obtain e13 : x 13 = .pointer (some ⟨w.heap.size, 2, none⟩) := hd 1 _ rfl (by kernel_rfl)
        rw [e13] at HK ⊢
        clear e13
        clear hd
        have cx := (X3.below hI X3.lt).cells
        go_simp
        exact HK.out _ _ hI (Below.refl _ _) ⟨rfl, fun h => by cases h⟩
      · intro k' x W hkn hI hd K hK0
        have hK := hK0.out
        simp only [setAll, Act.put, List.foldl_cons, List.foldl_nil, List.setIfInBounds_toArray, List.set_cons_succ, List.set_cons_zero] at hK ⊢
        have HK := Lib.hid hK
        clear hK hK0
        rw [if_pos (by rfl)]
        obtain ⟨b12, e12, hb12, hB12⟩ : ∃ b, x 12 = .slice (some ⟨b, 0, none⟩) 0 0 ∧ w3.heap.size ≤ b ∧ Blk W b 31 #[] := hd 0 _ rfl (by kernel_rfl)
        obtain e14 : x 14 = .slice (some ad) ps.length cap := hd 2 _ rfl (by kernel_rfl)
        rw [e12, e14] at HK ⊢
        clear e12 e14
        clear hd
        refine wp_append_fresh (.tmp 12) (.tmp 14) (by rfl) i0 HI.out.1 HI.out.2.1 HI.out.2.2.1 HI.out.2.2.2 w3.heap.size b12 (by rfl) hB12 hb12 ad cap ps (by rfl) (prow (P3.mem hI)) (by have := HC.out; omega) ?_
        intro v' w' hown hbw
        exact HK.out _ _ (Fr.step hI hbw) hbw ⟨hown, fun h => by cases h⟩
      · intro k' x W hkn hI hd K hK0
        have hK := hK0.out
        simp only [setAll, Act.put, List.foldl_cons, List.foldl_nil, List.setIfInBounds_toArray, List.set_cons_succ, List.set_cons_zero] at hK ⊢
        have HK := Lib.hid hK
        clear hK hK0
        rw [if_pos (by rfl)]
        clear hd
        have cx := (Y3.below hI Y3.lt).cells
        go_simp
        exact HK.out _ _ hI (Below.refl _ _) ⟨rfl, fun h => by cases h⟩
      · intro k' x W hkn hI hd K hK0
        have hK := hK0.out
        simp only [setAll, Act.put, List.foldl_cons, List.foldl_nil, List.setIfInBounds_toArray, List.set_cons_succ, List.set_cons_zero] at hK ⊢
        have HK := Lib.hid hK
        clear hK hK0
        rw [if_pos (by rfl)]
        obtain e16 : x 16 = .agg #[.int .i64 p.wd, .int .i64 p.tm, .int .i64 p.ly, .int .i64 p.sz, .bool p.k, .bool p.l] := hd 4 _ rfl (by kernel_rfl)
        rw [e16] at HK ⊢
        clear e16
        clear hd
        go_simp
        exact HK.out _ _ (Fr.alloc hI _) (Fr.alloc (Below.refl _ _) _) ⟨⟨_, rfl, Blk.new _ _ _ rfl⟩, fun h => by cases h⟩
    case hend =>
      intro x W hI hV
      obtain o15 : Own W w3.heap.size (x 15) ps := hV 3 _ (by omega) rfl
      obtain ⟨b17, e17, hB17⟩ : ∃ b, x 17 = .slice (some ⟨b, 0, none⟩) 1 1 ∧ Blk W b 31 #[.int .i64 p.wd, .int .i64 p.tm, .int .i64 p.ly, .int .i64 p.sz, .bool p.k, .bool p.l] := hV 5 _ (by omega) rfl
      clear hV
      simp only [setAll, Act.put, List.foldl_cons, List.foldl_nil, List.setIfInBounds_toArray, List.set_cons_succ, List.set_cons_zero, List.drop_succ_cons, List.drop_zero]
      rw [e17]
      clear e17
      obtain ⟨v15, h15⟩ : ∃ v15, v15 = x 15 := ⟨_, rfl⟩
      rw [← h15] at o15 ⊢
      clear h15
      refine wpList_append_own_at W ?a1 (.tmp 15) (.tmp 17) 23 ?a2 w3.heap.size 31 i0 _ 6 40 Try.underlying23 HI.out.1 HI.out.2.1 HI.out.2.2.1 HI.out.2.2.2 ?a3 (by omega) v15 ps.length (pkcs ps) ?a4 o15 ⟨b17, 0, none⟩ 1 1 (pkc p) ?a5 ?a6 ?a7 ?a8 (by have := HC.out; unfold maxLen; omega) (by have := HC.out; omega) hI.size ?a9
      case a1 => rfl
      case a2 => rfl
      case a3 => rfl
      case a4 => rfl
      case a5 => rfl
      case a6 => rfl
      case a7 =>
        intro j u hu
        have hadd : (⟨b17, 0, none⟩ : Addr).add j = ⟨b17, j, none⟩ := by unfold Addr.add; simp; intro h; exact h.symm
        rw [hadd, hB17.cells]
        simpa [pkc] using hu
      case a8 =>
        intro u hu
        simp [pkc] at hu
        rcases hu with rfl | rfl | rfl | rfl | rfl | rfl <;> rfl
      intro v6 w6 hown6 hgr6 hnil6 hat6
      have BB := Own.grow hI o15 hgr6
      have own6 : Own w6 w3.heap.size v6 (ps ++ [p]) := by
        unfold Own
        rw [pkcs_append]
        simpa [pkcs] using hown6
      have X6 := X3.below BB X3.lt
      have R6 := R3.below BB R3.lt
      have L6 := Fr.step L3 BB
      have hw36 := BB.size
      have hww := R3.lt
      clear hown6 hgr6 hnil6 hat6 hI o15 hB17 P3 Y3 R3 L3 BB X3
      obtain ⟨b6, off6, cap6, rfl, hb6, hb6', hc6, hm6, hrow6⟩ := own6.full (by simp)
      unfold maxLen at hm6
      clear own6
      obtain ⟨qs, hqs⟩ : ∃ qs, qs = ps ++ [p] := ⟨_, rfl⟩
      have hql : qs.length = ps.length + 1 := by rw [hqs]; simp
      rw [← hqs] at hc6 hrow6 ⊢
      clear hqs
      obtain ⟨n, hn⟩ : ∃ n, n = qs.length := ⟨_, rfl⟩
      rw [← hn] at hc6 ⊢
      obtain ⟨d, hdd⟩ : ∃ d : Int, d = (n : Int) - room := ⟨_, rfl⟩
      obtain ⟨k, hkk⟩ : ∃ k : Nat, k = d.toNat := ⟨_, rfl⟩
      have hdw : IntKind.i64.wrap ((n : Int) - room) = d := by rw [← hdd]; exact IntWalk.i64_in _ (by have := HC.out; omega)
      have hmx : (if d < 0 then (0 : Int) else d) = (k : Int) := by split <;> omega
      have hcw : IntKind.i64.wrap (count + 1) = count + 1 := IntWalk.i64_in _ (by have := HC.out; omega)
      have hkn : k < n := by have := HC.out; omega
      have k0 : (0 : Int) ≤ (k : Int) := by omega
      have k1 : (k : Int) ≤ (n : Int) := by omega
      have c1 : (n : Int) ≤ (cap6 : Int) := by omega
      have c2 : (k : Int) ≤ (cap6 : Int) := by omega
      obtain ⟨o6, ho6, hro6⟩ : ∃ o6, (if cap6 = k then (some ⟨b6, off6, none⟩ : Option Addr) else some ⟨b6, off6 + k * 6, none⟩) = some ⟨b6, o6, none⟩ ∧ (∀ (j : Nat) (q : Pk), (qs.drop k)[j]? = some q → Six w6 b6 (o6 + j * 6) q) := by
        by_cases hcc : cap6 = k
        · omega
        · refine ⟨off6 + k * 6, if_neg hcc, fun j p hj => ?_⟩
          rw [List.getElem?_drop] at hj
          have := hrow6 _ p hj
          rwa [show off6 + (k + j) * 6 = off6 + k * 6 + j * 6 by omega] at this
      have PA : PkRow w6 w6.heap.size (some ⟨b6, off6, none⟩) qs := fun _ => ⟨b6, off6, rfl, hb6', hrow6⟩
      have PB : PkRow w6 w6.heap.size (some ⟨b6, o6, none⟩) (qs.drop k) := fun _ => ⟨b6, o6, rfl, hb6', hro6⟩
      have HD := Lib.hid (And.intro hdd (And.intro hkk (And.intro hn hql)))
      have HX := Lib.hid X6
      clear hro6 hrow6 hdd hkk hn hql X6
      go_upto_region 4 with fail
      refine wp_region_facts 15 [19, 20, 21, 22, 23, 24, 25, 26, 27, 28, 29, 30, 31, 32, 7] (VCut w6.heap.size (.pointer (some ⟨w.heap.size, 0, none⟩)) (.pointer (some ⟨w.heap.size, 1, none⟩)) room count d k b6 off6 o6 n cap6) (fun _ W => Below w6.heap.size w6 W) (fun w w' => Below w.heap.size w w') (by kernel_rfl) (by kernel_rfl) (by rfl) ?hI4 VCut_keep ?hob4 ?hend4
      case hI4 => exact (Below.refl _ _).drew
      case hob4 =>
        simp only [List.take_succ_cons, List.take_zero, Obs, and_true]
        refine ⟨?_, ?_, ?_, ?_, ?_, ?_, ?_, ?_, ?_, ?_, ?_, ?_, ?_, ?_, ?_⟩
        · intro k' x W hkn hI hd K hK0
          have hK := hK0.out
          simp only [setAll, Act.put, List.foldl_cons, List.foldl_nil, List.setIfInBounds_toArray, List.set_cons_succ, List.set_cons_zero] at hK ⊢
          have HK := Lib.hid hK
          clear hK hK0
          rw [if_pos (by rfl)]
          clear hd
          go_simp
          exact HK.out _ _ hI (Below.refl _ _) ⟨rfl, fun h => by cases h⟩
        · intro k' x W hkn hI hd K hK0
          have hK := hK0.out
          simp only [setAll, Act.put, List.foldl_cons, List.foldl_nil, List.setIfInBounds_toArray, List.set_cons_succ, List.set_cons_zero] at hK ⊢
          have HK := Lib.hid hK
          clear hK hK0
          rw [if_pos (by rfl)]
          obtain e19 : x 19 = .pointer (some ⟨w.heap.size, 0, none⟩) := hd 0 _ rfl (by kernel_rfl)
          rw [e19] at HK ⊢
          clear e19
          clear hd
          have cx := (HX.out.below hI HX.out.lt).cells
          go_simp
          exact HK.out _ _ hI (Below.refl _ _) ⟨rfl, fun h => by cases h⟩
        · intro k' x W hkn hI hd K hK0
          have hK := hK0.out
          simp only [setAll, Act.put, List.foldl_cons, List.foldl_nil, List.setIfInBounds_toArray, List.set_cons_succ, List.set_cons_zero] at hK ⊢
          have HK := Lib.hid hK
          clear hK hK0
          rw [if_pos (by rfl)]
          clear hd
          go_simp
          exact HK.out _ _ hI (Below.refl _ _) ⟨rfl, fun h => by cases h⟩
        · intro k' x W hkn hI hd K hK0
          have hK := hK0.out
          simp only [setAll, Act.put, List.foldl_cons, List.foldl_nil, List.setIfInBounds_toArray, List.set_cons_succ, List.set_cons_zero] at hK ⊢
          have HK := Lib.hid hK
          clear hK hK0
          rw [if_pos (by rfl)]
          obtain e21 : x 21 = .pointer (some ⟨w.heap.size, 1, none⟩) := hd 2 _ rfl (by kernel_rfl)
          rw [e21] at HK ⊢
          clear e21
          clear hd
          have cx := (HX.out.below hI HX.out.lt).cells
          go_simp
          exact HK.out _ _ hI (Below.refl _ _) ⟨rfl, fun h => by cases h⟩
        · intro k' x W hkn hI hd K hK0
          have hK := hK0.out
          simp only [setAll, Act.put, List.foldl_cons, List.foldl_nil, List.setIfInBounds_toArray, List.set_cons_succ, List.set_cons_zero] at hK ⊢
          have HK := Lib.hid hK
          clear hK hK0
          rw [if_pos (by rfl)]
          obtain e22 : x 22 = .int .i64 count := hd 3 _ rfl (by kernel_rfl)
          rw [e22] at HK ⊢
          clear e22
          clear hd
          go_simp
          exact HK.out _ _ hI (Below.refl _ _) ⟨rfl, fun h => by cases h⟩
        · intro k' x W hkn hI hd K hK0
          have hK := hK0.out
          simp only [setAll, Act.put, List.foldl_cons, List.foldl_nil, List.setIfInBounds_toArray, List.set_cons_succ, List.set_cons_zero] at hK ⊢
          have HK := Lib.hid hK
          clear hK hK0
          rw [if_pos (by rfl)]
          clear hd
          go_simp
          exact HK.out _ _ hI (Below.refl _ _) ⟨rfl, fun h => by cases h⟩
        · intro k' x W hkn hI hd K hK0
          have hK := hK0.out
          simp only [setAll, Act.put, List.foldl_cons, List.foldl_nil, List.setIfInBounds_toArray, List.set_cons_succ, List.set_cons_zero] at hK ⊢
          have HK := Lib.hid hK
          clear hK hK0
          rw [if_pos (by rfl)]
          clear hd
          go_simp
          exact HK.out _ _ hI (Below.refl _ _) ⟨rfl, fun h => by cases h⟩
        · intro k' x W hkn hI hd K hK0
          have hK := hK0.out
          simp only [setAll, Act.put, List.foldl_cons, List.foldl_nil, List.setIfInBounds_toArray, List.set_cons_succ, List.set_cons_zero] at hK ⊢
          have HK := Lib.hid hK
          clear hK hK0
          rw [if_pos (by rfl)]
          obtain e25 : x 25 = .slice (some ⟨b6, off6, none⟩) n cap6 := hd 6 _ rfl (by kernel_rfl)
          rw [e25] at HK ⊢
          clear e25
          clear hd
          go_simp
          exact HK.out _ _ hI (Below.refl _ _) ⟨rfl, fun h => by cases h⟩
        · intro k' x W hkn hI hd K hK0
          have hK := hK0.out
          simp only [setAll, Act.put, List.foldl_cons, List.foldl_nil, List.setIfInBounds_toArray, List.set_cons_succ, List.set_cons_zero] at hK ⊢
          have HK := Lib.hid hK
          clear hK hK0
          rw [if_pos (by rfl)]
          clear hd
          go_simp
          exact HK.out _ _ hI (Below.refl _ _) ⟨rfl, fun h => by cases h⟩
        · intro k' x W hkn hI hd K hK0
          have hK := hK0.out
          simp only [setAll, Act.put, List.foldl_cons, List.foldl_nil, List.setIfInBounds_toArray, List.set_cons_succ, List.set_cons_zero] at hK ⊢
          have HK := Lib.hid hK
          clear hK hK0
          rw [if_pos (by rfl)]
          obtain e27 : x 27 = .pointer (some ⟨w.heap.size, 0, none⟩) := hd 8 _ rfl (by kernel_rfl)
          rw [e27] at HK ⊢
          clear e27
          clear hd
          have cx := (HX.out.below hI HX.out.lt).cells
          go_simp
          exact HK.out _ _ hI (Below.refl _ _) ⟨rfl, fun h => by cases h⟩
        · intro k' x W hkn hI hd K hK0
          have hK := hK0.out
          simp only [setAll, Act.put, List.foldl_cons, List.foldl_nil, List.setIfInBounds_toArray, List.set_cons_succ, List.set_cons_zero] at hK ⊢
          have HK := Lib.hid hK
          clear hK hK0
          rw [if_pos (by rfl)]
          obtain e26 : x 26 = .int .i64 (n : Int) := hd 7 _ rfl (by kernel_rfl)
          obtain e28 : x 28 = .int .i64 room := hd 9 _ rfl (by kernel_rfl)
          rw [e26, e28] at HK ⊢
          clear e26 e28
          clear hd
          go_simp
          exact HK.out _ _ hI (Below.refl _ _) ⟨rfl, fun h => by cases h⟩
        · intro k' x W hkn hI hd K hK0
          have hK := hK0.out
          simp only [setAll, Act.put, List.foldl_cons, List.foldl_nil, List.setIfInBounds_toArray, List.set_cons_succ, List.set_cons_zero] at hK ⊢
          have HK := Lib.hid hK
          clear hK hK0
          rw [if_pos (by rfl)]
          obtain e29 : x 29 = .int .i64 d := hd 10 _ rfl (by kernel_rfl)
          rw [e29] at HK ⊢
          clear e29
          clear hd
          go_simp
          exact HK.out _ _ hI (Below.refl _ _) ⟨rfl, fun h => by cases h⟩
        · intro k' x W hkn hI hd K hK0
          have hK := hK0.out
          simp only [setAll, Act.put, List.foldl_cons, List.foldl_nil, List.setIfInBounds_toArray, List.set_cons_succ, List.set_cons_zero] at hK ⊢
          have HK := Lib.hid hK
          clear hK hK0
          rw [if_pos (by rfl)]
          obtain e24 : x 24 = .slice (some ⟨b6, off6, none⟩) n cap6 := hd 5 _ rfl (by kernel_rfl)
          obtain e30 : x 30 = .int .i64 (k : Int) := hd 11 _ rfl (by kernel_rfl)
          rw [e24, e30] at HK ⊢
          clear e24 e30
          clear hd
          go_simp
          exact HK.out _ _ hI (Below.refl _ _) ⟨rfl, fun h => by cases h⟩
        · intro k' x W hkn hI hd K hK0
          have hK := hK0.out
          simp only [setAll, Act.put, List.foldl_cons, List.foldl_nil, List.setIfInBounds_toArray, List.set_cons_succ, List.set_cons_zero] at hK ⊢
          have HK := Lib.hid hK
          clear hK hK0
          rw [if_pos (by rfl)]
          obtain e20 : x 20 = .int .i64 room := hd 1 _ rfl (by kernel_rfl)
          obtain e23 : x 23 = .int .i64 (count + 1) := hd 4 _ rfl (by kernel_rfl)
          obtain e31 : x 31 = .slice (some ⟨b6, o6, none⟩) (n - k) (cap6 - k) := hd 12 _ rfl (by kernel_rfl)
          rw [e20, e23, e31] at HK ⊢
          clear e20 e23 e31
          clear hd
          go_simp
          exact HK.out _ _ hI (Below.refl _ _) ⟨rfl, fun h => by cases h⟩
        · intro k' x W hkn hI hd K hK0
          have hK := hK0.out
          simp only [setAll, Act.put, List.foldl_cons, List.foldl_nil, List.setIfInBounds_toArray, List.set_cons_succ, List.set_cons_zero] at hK ⊢
          have HK := Lib.hid hK
          clear hK hK0
          rw [if_pos (by rfl)]
          clear hd
          go_simp
          exact HK.out _ _ (Fr.alloc hI _) (Fr.alloc (Below.refl _ _) _) ⟨⟨_, rfl, hI.size, Blk.new _ _ _ rfl⟩, fun h => by cases h⟩
      case hend4 =>
        intro x W hI hV
        obtain e32 : x 32 = .agg #[.int .i64 room, .int .i64 (count + 1), .slice (some ⟨b6, o6, none⟩) (n - k) (cap6 - k)] := hV 13 _ (by omega) rfl
        obtain ⟨b7, e7, hb7, hB7⟩ : ∃ b, x 7 = .pointer (some ⟨b, 0, none⟩) ∧ w6.heap.size ≤ b ∧ Blk W b 25 #[.int .i64 0, .int .i64 0, .slice none 0 0] := hV 14 _ (by omega) rfl
        clear hV
        simp only [setAll, Act.put, List.foldl_cons, List.foldl_nil, List.setIfInBounds_toArray, List.set_cons_succ, List.set_cons_zero, List.drop_succ_cons, List.drop_zero]
        rw [e32, e7]
        clear e32 e7
        have hRW := R6.lt
        have hBW : Below w6.heap.size w6 (((W.setCell ⟨b7, 0, none⟩ (.int .i64 room)).setCell ⟨b7, 1, none⟩ (.int .i64 (count + 1))).setCell ⟨b7, 2, none⟩ (.slice (some ⟨b6, o6, none⟩) (n - k) (cap6 - k))) := by
          repeat' (first | (with_reducible exact hI) | (with_reducible refine Below.setCell ?_ ?_ _) | (simp; omega) | omega)
        have R7 := R6.below hBW R6.lt
        have N7 : Blk (((W.setCell ⟨b7, 0, none⟩ (.int .i64 room)).setCell ⟨b7, 1, none⟩ (.int .i64 (count + 1))).setCell ⟨b7, 2, none⟩ (.slice (some ⟨b6, o6, none⟩) (n - k) (cap6 - k))) b7 25 #[.int .i64 room, .int .i64 (count + 1), .slice (some ⟨b6, o6, none⟩) (n - k) (cap6 - k)] := by simpa using ((hB7.set_ 0 (.int .i64 room)).set_ 1 (.int .i64 (count + 1))).set_ 2 (.slice (some ⟨b6, o6, none⟩) (n - k) (cap6 - k))
        have L7 := Fr.step L6 hBW
        have PA7 := PA.mem hBW
        have PB7 := PB.mem hBW
        have hW7 := hBW.size
        have c7 := hB7.cells
        have f7 := hB7.free
        clear R6 PA PB HX L6 hI hBW hB7
        go_wp2_with fail
        obtain ⟨w8, hw8⟩ : ∃ w8, w8 = (((W.setCell ⟨b7, 0, none⟩ (.int .i64 room)).setCell ⟨b7, 1, none⟩ (.int .i64 (count + 1))).setCell ⟨b7, 2, none⟩ (.slice (some ⟨b6, o6, none⟩) (n - k) (cap6 - k))) := ⟨_, rfl⟩
        rw [← hw8] at R7 N7 L7 PA7 PB7 hW7 ⊢
        clear hw8 c7 f7
        cases hv : pvsB qs
        · have HV := Lib.hid hv
          clear hv
          rw [HD.out.2.2.1] at hc6 ⊢
          refine (pvsSpec _ _ _ _ PA7 hc6 hm6).mono ?_
          rintro e w9 ⟨rfl, hb9⟩
          rw [HV.out]
          have R9 := R7.below hb9 R7.lt
          have L9 := Fr.step L7 hb9
          have r0 := R9.cells 0; have r1 := R9.cells 1; have r2 := R9.cells 2; have rf := R9.free; have rl := R9.lt
          simp at r0 r1 r2
          clear R7 N7 L7 PA7 PB7 hb9
          go_wp2_with fail
          refine bodyPost_ret (by simp [results, Try.results51, go_sem, r0, r1, r2, rl]; try rfl) rfl ?_
          refine ⟨0, 0, none, 0, [], false, rfl, ?_, RingOk.zero _⟩
          repeat' (first | (with_reducible exact L9) | (with_reducible refine Below.setCell ?_ ?_ _) | (simp; omega) | (simp; done))
        · have HV := Lib.hid hv
          clear hv
          rw [HD.out.2.2.1] at hc6
          have hzl : (qs.drop k).length = n - k := by rw [List.length_drop, HD.out.2.2.1]
          have hzc : (qs.drop k).length ≤ cap6 - k := by rw [List.length_drop]; omega
          have hzm : cap6 - k ≤ 9223372036854775807 := by omega
          rw [← hzl] at N7 ⊢
          rw [HD.out.2.2.1]
          refine (pvsSpec _ _ _ _ PA7 hc6 hm6).mono ?_
          rintro e w9 ⟨rfl, hb9⟩
          rw [HV.out]
          obtain ⟨zs, hzs⟩ : ∃ zs, zs = qs.drop k := ⟨_, rfl⟩
          obtain ⟨cz, hcz⟩ : ∃ cz, cz = cap6 - k := ⟨_, rfl⟩
          rw [← hzs, ← hcz] at N7 hzc ⊢
          rw [← hcz] at hzm
          rw [← hzs] at PB7
          have R9 := R7.below hb9 R7.lt
          have N9 := N7.below hb9 N7.lt
          have L9 := Fr.step L7 hb9
          have PB9 := PB7.mem hb9
          have n0 := N9.cells 0; have n1 := N9.cells 1; have n2 := N9.cells 2; have nl := N9.lt
          simp at n0 n1 n2
          clear R7 N7 L7 PA7 PB7 hb9 hzs hcz hzl k0 k1 c1 c2
          go_wp2_with fail
          refine (ringSpec room (count + 1) _ zs cz w9 PB9 hzc hzm).mono ?_
          rintro e w10 ⟨rfl, hb10⟩
          have N10 := N9.below hb10 N9.lt
          have R10 := R9.below hb10 R9.lt
          have L10 := Fr.step L9 hb10
          have PB10 := PB9.mem hb10
          clear n0 n1 n2 nl N9 R9 L9 PB9 hb10
          cases hr : ringB room (count + 1) zs
          · clear hr
            have r0 := R10.cells 0; have r1 := R10.cells 1; have r2 := R10.cells 2; have rf := R10.free; have rl := R10.lt
            simp at r0 r1 r2
            go_wp2_with fail
            refine bodyPost_ret (by simp [results, Try.results51, go_sem, r0, r1, r2, rl]; try rfl) rfl ?_
            refine ⟨0, 0, none, 0, [], false, rfl, ?_, RingOk.zero _⟩
            repeat' (first | (with_reducible exact L10) | (with_reducible refine Below.setCell ?_ ?_ _) | (simp; omega) | (simp; done))
          · have HR := Lib.hid hr
            clear hr
            have r0 := R10.cells 0; have r1 := R10.cells 1; have r2 := R10.cells 2; have rf := R10.free; have rl := R10.lt
            have n0 := N10.cells 0; have n1 := N10.cells 1; have n2 := N10.cells 2; have nl := N10.lt
            simp at r0 r1 r2 n0 n1 n2
            go_wp2_with fail
            refine bodyPost_ret (by simp [results, Try.results51, go_sem, r0, r1, r2, rl]; try rfl) rfl ?_
            refine ⟨room, count + 1, _, cz, zs, true, rfl, ?_, ⟨?_, hzc, by unfold maxLen; omega, by have := HC.out; omega, (ringB_iff.1 HR.out).2.1, fun _ => ⟨_, rfl⟩⟩⟩
            · repeat' (first | (with_reducible exact L10) | (with_reducible refine Below.setCell ?_ ?_ _) | (simp; omega) | (simp; done))
            · have hne : b6 ≠ w.heap.size + 1 + 1 := by omega
              exact (((PB10.farSet (p := ⟨w.heap.size + 1 + 1, 0, none⟩) hne _).farSet (p := ⟨w.heap.size + 1 + 1, 1, none⟩) hne _).farSet (p := ⟨w.heap.size + 1 + 1, 2, none⟩) hne _).more (by simp)

end Go.Proofs.Ytlnhnljckceeaaa
