/-
  PicturesOf of the program.
-/
import Derived.Test.YtjdpagjcbhkonaaPicIter
import Derived.Test.YtjdpagjcbhkonaaPicRow
import Derived.Test.YtjdpagjcbhkonaaWholeI
import Derived.Maps.AppendAt
import Derived.Sort.CutIn
namespace Go.Proofs.Ytjdpagjcbhkonaa
open Go.RowKit Go.Shelf
set_option linter.unusedSimpArgs false
set_option linter.unusedVariables false
attribute [local go_sem] Oper.semAt_some

set_option maxRecDepth 100000 in
set_option maxHeartbeats 4000000 in
theorem picsImpl (A : Option Addr) (ps : List Pk) (cap : Nat) (w : World) (hp : PkRow w w.heap.size A ps) (hl : ps.length ≤ cap) (hm : cap ≤ 9223372036854775807) :
    Calls Try.prog 10 #[.slice A ps.length cap] w (PicPost (pics ps) w) := by
  obtain ⟨i0, hi, hz0, hz1, hz2⟩ := info_parts picInfo
  have HI := Lib.hid (And.intro hi (And.intro hz0 (And.intro hz1 hz2)))
  have HP := Lib.hid hp
  have HH := Lib.hid (And.intro hl hm)
  clear hi hz0 hz1 hz2 hp hl hm
  refine (callsIn_wide (n := 8)).1 ?_
  refine callsIn_of_wp_marks Try.func10 rfl trivial ?_ rfl
  simp only [Try.ntmps10, List.size_toArray, List.length_cons, List.length_nil, Nat.reduceAdd, Nat.reduceSub, Array.replicate_succ, Array.replicate_zero, List.push_toArray, List.append_toArray, List.nil_append, List.cons_append]
  gi_wp2_with fail
  have L1 : Below w.heap.size w (((w.alloc (.cells #[.slice A ps.length cap] 23)).alloc (.cells #[] 29)).alloc (.cells #[.slice (some ⟨w.heap.size + 1, 0, none⟩) 0 0] 25)) := Fr.alloc3 (Below.refl _ _) _ _ _
  have bL := ((Boxed.new w 23 (.slice A ps.length cap)).alloc (.cells #[] 29)).alloc (.cells #[.slice (some ⟨w.heap.size + 1, 0, none⟩) 0 0] 25)
  have bP := Boxed.new ((w.alloc (.cells #[.slice A ps.length cap] 23)).alloc (.cells #[] 29)) 25 (.slice (some ⟨w.heap.size + 1, 0, none⟩) 0 0)
  have bO := (Blk.new (w.alloc (.cells #[.slice A ps.length cap] 23)) 29 #[] rfl).alloc (.cells #[.slice (some ⟨w.heap.size + 1, 0, none⟩) 0 0] 25)
  rw [show ((w.alloc (.cells #[.slice A ps.length cap] 23)).alloc (.cells #[] 29)).heap.size = w.heap.size + 1 + 1 by simp] at bP
  rw [show (w.alloc (.cells #[.slice A ps.length cap] 23)).heap.size = w.heap.size + 1 by simp] at bO
  generalize ((w.alloc (.cells #[.slice A ps.length cap] 23)).alloc (.cells #[] 29)).alloc (.cells #[.slice (some ⟨w.heap.size + 1, 0, none⟩) 0 0] 25) = w1 at L1 bL bP bO ⊢
  refine ⟨trivial, (callsIn_wide.2 (pvsImpl A ps cap w1 ((HP.out.below L1).more L1.size) HH.out.1 HH.out.2)).mono ?_⟩
  rintro e w2 ⟨rfl, hb2⟩
  have L2 := Fr.step L1 hb2
  have bL2 : Boxed w2 w.heap.size 23 (.slice A ps.length cap) := (hb2.block _ bL.lt).trans bL
  have bP2 : Boxed w2 (w.heap.size + 1 + 1) 25 (.slice (some ⟨w.heap.size + 1, 0, none⟩) 0 0) := (hb2.block _ bP.lt).trans bP
  have bO2 : Blk w2 (w.heap.size + 1) 29 #[] := bO.below hb2 bO.lt
  have hc1 := bL2.cell
  have hc2 := bP2.cell
  have hO : OwnP w2 w.heap.size (.slice (some ⟨w.heap.size + 1, 0, none⟩) 0 0) [] := OwnP.empty (T := 0) bO2 (by omega)
  clear bL bP bO hb2 bO2 L1
  cases hv : pvsB ps
  · have HV := Lib.hid hv
    clear hv
    gi_wp2_with fail
    exact ⟨_, results_tmp rfl _ _ _, _, rfl, by unfold pics cuts; rw [HV.out]; exact hO, L2⟩
  · have HV := Lib.hid hv
    clear hv
    gi_wp2_with fail
    refine ⟨trivial, (callsIn_wide.2 (bounds_any A ps.length cap w2)).mono ?_⟩
    rintro e w3 ⟨rfl, hw3⟩
    have L3 : Below w.heap.size w w3 := hw3 ▸ Fr.alloc L2 _
    have bB3 : Boxed w3 w2.heap.size 23 (.slice A ps.length cap) := hw3 ▸ Boxed.new w2 _ _
    have bL3 : Boxed w3 w.heap.size 23 (.slice A ps.length cap) := hw3 ▸ bL2.alloc _
    have bP3 : Boxed w3 (w.heap.size + 1 + 1) 25 (.slice (some ⟨w.heap.size + 1, 0, none⟩) 0 0) := hw3 ▸ bP2.alloc _
    have hO3 : OwnP w3 w.heap.size (.slice (some ⟨w.heap.size + 1, 0, none⟩) 0 0) [] := hw3 ▸ hO.alloc _
    obtain ⟨Bs, hBs⟩ : ∃ Bs, Bs = w2.heap.size := ⟨_, rfl⟩
    rw [← hBs] at bB3 ⊢
    have hBw : w.heap.size + 1 + 1 < Bs := by have := bP2.lt; omega
    have hBw3 : Bs < w3.heap.size := bB3.lt
    clear hw3 bL2 bP2 hc1 hc2 hO L2 hBs
    have HL20 := Lib.hid (pvsB_iff.1 HV.out).1
    gi_wp2_with fail
    refine wpIn_rangeFunc_ownG (F := Fence.wide) rfl (by omega) (gf := 33) (lb := #[.pointer (some ⟨Bs, 0, none⟩)]) rfl trivial (enters_of Try.func33 (by kernel_rfl) rfl)
      (bounds_stops Fence.wide 7 trivial rfl (by omega) Bs w.heap.size cap A ps HH.out.1 HH.out.2 HL20.out w3 hBw3 L3.size bB3.cell (HP.out.below L3)) KpB.t (fun W l o o' h1 h2 h3 h4 => KpB.b L3.size hBw3 W l o o' h1 h2 h3 h4) (Below.refl _ _) (fun _ => rfl)
      (fun pre W => ((∃ v, Boxed W (w.heap.size + 1 + 1) 25 v ∧ W.ownsRow w.heap.size 29 5 v ((valsC pre).map (pict ps)).length (piccs ((valsC pre).map (pict ps))) ∧ True) ∧ Boxed W w.heap.size 23 (.slice A ps.length cap)) ∧ Boxed W Bs 23 (.slice A ps.length cap) ∧ Below w.heap.size w W)
      (fun _ _ _ => False)
      (OwnFrom.and (OwnFrom.and (Go.Own.from (holdsRow_own w.heap.size (w.heap.size + 1 + 1) 25 29 5 (fun (pre : List (Cut ps)) => ((valsC pre).map (pict ps)).length) (fun pre => piccs ((valsC pre).map (pict ps))) (fun _ _ => True)) _) (Go.Own.from (boxed_own _ _ _) _)) (OwnFrom.and (Go.Own.from (boxed_own _ _ _) _) (ownFrom_below (Nat.le_refl _) L3.size)))
      (fun _ _ _ _ _ hs _ _ => hs)
      ⟨⟨⟨_, bP3, hO3, trivial⟩, bL3⟩, bB3, L3⟩
      (fun x => { tmps := #[.slice A ps.length cap, .pointer (some ⟨w.heap.size, 0, none⟩), .slice none 0 0, .pointer (some ⟨w.heap.size + 1 + 1, 0, none⟩), .int .i64 (x.1.1 : Int), .int .i64 (x.1.2 : Int), undef, undef, undef, undef, .slice (some ⟨w.heap.size + 1, 0, none⟩) 0 0, .slice A ps.length cap, .bool true, .bool false, undef, .slice A ps.length cap, .func (.func 33) #[] #[.pointer (some ⟨Bs, 0, none⟩)], .int .i64 (x.1.1 : Int), .int .i64 (x.1.2 : Int), undef, undef, undef, undef, undef, undef, undef, undef, undef, undef, undef, undef, undef, undef, undef, undef, undef, undef, undef, undef, undef, undef, undef, undef, undef, undef, undef, undef, undef, undef, undef, undef, undef, undef, undef, undef, undef, undef], defers := [] }) ?assign ?body ?done ?stop
    case assign =>
      intro l x W K hK
      simp only [encCut]
      gi_wp2
      exact hK
    case body =>
      rintro l pre ⟨⟨f, t⟩, hft, htl⟩ W ⟨⟨⟨v, hv, hrow, -⟩, hbL⟩, hbB, hB⟩ hpre
      have hft' : f < t := hft
      have htl' : t ≤ ps.length := htl
      obtain ⟨m, rfl⟩ : ∃ m, t = f + m := ⟨t - f, by omega⟩
      obtain ⟨b, off, rfl, hbb, hcs⟩ := HP.out (by omega)
      obtain ⟨P, hP⟩ : ∃ P, P = pk ps f := ⟨_, rfl⟩
      obtain ⟨p0, p1, p2, p3, p4, p5⟩ := (hcs f P (by rw [hP]; exact pk_at (by omega))).keep (w' := W) fun k => hB.cell (p := ⟨b, k, none⟩) hbb
      have hc1 := hbL.cell
      have hWs := hB.size
      have hn1 : (m : Int) ≤ 20 := by have := HL20.out; omega
      have hn2 : (f : Int) ≤ 20 := by have := HL20.out; omega
      have hlc : (ps.length : Int) ≤ cap := by have := HH.out.1; omega
      have hl20 : (ps.length : Int) ≤ 20 := by have := HL20.out; omega
      have hcm := HH.out.2
      have f0 : (0 : Int) ≤ (f : Int) := by omega
      have f1 : (f : Int) < (ps.length : Int) := by omega
      obtain ⟨T, hT⟩ : ∃ T : Int, T = ((f + m : Nat) : Int) := ⟨_, rfl⟩
      have t0 : (f : Int) ≤ T := by omega
      have t1 : T ≤ (ps.length : Int) := by omega
      have t2 : T ≤ (cap : Int) := by omega
      have tn : T.toNat = f + m := by omega
      have tw : IntKind.i64.wrap (T - (f : Int)) = (m : Int) := by rw [IntWalk.i64_in _ (by omega)]; omega
      simp only []
      rw [← hT]
      have HPT := Lib.hid (And.intro hP (And.intro hT (And.intro hft' htl')))
      have HROW := Lib.hid hcs
      have HV1 := Lib.hid (And.intro hv (And.intro hrow (And.intro hbB (And.intro hB hpre))))
      clear hP hT hft' htl' hcs hv hrow hbB hB hpre
      gi_upto_region 9 with fail
      have B2 : Below W.heap.size W ((W.alloc (.cells #[.int .i64 P.wd, .int .i64 P.tm, .int .i64 P.ly, .int .i64 P.sz, .bool P.k, .bool P.l] 31)).alloc (.cells #[.int .i64 P.tm, .int .i64 (m : Int), .int .i64 0, .bool P.k, .bool false] 29)) := Fr.alloc2 (Below.refl _ _) _ _
      have K2 : KeepsOthers W ((W.alloc (.cells #[.int .i64 P.wd, .int .i64 P.tm, .int .i64 P.ly, .int .i64 P.sz, .bool P.k, .bool P.l] 31)).alloc (.cells #[.int .i64 P.tm, .int .i64 (m : Int), .int .i64 0, .bool P.k, .bool false] 29)) := (KeepsOthers.alloc _ _).trans (KeepsOthers.alloc _ _)
      have hbL2 := (hbL.alloc (.cells #[.int .i64 P.wd, .int .i64 P.tm, .int .i64 P.ly, .int .i64 P.sz, .bool P.k, .bool P.l] 31)).alloc (.cells #[.int .i64 P.tm, .int .i64 (m : Int), .int .i64 0, .bool P.k, .bool false] 29)
      have hPic : Blk ((W.alloc (.cells #[.int .i64 P.wd, .int .i64 P.tm, .int .i64 P.ly, .int .i64 P.sz, .bool P.k, .bool P.l] 31)).alloc (.cells #[.int .i64 P.tm, .int .i64 (m : Int), .int .i64 0, .bool P.k, .bool false] 29)) (W.heap.size + 1) 29 #[.int .i64 P.tm, .int .i64 (m : Int), .int .i64 0, .bool P.k, .bool false] := Blk.new _ _ _ (by simp)
      have hW2 : ((W.alloc (.cells #[.int .i64 P.wd, .int .i64 P.tm, .int .i64 P.ly, .int .i64 P.sz, .bool P.k, .bool P.l] 31)).alloc (.cells #[.int .i64 P.tm, .int .i64 (m : Int), .int .i64 0, .bool P.k, .bool false] 29)).heap.size = W.heap.size + 1 + 1 := by simp
      generalize ((W.alloc (.cells #[.int .i64 P.wd, .int .i64 P.tm, .int .i64 P.ly, .int .i64 P.sz, .bool P.k, .bool P.l] 31)).alloc (.cells #[.int .i64 P.tm, .int .i64 (m : Int), .int .i64 0, .bool P.k, .bool false] 29)) = W2 at B2 K2 hbL2 hPic hW2 ⊢
      have hc2 := hbL2.cell
      have HBL := Lib.hid hbL
      clear hc1 hbL
      have hb1 : b < W.heap.size + 1 := by omega
      gi_wp2
      gi_loopw [36] (fun c wr => ∃ i : Nat, i ≤ m ∧ c = .int .i64 (i : Int) ∧ Blk wr (W.heap.size + 1) 29 #[.int .i64 P.tm, .int .i64 (m : Int), .int .i64 (szTo ps (f + i) - szTo ps f), .bool P.k, .bool false] ∧ Below (W.heap.size + 1) W2 wr) (fun c _ => m - (intOf c).toNat)
      case atStart => exact ⟨0, Nat.zero_le _, rfl, by simpa using hPic, Below.refl _ _⟩
      case round =>
        clear hPic
        obtain ⟨i, him, rfl, hPic, hbel⟩ := hrel
        have hcP := hPic.cells
        have hfP := hPic.free
        have hlP := hPic.lt
        have hbW : Below W.heap.size W wr := B2.trans (hbel.mono (by omega))
        have hbL3 : Boxed wr w.heap.size 23 (.slice (some ⟨b, off, none⟩) ps.length cap) := (hbel.block _ (by have := HBL.out.lt; omega)).trans hbL2
        have hc3 := hbL3.cell
        clear hc2
        by_cases hlt : i < m
        · obtain ⟨Q, hQ⟩ : ∃ Q, Q = pk ps (f + i) := ⟨_, rfl⟩
          have hq := (HROW.out (f + i) Q (by rw [hQ]; exact pk_at (by have := HPT.out; omega))).keep (w' := wr) fun k => (HV1.out.2.2.2.1.trans (hbW.mono hWs)).cell (p := ⟨b, k, none⟩) hbb
          rw [show off + (f + i) * 6 = off + f * 6 + i * 6 by omega] at hq
          obtain ⟨q0, q1, q2, q3, q4, q5⟩ := hq
          have s1 := szTo_mono HV.out (f := f) (i := f + i) (by omega) (by have := HPT.out; omega)
          have s2 := szTo_le HV.out (i := f + i) (by have := HPT.out; omega)
          have s3 := szTo_le HV.out (i := f) (by have := HPT.out; omega)
          have s4 := pvs_sz HV.out (i := f + i) (by have := HPT.out; omega)
          rw [← hQ] at s4
          have HS := Lib.hid (show szTo ps (f + (i + 1)) = szTo ps (f + i) + Q.sz by rw [hQ]; rfl)
          obtain ⟨S, hS⟩ : ∃ S : Int, S = szTo ps (f + i) - szTo ps f := ⟨_, rfl⟩
          rw [← hS] at hPic hcP
          have sw : IntKind.i64.wrap (S + Q.sz) = S + Q.sz := IntWalk.i64_in _ (by omega)
          have HSS := Lib.hid hS
          have i0 : (0 : Int) ≤ (i : Int) := by omega
          have i1 : (i : Int) < (m : Int) := by omega
          have hb3 : b < wr.heap.size := by omega
          have hne : W.heap.size + 1 < wr.heap.size := hlP
          clear hQ hS s1 s2 s3 s4
          gi_wp2
          go_roundw
          case rel => exact ⟨i + 1, by omega, by go_num, by
            have := (hPic.set_ 2 (.int .i64 (S + Q.sz))).alloc (.cells #[.int .i64 Q.wd, .int .i64 Q.tm, .int .i64 Q.ly, .int .i64 Q.sz, .bool Q.k, .bool Q.l] 31)
            rw [show szTo ps (f + (i + 1)) - szTo ps f = S + Q.sz by rw [HS.out, HSS.out]; omega]
            simpa using this, by
            repeat' (first | (with_reducible exact hbel) | (with_reducible refine Below.setCell ?_ ?_ _) | (with_reducible refine Below.alloc ?_ ?_ _) | (simp; done) | (simp; omega))⟩
          case measure => simp [intOf]; omega
        · obtain rfl : i = m := by omega
          have s1 := szTo_mono HV.out (f := f) (i := f + i) (by omega) (by have := HPT.out; omega)
          have s2 := szTo_le HV.out (i := f + i) (by have := HPT.out; omega)
          obtain ⟨S, hS⟩ : ∃ S : Int, S = szTo ps (f + i) - szTo ps f := ⟨_, rfl⟩
          rw [← hS] at hPic hcP
          have HSS := Lib.hid hS
          clear hS s1 s2
          have hcall := fun W' h => whole_any (some ⟨b, off, none⟩) ps cap f (f + i) W' h HH.out.1 HH.out.2 HV.out HPT.out.2.2.1 HPT.out.2.2.2
          rw [← HPT.out.2.1] at hcall
          have hrw : PkRow wr wr.heap.size (some ⟨b, off, none⟩) ps := fun _ => ⟨b, off, rfl, by omega, fun j p hj => (HROW.out j p hj).keep fun k => (HV1.out.2.2.2.1.trans (hbW.mono hWs)).cell (p := ⟨b, k, none⟩) hbb⟩
          have hcall2 := hcall wr hrw
          clear hcall hrw
          gi_wp2
          refine ⟨trivial, (CallsIn.inRound l (callsIn_wide.2 hcall2)).mono ?_⟩
          rintro e w5 ⟨rfl, hb5⟩
          clear hcall2
          have hPic5 := hPic.below hb5 hPic.lt
          have hbW5 : Below W.heap.size W w5 := hbW.trans (hb5.mono (by have := hbW.size; omega))
          have hcP5 := hPic5.cells
          have hfP5 := hPic5.free
          have hlP5 := hPic5.lt
          clear hPic hcP hfP hlP hbel hbL3 hc3 hb5 hbW
          gi_upto_region 15 with fail
          obtain ⟨q, hq⟩ : ∃ q, q = pict ps (f, f + i) := ⟨_, rfl⟩
          have hqc : picc q = [.int .i64 P.tm, .int .i64 (i : Int), .int .i64 S, .bool P.k, .bool (wholeB ps f (f + i - 1))] := by
            rw [hq, HPT.out.1, HSS.out]
            simp [picc, pict]
            omega
          have hPic6 : Blk (w5.setCell ⟨W.heap.size + 1, 4, none⟩ (.bool (wholeB ps f (f + i - 1)))) (W.heap.size + 1) 29 (picc q).toArray := by
            have := hPic5.set_ 4 (.bool (wholeB ps f (f + i - 1)))
            rw [hqc]
            simpa using this
          have hbW6 : Below W.heap.size W (w5.setCell ⟨W.heap.size + 1, 4, none⟩ (.bool (wholeB ps f (f + i - 1)))) := hbW5.setCell (p := ⟨W.heap.size + 1, 4, none⟩) (by show W.heap.size ≤ W.heap.size + 1; omega) _
          generalize w5.setCell ⟨W.heap.size + 1, 4, none⟩ (.bool (wholeB ps f (f + i - 1))) = w6 at hPic6 hbW6 ⊢
          clear hPic5 hcP5 hfP5 hlP5 hbW5
          have hgW6 : W.grownBy w6 none := ⟨hbW6.os, hbW6.tape, hbW6.output, hbW6.size, fun k hk _ => hbW6.block k hk⟩
          have hv6 := HV1.out.1.kept hgW6 (by simp)
          have hrow6 : w6.ownsRow w.heap.size 29 5 v ((valsC pre).map (pict ps)).length (piccs ((valsC pre).map (pict ps))) := HV1.out.2.1.kept hgW6 (by cases hx : v.ownBlock with | none => exact .inl rfl | some k => right; intro e; cases e)
          have hbB6 : Boxed w6 Bs 23 (.slice (some ⟨b, off, none⟩) ps.length cap) := HV1.out.2.2.1.kept hgW6 (by simp)
          have hbL6 : Boxed w6 w.heap.size 23 (.slice (some ⟨b, off, none⟩) ps.length cap) := (hbW6.block _ HBL.out.lt).trans HBL.out
          have hB6 := HV1.out.2.2.2.1.trans (hbW6.mono hWs)
          have hKO : KeepsOthers W w6 := KeepsOthers.of_grownBy hgW6 (fun j o e => by cases e)
          obtain ⟨n, hn⟩ : ∃ n, n = ((valsC pre).map (pict ps)).length := ⟨_, rfl⟩
          have hnl : n ≤ 20 := by have h1 := HV1.out.2.2.2.2; have h2 := HL20.out; rw [hn, List.length_map, valsC_length]; omega
          obtain ⟨cs, hcs⟩ : ∃ cs, cs = piccs ((valsC pre).map (pict ps)) := ⟨_, rfl⟩
          rw [← hn, ← hcs] at hrow6
          have hcc := hv6.cell
          obtain ⟨c0, c1, c2, c3, c4⟩ : Five w6 (W.heap.size + 1) 0 q := by
            have hc := hPic6.cells
            exact ⟨by rw [hc]; rfl, by rw [hc]; rfl, by rw [hc]; rfl, by rw [hc]; rfl, by rw [hc]; rfl⟩
          have HX := Lib.hid (And.intro hqc (And.intro hn (And.intro hcs hq)))
          clear hqc hn hcs hq
          simp only [Nat.zero_add] at c1 c2 c3 c4
          gi_wp2_with (gi_at_builtin; refine wpListIn_append_own _ rfl _ _ 25 rfl w.heap.size 29 i0 _ 5 32 Try.underlying25 HI.out.1 HI.out.2.1 HI.out.2.2.1 HI.out.2.2.2 rfl (by decide) _ _ _ rfl (hrow6.alloc _) ⟨w6.heap.size, 0, none⟩ 1 1 (picc q) rfl rfl (World.news_of_block (heap_alloc_new w6 _)) (by intro u hu; simp [picc] at hu; rcases hu with rfl | rfl | rfl | rfl | rfl <;> rfl) (by unfold maxLen; omega) (by omega) (by have := hB6.size; simp; omega) ?_; intro v' w8 hown' hgrow _; obtain ⟨g', cap', rfl⟩ := ownsRow_succ hown'; obtain ⟨hv1, hv2, hr2, hk2, hb2⟩ := hv6.appended (by decide) hrow6 hB6.size (by omega) hown' hgrow; have hd1 := hv1.cell; have hf1 := hv1.frozen)
          have hbB7 := ((hbB6.alloc (.cells (picc q).toArray 29)).kept hgrow (hbB6.not_row (by decide) hrow6)).other (B' := w.heap.size + 1 + 1) (by omega) (.slice (some ⟨g', 0, none⟩) (n + 1) cap')
          have hbL7 := ((hbL6.alloc (.cells (picc q).toArray 29)).kept hgrow (hbL6.not_row (by decide) hrow6)).other (B' := w.heap.size + 1 + 1) (by omega) (.slice (some ⟨g', 0, none⟩) (n + 1) cap')
          have e1 : ∀ h, (valsC (pre ++ [⟨(f, f + i), h⟩])).map (pict ps) = (valsC pre).map (pict ps) ++ [q] := fun h => by simp [valsC, HX.out.2.2.2]
          exact ⟨(hKO.trans hk2).from _, ⟨(hbW6.mono hWs).trans hb2, hbB7.trans (Eq.symm HV1.out.2.2.1)⟩, ⟨⟨_, hv2, by
            rw [e1, List.length_append, piccs_append, ← HX.out.2.1, ← HX.out.2.2.1]
            simpa [piccs] using hr2, trivial⟩, hbL7⟩, hbB7, hB6.trans hb2⟩
    case done =>
      rintro D ys W hD hS ⟨⟨⟨v, hv, hrow, -⟩, hbL⟩, hbB, hB⟩ hK
      have hc := hv.cell
      gi_wp2
      refine ⟨by simp, .inl ⟨_, _, rfl, run_takeDeferred hK, ?_⟩⟩
      have he : pics ps = (valsC ys).map (pict ps) := by unfold pics cuts; rw [HV.out, hS]; rfl
      exact ⟨_, results_tmp rfl _ _ _, v, rfl, by rw [he]; exact ownsRow_putObj hrow _ hK rfl, hB.trans (belowK_b (w := w) (Nat.le_refl _) W D _ _ (by have := L3.size; omega) hK rfl rfl)⟩
    case stop =>
      rintro D c pre W _ _ h _
      exact h.elim

end Go.Proofs.Ytjdpagjcbhkonaa
