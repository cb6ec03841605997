/-
  The iterator over the pictures of a list of packets: its contract.
-/
import Derived.Test.YtjdpagjcbhkonaaPicLaw
import Derived.RangeFuncNested
import Derived.RangeFuncBound
import Derived.RangeFuncCalls
import Derived.RangeFuncLeaves
import Derived.Shelf.Abstract
import Derived.Shelf.RegionOpen
import Derived.WalkKit
import Derived.OwnWalkIn
import Derived.TacticsInMore
import Derived.LoopNIn
import Derived.LoopIn
import Derived.Sort.QuietIn
namespace Go.Proofs.Ytjdpagjcbhkonaa
open Go.RowKit Go.Shelf
set_option linter.unusedSimpArgs false
set_option linter.unusedVariables false
attribute [local go_sem] Oper.semAt_some

/-- A picture: where it begins, the place behind it. -/
abbrev Cut (ps : List Pk) := { c : Nat × Nat // c.1 < c.2 ∧ c.2 ≤ ps.length }
def encCut (ps : List Pk) (c : Cut ps) : Array Value := #[.int .i64 (c.1.1 : Int), .int .i64 (c.1.2 : Int)]
def valsC {ps : List Pk} (L : List (Cut ps)) : List (Nat × Nat) := L.map (·.1)
theorem valsC_snoc {ps : List Pk} (L : List (Cut ps)) (c : Cut ps) : valsC (L ++ [c]) = valsC L ++ [c.1] := by simp [valsC]
theorem valsC_length {ps : List Pk} (L : List (Cut ps)) : (valsC L).length = L.length := by simp [valsC]

/-- What a round keeps: what lay before the call, and the iterator's own box. -/
def KpB (n₀ Bs : Nat) (A B : World) : Prop := Below n₀ A B ∧ B.heap[Bs]? = A.heap[Bs]?
theorem KpB.t {n₀ Bs : Nat} {A B C : World} (h : KpB n₀ Bs A B) (k : KpB n₀ Bs B C) : KpB n₀ Bs A C := ⟨h.1.trans k.1, k.2.trans h.2⟩
theorem KpB.cell {n₀ Bs : Nat} {A B : World} (h : KpB n₀ Bs A B) : B.cell? ⟨Bs, 0, none⟩ = A.cell? ⟨Bs, 0, none⟩ := World.cell?_of_block h.2
theorem KpB.b {n₀ Bs : Nat} {w : World} (hn : n₀ ≤ w.heap.size) (hB : Bs < w.heap.size) (W : World) (l : Nat) (o o' : Obj) (hl : w.heap.size ≤ l) (h : W.heap[l]? = some o) (h1 : o.isCells = false) (h2 : o.isWalk = false) : KpB n₀ Bs W (W.putObj l o') :=
  ⟨belowK_b hn W l o o' hl h h1 h2, World.putObj_heap_other (by omega)⟩

set_option maxRecDepth 100000 in
set_option maxHeartbeats 4000000 in
theorem bounds1_in (F : Fence) (n : Nat) (hF : F.fn 33) (hro : F.round = none) (hn : 1 ≤ n) (l Bs n₀ cap : Nat) (A : Option Addr) (ps : List Pk) (hl : ps.length ≤ cap) (hm : cap ≤ 9223372036854775807) (hl20 : ps.length ≤ 20) (J Jx : List (Cut ps) → World → Prop)
    (hJ : ∀ pre W k, J pre W → J pre (W.drewN k))
    (hY : ∀ pre x W, J pre W → pre.length < ps.length → YieldAt F (n - 1) Try.prog l (encCut ps x) W fun e W' =>
      (e = .returned (.bool true) ∧ J (pre ++ [x]) W' ∧ KpB n₀ Bs W W') ∨ (e = .returned (.bool false) ∧ Jx (pre ++ [x]) W'))
    (W : World) (hBs : W.cell? ⟨Bs, 0, none⟩ = some (.slice A ps.length cap)) (hp : PkRow W n₀ A ps) (h0 : J [] W) :
    CallsIn F n Try.prog 33 #[.func (.yield l) #[] #[], .pointer (some ⟨Bs, 0, none⟩)] W fun e W' => (∃ v, e = .returned v) ∧
      ((∃ ys, valsC ys = (cutsTo ps ps.length).1 ∧ J ys W') ∨ (∃ pre, True ∧ Jx pre W')) := by
  refine callsIn_of_wp Try.func33 rfl hF ?_ hro
  simp only [Try.ntmps33, List.size_toArray, List.length_cons, List.length_nil, Nat.reduceAdd, Nat.reduceSub, Array.replicate_succ, Array.replicate_zero, List.push_toArray, List.append_toArray, List.nil_append, List.cons_append]
  gi_wp2
  gi_loopw [3] (fun c wr => ∃ (f : Nat) (pre : List (Cut ps)), f ≤ ps.length ∧ c = .int .i64 (f : Int) ∧ cutsTo ps f = (valsC pre, f) ∧ J pre wr ∧ KpB n₀ Bs W wr)
    (fun c _ => ps.length - (intOf c).toNat)
  case atStart => exact ⟨0, [], Nat.zero_le _, rfl, rfl, h0, ⟨Below.refl _ _, rfl⟩⟩
  case round =>
    obtain ⟨f, pre, hf, rfl, hcut, hJs, hnx⟩ := hrel
    have hbx := hnx.cell.trans hBs
    have f0 : (0 : Int) ≤ (f : Int) := by omega
    by_cases hlt : f < ps.length
    · obtain ⟨b, off, rfl, hb, hc⟩ := hp (by omega)
      have HC := Lib.hid hc
      clear hc
      have f1 : (f : Int) < (ps.length : Int) := by omega
      have fw : IntKind.i64.wrap ((f : Int) + 1) = ((f + 1 : Nat) : Int) := by rw [IntWalk.i64_in _ (by omega)]; omega
      have hpl : pre.length < ps.length := by have := (cuts_len ps f).1; rw [hcut, valsC_length] at this; exact Nat.lt_of_le_of_lt this hlt
      have HS := Lib.hid (And.intro hcut hpl)
      clear hcut hpl
      gi_wp2
      gi_loopw [4] (fun c wr' => ∃ t : Nat, f ≤ t ∧ t < ps.length ∧ c = .int .i64 ((t + 1 : Nat) : Int) ∧ (∀ j, f ≤ j → j ≤ t → (pk ps j).tm = (pk ps f).tm) ∧ J pre wr' ∧ KpB n₀ Bs W wr')
        (fun c _ => ps.length + 1 - (intOf c).toNat)
      case atStart => exact ⟨f, Nat.le_refl _, hlt, rfl, fun j h1 h2 => by rw [show j = f by omega], hJs, hnx⟩
      case round =>
        clear hbx hJs hnx
        obtain ⟨t, hft, htl, rfl, htm, hJs, hnx⟩ := hrel
        have hbx := hnx.cell.trans hBs
        obtain ⟨P, hP⟩ : ∃ P, P = pk ps f := ⟨_, rfl⟩
        obtain ⟨p0, p1, p2, p3, p4, p5⟩ := (HC.out f P (by rw [hP]; exact pk_at hlt)).keep (w' := wr) fun k => hnx.1.cell (p := ⟨b, k, none⟩) hb
        have HP := Lib.hid hP
        have HT := Lib.hid htm
        clear hP htm
        obtain ⟨K, hK⟩ : ∃ K : Int, K = ((t + 1 : Nat) : Int) := ⟨_, rfl⟩
        have kw : IntKind.i64.wrap (K + 1) = ((t + 1 + 1 : Nat) : Int) := by rw [IntWalk.i64_in _ (by omega)]; omega
        have j0 : (0 : Int) ≤ K := by omega
        have kn : K.toNat = t + 1 := by omega
        have hm1 : (intOf (.int .i64 K)).toNat = t + 1 := kn
        rw [← hK]
        have HK := Lib.hid hK
        have key : (t + 1 = ps.length ∨ (pk ps (t + 1)).tm ≠ (pk ps f).tm) → cutsTo ps (t + 1) = (valsC pre ++ [(f, t + 1)], t + 1) := fun h => by
          refine cuts_step HS.out.1 (by omega) (fun j h1 h2 => endB_no (by omega) ?_) ?_
          · rw [HT.out (j + 1) (by omega) (by omega), HT.out j h1 (by omega)]
          · show endB ps t = true
            rcases h with h | h
            · exact endB_last h
            · exact endB_yes (by rw [HT.out t hft (Nat.le_refl _)]; exact h)
        have HKEY := Lib.hid key
        clear key
        by_cases hlt2 : t + 1 < ps.length
        · have k1 : K < (ps.length : Int) := by omega
          have k2 : decide (K < (ps.length : Int)) = true := by simp [k1]
          obtain ⟨Q, hQ⟩ : ∃ Q, Q = pk ps (t + 1) := ⟨_, rfl⟩
          obtain ⟨q0, q1, q2, q3, q4, q5⟩ := (HC.out (t + 1) Q (by rw [hQ]; exact pk_at hlt2)).keep (w' := wr) fun k => hnx.1.cell (p := ⟨b, k, none⟩) hb
          have HQ := Lib.hid hQ
          clear hQ hK
          by_cases he : Q.tm = P.tm
          · have hed : (Q.tm == P.tm) = true := by simp [he]
            have HE := Lib.hid he
            clear he
            gi_wp2
            refine wpIn_region_quiet_lit hro (by kernel_rfl) (by kernel_rfl) ?_
            repeat (gi_big_quiet_step (fail))
            refine wpQuietIn_nil ?_
            rintro _ ⟨nq, rfl⟩
            gi_wp2
            go_roundw
            case rel => exact ⟨t + 1, by omega, hlt2, rfl, fun j h1 h2 => by
              rcases Nat.lt_or_ge j (t + 1) with h3 | h3
              · exact HT.out j h1 (by omega)
              · rw [show j = t + 1 by omega, ← HQ.out, HE.out, HP.out], hJ _ _ _ hJs, ⟨below_drewN hnx.1 _, hnx.2⟩⟩
            case measure => simp [intOf]; omega
          · have hed : (Q.tm == P.tm) = false := by simp [he]
            have HE := Lib.hid (HKEY.out (.inr (by rw [← HQ.out, ← HP.out]; exact he)))
            clear he
            gi_wp2
            refine wpIn_region_quiet_lit hro (by kernel_rfl) (by kernel_rfl) ?_
            repeat (gi_big_quiet_step (fail))
            refine wpQuietIn_nil ?_
            rintro _ ⟨nq, rfl⟩
            have hJ2 := hJ _ _ nq hJs
            have hn2 : KpB n₀ Bs W (wr.drewN nq) := ⟨below_drewN hnx.1 nq, hnx.2⟩
            obtain ⟨fn, tmps, assign, body, hy, hR⟩ := hY pre ⟨(f, t + 1), by simp; omega⟩ (wr.drewN nq) hJ2 HS.out.2
            simp only [encCut] at hy
            rw [HK.out.symm] at hy
            gi_wp2
            refine hR.mono ?_
            rintro e W3 (⟨rfl, hJ3, hk3⟩ | ⟨rfl, hJx3⟩)
            · gi_wp2
              go_roundw
              case rel => exact ⟨t + 1, pre ++ [⟨(f, t + 1), by simp; omega⟩], by omega, by rw [HK.out], by rw [HE.out, valsC_snoc], hJ3, hn2.t hk3⟩
              case measure => simp [intOf]; omega
            · gi_wp2
              refine bodyPost_ret (results_none rfl _ _ _) rfl ?_
              exact ⟨⟨_, rfl⟩, .inr ⟨_, trivial, hJx3⟩⟩
        · obtain hlen : t + 1 = ps.length := by omega
          have k1 : ¬ K < (ps.length : Int) := by omega
          have k2 : decide (K < (ps.length : Int)) = false := by simp; omega
          have HE := Lib.hid (HKEY.out (.inl hlen))
          clear hK
          · gi_wp2
            refine wpIn_region_quiet_lit hro (by kernel_rfl) (by kernel_rfl) ?_
            repeat (gi_big_quiet_step (fail))
            refine wpQuietIn_nil ?_
            rintro _ ⟨nq, rfl⟩
            have hJ2 := hJ _ _ nq hJs
            have hn2 : KpB n₀ Bs W (wr.drewN nq) := ⟨below_drewN hnx.1 nq, hnx.2⟩
            obtain ⟨fn, tmps, assign, body, hy, hR⟩ := hY pre ⟨(f, t + 1), by simp; omega⟩ (wr.drewN nq) hJ2 HS.out.2
            simp only [encCut] at hy
            rw [HK.out.symm] at hy
            gi_wp2
            refine hR.mono ?_
            rintro e W3 (⟨rfl, hJ3, hk3⟩ | ⟨rfl, hJx3⟩)
            · gi_wp2
              go_roundw
              case rel => exact ⟨t + 1, pre ++ [⟨(f, t + 1), by simp; omega⟩], by omega, by rw [HK.out], by rw [HE.out, valsC_snoc], hJ3, hn2.t hk3⟩
              case measure => simp [intOf]; omega
            · gi_wp2
              refine bodyPost_ret (results_none rfl _ _ _) rfl ?_
              exact ⟨⟨_, rfl⟩, .inr ⟨_, trivial, hJx3⟩⟩
    · obtain rfl : f = ps.length := by omega
      gi_wp2
      go_end0
      exact ⟨⟨_, rfl⟩, .inl ⟨_, by rw [hcut], hJs⟩⟩

theorem bounds_stops (F : Fence) (n : Nat) (hF : F.fn 33) (hro : F.round = none) (hn : 1 ≤ n) (Bs n₀ cap : Nat) (A : Option Addr) (ps : List Pk) (hl : ps.length ≤ cap) (hm : cap ≤ 9223372036854775807) (hl20 : ps.length ≤ 20) (w : World) (hB : Bs < w.heap.size) (hn₀ : n₀ ≤ w.heap.size)
    (hBs : w.cell? ⟨Bs, 0, none⟩ = some (.slice A ps.length cap)) (hp : PkRow w n₀ A ps) :
    SeqStopsK F n Try.prog 33 #[.pointer (some ⟨Bs, 0, none⟩)] (encCut ps) (KpB n₀ Bs) (fun ys => valsC ys = (cutsTo ps ps.length).1) (fun _ => True) ps.length w := fun l J Jx W hW hJ _ hY h0 =>
  bounds1_in F n hF hro hn l Bs n₀ cap A ps hl hm hl20 J Jx (fun pre W k h => hJ pre W (W.drewN k) none h ⟨rfl, rfl, rfl, Nat.le_refl _, fun _ _ _ => rfl⟩ (fun r e => by cases e)) hY W ((hW.cell (p := ⟨Bs, 0, none⟩) hB).trans hBs) (hp.below (hW.mono hn₀)) h0

set_option maxHeartbeats 1000000 in
theorem bounds_any (A : Option Addr) (len cap : Nat) (w : World) :
    Calls Try.prog 25 #[.slice A len cap] w fun e w' => e = .returned (.func (.func 33) #[] #[.pointer (some ⟨w.heap.size, 0, none⟩)]) ∧ w' = w.alloc (.cells #[.slice A len cap] 23) := by
  go_enter Try.func25, Try.ntmps25
  go_wp2
  go_ret
  exact ⟨rfl, rfl⟩

end Go.Proofs.Ytjdpagjcbhkonaa
