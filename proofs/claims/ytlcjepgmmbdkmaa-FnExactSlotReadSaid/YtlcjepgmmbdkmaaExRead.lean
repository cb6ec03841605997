/-
  FnExactSlotRead, beside leavers.
-/
import Derived.Test.YtlcjepgmmbdkmaaRead
import Derived.Test.YtlcjepgmmbdkmaaKd
set_option linter.unusedVariables false
namespace Go.Br
open Go.Br Go.Conc Go.RowKit Go.Proofs.Ytlcjepgmmbdkmaa
theorem Low.cellE {B : Nat} {u u' : World} (h : Low B u u') {b o : Nat} (hb : b < B) : u'.cell? ⟨b, o, none⟩ = u.cell? ⟨b, o, none⟩ := by simp [World.cell?, h b hb]
theorem Low.blkE {B : Nat} {u u' : World} (h : Low B u u') {b : Nat} {T : TypeId} {c : Array Value} (k : Blk u b T c) (hb : b < B) : Blk u' b T c := by
  unfold Blk at k ⊢; rw [h b hb]; exact k
theorem Low.intsE {B : Nat} {u u' : World} (h : Low B u u') {A : Option Addr} {xs : List Int} (k : IntRow u B A xs) : IntRow u' B A xs := k.keep fun b o hb => h.cellE hb
end Go.Br
namespace Go.Proofs.Ytlcjepgmmbdkmaa
open Go.Br Go.Conc Go.RowKit
open Go.Proofs.Ytlcjepgmmbdkmaa.Ph (plainF plainF_ok NewAt kh_newSlot)
open Go.ConcM (OsLater)
set_option linter.unusedSimpArgs false
set_option linter.unusedVariables false

/-- What was there stands; time has passed. -/
structure SinceE (W w : World) : Prop where
  size : W.heap.size ≤ w.heap.size
  old : ∀ b, b < W.heap.size → w.heap[b]? = W.heap[b]?
  out : w.output = W.output
  tape : w.tape = W.tape
  os : OsLater W.os w.os
theorem SinceE.of {W w u : World} {S : Nat → Bool} (h : At W S w u) : SinceE W w := ⟨h.size, h.old, h.out, h.tape, h.os⟩
def YesE (W : World) (v : Value) (w : World) : Prop := v = .bool true ∧ SinceE W w
theorem row_start {W : World} {B : Nat} {A : Option Addr} {xs : List Int} (h : IntRow W B A xs) (T : Nat → Question → Nat) (d : Nat) : IntRow (pos (hid (fun _ => false) W) T d) B A xs :=
  h.keep fun b o _ => by rw [cell_pos, cell_hid]; rfl
theorem lowAlloc {B : Nat} {u : World} (hB : B ≤ u.heap.size) (o : Obj) : Low B u (u.alloc o) := fun b hb => by rw [Below.heap_alloc _ _ _ (by omega)]
theorem Keep.lowE {B : Nat} {L : List Nat} {u u' : World} (k : Keep L u u') (hB : B ≤ u.heap.size) (hL : ∀ x ∈ L, B ≤ x) : Low B u u' := fun b hb => k.2 b (by omega) (fun hm => by have := hL b hm; omega)
/-- A box beside a row of numbers that is written. -/
theorem Blk.keepI {w w' : World} {b g T : Nat} {c C : Array Value} (h : Blk w b T c) (hG : Blk w g 3 C) (k : Keep [g] w w') (hT : T ≠ 3) : Blk w' b T c := by
  refine (k.2 b h.lt (fun hm => ?_)).trans h
  simp at hm
  subst hm
  have : (some (Obj.cells c T) : Option Obj) = some (.cells C 3) := h.symm.trans hG
  simp at this
  exact hT this.2
theorem Blk.keepN {w w' : World} {b g T : Nat} {c : Array Value} (h : Blk w b T c) (k : Keep [g] w w') (hn : b ≠ g) : Blk w' b T c := (k.2 b h.lt (by simpa using hn)).trans h
/-- What the operations of the region leave that compares the argument: what the program has seen, the argument, and its copy. -/
def VSl (ver : Int) (xs : List Int) (A : Option Addr) (cap : Nat) (g : Nat) (i : Nat) (v : Value) (w : World) : Prop := match i with
  | 0 => v = .agg #[.int .i64 ver, .slice (some ⟨g, 0, none⟩) xs.length xs.length]
  | 1 => v = .agg #[.int .i64 ver, .slice A xs.length cap]
  | 2 => ∃ g', v = .agg #[.int .i64 ver, .slice (some ⟨g', 0, none⟩) xs.length xs.length] ∧ IntRow w w.heap.size (some ⟨g', 0, none⟩) xs
  | _ => True
theorem VSl_keep {ver : Int} {xs : List Int} {A : Option Addr} {cap g : Nat} : ∀ (i : Nat) (v : Value) (w w' : World), Below w.heap.size w w' → VSl ver xs A cap g i v w → VSl ver xs A cap g i v w'
  | 0, _, _, _, _, h => h
  | 1, _, _, _, _, h => h
  | 2, _, _, _, hb, ⟨g', e, h⟩ => ⟨g', e, h.mem hb⟩
  | _ + 3, _, _, _, _, h => h
theorem Blk.keep0 {w w' : World} {b T : Nat} {c : Array Value} (h : Blk w b T c) (k : Keep [] w w') : Blk w' b T c := (k.2 b h.lt (by simp)).trans h
theorem IntRow.keep0 {w w' : World} {A : Option Addr} {xs : List Int} (h : IntRow w w.heap.size A xs) (k : Keep [] w w') : IntRow w' w'.heap.size A xs :=
  (h.keep fun b o hb => World.cell?_of_block (a := ⟨b, o, none⟩) (k.2 b hb (by simp))).more k.1
theorem Row1.keep0 {w w' : World} {A : Option Addr} {xs : List Int} (h : Row1 w A xs) (k : Keep [] w w') : Row1 w' A xs := by
  obtain ⟨g, C, e, hB, hc⟩ := h
  exact ⟨g, C, e, hB.keep0 k, hc⟩
/-- What the operations of the regions leave that read copies of the arguments. -/
def VR (va : Int) (A : Option Addr) (xa : List Int) (capa : Nat) (C : Option Addr) (ws : List Int) (capw : Nat) (vb : Int) (B : Option Addr) (xb : List Int) (capb : Nat) (t : Bool) (i : Nat) (v : Value) (w : World) : Prop := match i with
  | 0 => v = .agg #[.int .i64 va, .slice A xa.length capa]
  | 1 => ∃ g, v = .agg #[.int .i64 va, .slice (some ⟨g, 0, none⟩) xa.length xa.length] ∧ IntRow w w.heap.size (some ⟨g, 0, none⟩) xa
  | 2 => v = .slice C ws.length capw
  | 3 => ∃ g, v = .slice (some ⟨g, 0, none⟩) ws.length ws.length ∧ IntRow w w.heap.size (some ⟨g, 0, none⟩) ws
  | 4 => v = .agg #[.int .i64 vb, .slice B xb.length capb]
  | 5 => ∃ g, v = .agg #[.int .i64 vb, .slice (some ⟨g, 0, none⟩) xb.length xb.length] ∧ IntRow w w.heap.size (some ⟨g, 0, none⟩) xb
  | 6 => ∃ A2 n c2, v = .tuple #[.slice A2 n c2, .bool t] ∧ (t = true → n = ws.length ∧ Row1 w A2 ws ∧ ws.length ≤ c2 ∧ c2 ≤ 9223372036854775807) ∧ (t = false → n = 0 ∧ c2 = 0)
  | 7 => ∃ A2 n c2, v = .tuple #[.slice A2 n c2, .bool t] ∧ (t = true → n = ws.length ∧ Row1 w A2 ws ∧ ws.length ≤ c2 ∧ c2 ≤ 9223372036854775807) ∧ (t = false → n = 0 ∧ c2 = 0)
  | 8 => ∃ A2 n c2, v = .slice A2 n c2 ∧ (t = true → n = ws.length ∧ Row1 w A2 ws ∧ ws.length ≤ c2 ∧ c2 ≤ 9223372036854775807) ∧ (t = false → n = 0 ∧ c2 = 0)
  | 9 => v = .bool t
  | 10 => ∃ A2 n c2, v = .slice A2 n c2 ∧ (t = true → n = ws.length ∧ Row1 w A2 ws ∧ ws.length ≤ c2 ∧ c2 ≤ 9223372036854775807) ∧ (t = false → n = 0 ∧ c2 = 0)
  | 11 => v = .bool t
  | _ => True
theorem VR_keep0 {va : Int} {A : Option Addr} {xa : List Int} {capa : Nat} {C : Option Addr} {ws : List Int} {capw : Nat} {vb : Int} {B : Option Addr} {xb : List Int} {capb : Nat} {t : Bool} : ∀ (i : Nat) (v : Value) (w w' : World), Keep [] w w' → VR va A xa capa C ws capw vb B xb capb t i v w → VR va A xa capa C ws capw vb B xb capb t i v w'
  | 0, _, _, _, _, h => h
  | 1, _, _, _, k, ⟨g, e, h⟩ => ⟨g, e, h.keep0 k⟩
  | 2, _, _, _, _, h => h
  | 3, _, _, _, k, ⟨g, e, h⟩ => ⟨g, e, h.keep0 k⟩
  | 4, _, _, _, _, h => h
  | 5, _, _, _, k, ⟨g, e, h⟩ => ⟨g, e, h.keep0 k⟩
  | 6, _, _, _, k, ⟨g, n, c, e, h, h2⟩ => ⟨g, n, c, e, fun x => ⟨(h x).1, (h x).2.1.keep0 k, (h x).2.2⟩, h2⟩
  | 7, _, _, _, k, ⟨g, n, c, e, h, h2⟩ => ⟨g, n, c, e, fun x => ⟨(h x).1, (h x).2.1.keep0 k, (h x).2.2⟩, h2⟩
  | 8, _, _, _, k, ⟨g, n, c, e, h, h2⟩ => ⟨g, n, c, e, fun x => ⟨(h x).1, (h x).2.1.keep0 k, (h x).2.2⟩, h2⟩
  | 9, _, _, _, _, h => h
  | 10, _, _, _, k, ⟨g, n, c, e, h, h2⟩ => ⟨g, n, c, e, fun x => ⟨(h x).1, (h x).2.1.keep0 k, (h x).2.2⟩, h2⟩
  | 11, _, _, _, _, h => h
  | _ + 12, _, _, _, _, h => h
theorem VR_keep {va : Int} {A : Option Addr} {xa : List Int} {capa : Nat} {C : Option Addr} {ws : List Int} {capw : Nat} {vb : Int} {B : Option Addr} {xb : List Int} {capb : Nat} {t : Bool} (i : Nat) (v : Value) (w w' : World) (hb : Below w.heap.size w w') (h : VR va A xa capa C ws capw vb B xb capb t i v w) : VR va A xa capa C ws capw vb B xb capb t i v w' := VR_keep0 i v w w' (Keep.below hb) h

theorem szInts_left (A : Option Addr) (len cap : Nat) (left : Int) (w : World) (hl : len ≤ cap) (hm : cap ≤ 9223372036854775807) (h0 : 0 ≤ left ∧ left ≤ 1048576) :
    Calls Try.prog 37 #[.slice A len cap, .int .i64 left] w fun e w' => e = .returned (.int .i64 (if left < (len : Int) then -1 else left - len)) ∧ w' = w := by
  have hw : IntKind.i64.wrap (left - (len : Int)) = left - (len : Int) := IntWalk.i64_in _ (by omega)
  by_cases h : left < (len : Int)
  · have h' : left - (len : Int) < 0 := by omega
    go_enter Try.func37, Try.ntmps37
    go_wp2_with fail
    go_ret
    first | exact ⟨rfl, rfl⟩ | (rw [if_pos h]; exact ⟨rfl, rfl⟩)
  · have h' : ¬ left - (len : Int) < 0 := by omega
    go_enter Try.func37, Try.ntmps37
    go_wp2_with fail
    go_ret
    first | exact ⟨rfl, rfl⟩ | (rw [if_neg (by omega)]; exact ⟨rfl, rfl⟩)
theorem szSlot_left (ver : Int) (A : Option Addr) (xs : List Int) (cap : Nat) (left : Int) (w : World) (hl : xs.length ≤ cap) (hm : cap ≤ 9223372036854775807) (h0 : 0 ≤ left ∧ left ≤ 1048576) :
    Calls Try.prog 13 #[.agg #[.int .i64 ver, .slice A xs.length cap], .int .i64 left] w fun e w' => e = .returned (.int .i64 (if left < (xs.length : Int) then -1 else left - xs.length)) ∧ Below w.heap.size w w' := by
  by_cases h : left < (xs.length : Int)
  · rw [if_pos h]
    go_enter Try.func13, Try.ntmps13
    go_wp2_with (go_at_call 37; refine (szInts_left _ _ _ _ _ hl hm h0).mono ?_; rintro e w' ⟨rfl, rfl⟩; rw [if_pos h])
    go_ret
    exact ⟨rfl, Fr.alloc (Below.refl _ _) _⟩
  · rw [if_neg h]
    have h' : ¬ left - (xs.length : Int) < 0 := by omega
    go_enter Try.func13, Try.ntmps13
    go_wp2_with (go_at_call 37; refine (szInts_left _ _ _ _ _ hl hm h0).mono ?_; rintro e w' ⟨rfl, rfl⟩; rw [if_neg h])
    go_ret
    exact ⟨rfl, Fr.alloc (Below.refl _ _) _⟩

set_option maxRecDepth 100000 in
set_option maxHeartbeats 32000000 in
theorem exRead (va : Int) (A : Option Addr) (lena capa : Nat) (xa : List Int) (C : Option Addr) (lenw capw : Nat) (ws : List Int) (vb : Int) (B : Option Addr) (lenb capb : Nat) (xb : List Int) (W : World)
    (h0a : -9223372036854775808 ≤ va ∧ va ≤ 9223372036854775807) (la : lena ≤ capa) (ma : capa ≤ maxLen) (hla : xa.length = lena) (hpa : IntRow W W.heap.size A xa)
    (lw : lenw ≤ capw) (mw : capw ≤ maxLen) (hlw : ws.length = lenw) (hpw : IntRow W W.heap.size C ws)
    (h0b : -9223372036854775808 ≤ vb ∧ vb ≤ 9223372036854775807) (lb : lenb ≤ capb) (mb : capb ≤ maxLen) (hlb : xb.length = lenb) (hpb : IntRow W W.heap.size B xb) :
    Fin_ Try.prog (YesE W) (solo (G (Frame.enter Try.prog 11 #[.agg #[.int .i64 va, .slice A lena capa], .slice C lenw capw, .agg #[.int .i64 vb, .slice B lenb capb]] .normal) []) W) #[] := by
  subst hla hlw hlb
  unfold maxLen at ma mw mb
  replace ma : capa ≤ 9223372036854775807 := by omega
  replace mw : capw ≤ 9223372036854775807 := by omega
  replace mb : capb ≤ 9223372036854775807 := by omega
  clear h0a h0b
  refine kh_start (X := fun _ => False) fun T d => ?_
  have hPa := row_start hpa T d
  have hPw := row_start hpw T d
  have hPb := row_start hpb T d
  obtain ⟨u, hu⟩ : ∃ u, u = pos (hid (fun _ => false) W) T d := ⟨_, rfl⟩
  rw [← hu] at hPa hPw hPb ⊢
  have hz : u.heap.size = W.heap.size := by rw [hu, pos_heap, hid_size]
  clear hu hpa hpw hpb T d
  rw [enter_at _ Try.func11 rfl]
  simp only [Try.ntmps11, List.size_toArray, List.length_cons, List.length_nil, Nat.reduceAdd, Nat.reduceSub, Array.replicate_succ, Array.replicate_zero, List.push_toArray, List.append_toArray, List.nil_append, List.cons_append]
  refine kh_seq (kh_piece plainF_ok rfl ⟨_, Try.func11⟩ (by kernel_rfl) rfl fun v0 hv0 => ?_)
  have hP0a := hv0.ints hPa
  have hP0w := hv0.ints hPw
  have hP0b := hv0.ints hPb
  have HZ := Lib.hid hz
  clear hz
  go_wp2_with fail
  have hz := HZ.out
  have hz0 : v0.heap.size = W.heap.size := hv0.size.trans hz
  obtain ⟨y0, hy0⟩ : ∃ y, y = (v0.alloc (.cells #[.int .i64 va, .slice A xa.length capa] 24)).alloc (.cells #[.int .i64 vb, .slice B xb.length capb] 24) := ⟨_, rfl⟩
  obtain ⟨Ma, hMa⟩ : ∃ M, M = v0.heap.size := ⟨_, rfl⟩
  rw [← hy0, ← hMa]
  have sa0 : Blk y0 Ma 24 #[.int .i64 va, .slice A xa.length capa] := by rw [hy0, hMa]; exact (Blk.new _ _ _ rfl).alloc _
  have sb0 : Blk y0 (Ma + 1) 24 #[.int .i64 vb, .slice B xb.length capb] := by rw [hy0, hMa]; exact Blk.new _ _ _ (by simp)
  have hL0 : Low W.heap.size v0 y0 := by rw [hy0]; exact Low.comp (lowAlloc (by omega) _) (lowAlloc (by simp; omega) _)
  have pa0 : IntRow y0 W.heap.size A xa := Low.intsE hL0 hP0a
  have pw0 : IntRow y0 W.heap.size C ws := Low.intsE hL0 hP0w
  have pb0 : IntRow y0 W.heap.size B xb := Low.intsE hL0 hP0b
  have za : W.heap.size ≤ Ma := by omega
  refine ⟨hL0, ?_⟩
  clear hy0 hMa hP0a hP0w hP0b hz0 hv0 hPa hPw hPb hz HZ hL0 v0
  clear u
  by_cases hbw : (1048576 : Int) < (ws.length : Int)
  · skip
    refine kh_seq (kh_piece plainF_ok rfl ⟨_, Try.func11⟩ (by kernel_rfl) rfl fun v11 hv11 => ?_)
    go_wp2_with fail
    refine ⟨fun _ _ => rfl, fun todo => ?_⟩
    exact kh_end Try.func11 rfl rfl rfl (by kernel_rfl) (x := .bool true) (fun T d => by simp [results, Try.results11, go_sem, Frame.at]) fun w hA => ⟨rfl, SinceE.of hA⟩
  refine kh_seq (kh_piece plainF_ok rfl ⟨_, Try.func11⟩ (by kernel_rfl) rfl fun v11 hv11 => ?_)
  have sa1 := hv11.blk sa0
  have sb1 := hv11.blk sb0
  have pa1 := hv11.ints pa0
  have pw1 := hv11.ints pw0
  have pb1 := hv11.ints pb0
  clear sa0 sb0 pa0 pw0 pb0
  go_wp2_with fail
  refine ⟨fun _ _ => rfl, ?_⟩
  have nw : ws.length ≤ 1048576 := by omega
  clear hbw
  refine kh_seq (kh_piece plainF_ok rfl ⟨_, Try.func11⟩ (by kernel_rfl) rfl fun v12 hv12 => ?_)
  have sa2 := hv12.blk sa1
  have sb2 := hv12.blk sb1
  have pa2 := hv12.ints pa1
  have pw2 := hv12.ints pw1
  have pb2 := hv12.ints pb1
  clear sa1 sb1 pa1 pw1 pb1
  go_wp2_with fail
  refine ⟨fun _ _ => rfl, ?_⟩
  by_cases hba : (1048576 : Int) < (xa.length : Int)
  · skip
    refine kh_seq (kh_piece plainF_ok rfl ⟨_, Try.func11⟩ (by kernel_rfl) rfl fun v13 hv13 => ?_)
    have sa3 := hv13.blk sa2
    have sb3 := hv13.blk sb2
    have pa3 := hv13.ints pa2
    have pw3 := hv13.ints pw2
    have pb3 := hv13.ints pb2
    clear sa2 sb2 pa2 pw2 pb2
    have ca0 := sa3.cells 0
    have cb0 := sa3.cells 1
    simp at ca0 cb0
    go_wp2_with fail
    refine (szSlot_left va A xa capa 1048576 v13 la ma (by omega)).mono ?_
    rintro e w1 ⟨rfl, hb⟩
    rw [if_pos (by omega)]
    clear ca0 cb0
    go_wp2_with fail
    refine ⟨(hb.mono (by have := sa3.lt; omega)).low, ?_⟩
    have sa4 := sa3.below hb sa3.lt
    have sb4 := sb3.below hb sb3.lt
    have pa4 := Low.intsE ((hb.mono (by have := sa3.lt; omega)).low) pa3
    have pw4 := Low.intsE ((hb.mono (by have := sa3.lt; omega)).low) pw3
    have pb4 := Low.intsE ((hb.mono (by have := sa3.lt; omega)).low) pb3
    clear sa3 sb3 pa3 pw3 pb3
    clear hb
    refine kh_seq (kh_piece plainF_ok rfl ⟨_, Try.func11⟩ (by kernel_rfl) rfl fun v14 hv14 => ?_)
    go_wp2_with fail
    refine ⟨fun _ _ => rfl, fun todo => ?_⟩
    exact kh_end Try.func11 rfl rfl rfl (by kernel_rfl) (x := .bool true) (fun T d => by simp [results, Try.results11, go_sem, Frame.at]) fun w hA => ⟨rfl, SinceE.of hA⟩
  refine kh_seq (kh_piece plainF_ok rfl ⟨_, Try.func11⟩ (by kernel_rfl) rfl fun v13 hv13 => ?_)
  have sa3 := hv13.blk sa2
  have sb3 := hv13.blk sb2
  have pa3 := hv13.ints pa2
  have pw3 := hv13.ints pw2
  have pb3 := hv13.ints pb2
  clear sa2 sb2 pa2 pw2 pb2
  have ca0 := sa3.cells 0
  have cb0 := sa3.cells 1
  simp at ca0 cb0
  go_wp2_with fail
  refine (szSlot_left va A xa capa 1048576 v13 la ma (by omega)).mono ?_
  rintro e w1 ⟨rfl, hb⟩
  rw [if_neg (by omega)]
  clear ca0 cb0
  go_wp2_with fail
  refine ⟨(hb.mono (by have := sa3.lt; omega)).low, ?_⟩
  have sa4 := sa3.below hb sa3.lt
  have sb4 := sb3.below hb sb3.lt
  have pa4 := Low.intsE ((hb.mono (by have := sa3.lt; omega)).low) pa3
  have pw4 := Low.intsE ((hb.mono (by have := sa3.lt; omega)).low) pw3
  have pb4 := Low.intsE ((hb.mono (by have := sa3.lt; omega)).low) pb3
  clear sa3 sb3 pa3 pw3 pb3
  clear hb
  have na : xa.length ≤ 1048576 := by omega
  have hsz : ¬ 1048576 - (xa.length : Int) < 0 := by omega
  clear hba
  refine kh_seq (kh_piece plainF_ok rfl ⟨_, Try.func11⟩ (by kernel_rfl) rfl fun v14 hv14 => ?_)
  have sa5 := hv14.blk sa4
  have sb5 := hv14.blk sb4
  have pa5 := hv14.ints pa4
  have pw5 := hv14.ints pw4
  have pb5 := hv14.ints pb4
  clear sa4 sb4 pa4 pw4 pb4
  go_wp2_with fail
  refine ⟨fun _ _ => rfl, ?_⟩
  obtain ⟨left, hleft⟩ : ∃ left : Int, left = 1048576 - (xa.length : Int) := ⟨_, rfl⟩
  rw [← hleft]
  have hl2 : 0 ≤ left ∧ left ≤ 1048576 := by omega
  clear hsz hleft
  by_cases hbb : left < (xb.length : Int)
  · skip
    refine kh_seq (kh_piece plainF_ok rfl ⟨_, Try.func11⟩ (by kernel_rfl) rfl fun v15 hv15 => ?_)
    have sa6 := hv15.blk sa5
    have sb6 := hv15.blk sb5
    have pa6 := hv15.ints pa5
    have pw6 := hv15.ints pw5
    have pb6 := hv15.ints pb5
    clear sa5 sb5 pa5 pw5 pb5
    have ca0 := sb6.cells 0
    have cb0 := sb6.cells 1
    simp at ca0 cb0
    go_wp2_with fail
    refine (szSlot_left vb B xb capb left v15 lb mb (by omega)).mono ?_
    rintro e w1 ⟨rfl, hb⟩
    rw [if_pos (by omega)]
    clear ca0 cb0
    go_wp2_with fail
    refine ⟨(hb.mono (by have := sa6.lt; omega)).low, ?_⟩
    have sa7 := sa6.below hb sa6.lt
    have sb7 := sb6.below hb sb6.lt
    have pa7 := Low.intsE ((hb.mono (by have := sa6.lt; omega)).low) pa6
    have pw7 := Low.intsE ((hb.mono (by have := sa6.lt; omega)).low) pw6
    have pb7 := Low.intsE ((hb.mono (by have := sa6.lt; omega)).low) pb6
    clear sa6 sb6 pa6 pw6 pb6
    clear hb
    refine kh_seq (kh_piece plainF_ok rfl ⟨_, Try.func11⟩ (by kernel_rfl) rfl fun v16 hv16 => ?_)
    go_wp2_with fail
    refine ⟨fun _ _ => rfl, fun todo => ?_⟩
    exact kh_end Try.func11 rfl rfl rfl (by kernel_rfl) (x := .bool true) (fun T d => by simp [results, Try.results11, go_sem, Frame.at]) fun w hA => ⟨rfl, SinceE.of hA⟩
  refine kh_seq (kh_piece plainF_ok rfl ⟨_, Try.func11⟩ (by kernel_rfl) rfl fun v15 hv15 => ?_)
  have sa6 := hv15.blk sa5
  have sb6 := hv15.blk sb5
  have pa6 := hv15.ints pa5
  have pw6 := hv15.ints pw5
  have pb6 := hv15.ints pb5
  clear sa5 sb5 pa5 pw5 pb5
  have ca0 := sb6.cells 0
  have cb0 := sb6.cells 1
  simp at ca0 cb0
  go_wp2_with fail
  refine (szSlot_left vb B xb capb left v15 lb mb (by omega)).mono ?_
  rintro e w1 ⟨rfl, hb⟩
  rw [if_neg (by omega)]
  clear ca0 cb0
  go_wp2_with fail
  refine ⟨(hb.mono (by have := sa6.lt; omega)).low, ?_⟩
  have sa7 := sa6.below hb sa6.lt
  have sb7 := sb6.below hb sb6.lt
  have pa7 := Low.intsE ((hb.mono (by have := sa6.lt; omega)).low) pa6
  have pw7 := Low.intsE ((hb.mono (by have := sa6.lt; omega)).low) pw6
  have pb7 := Low.intsE ((hb.mono (by have := sa6.lt; omega)).low) pb6
  clear sa6 sb6 pa6 pw6 pb6
  clear hb
  have nb : xb.length ≤ 1048576 := by omega
  have hsz : ¬ left - (xb.length : Int) < 0 := by omega
  refine kh_seq (kh_piece plainF_ok rfl ⟨_, Try.func11⟩ (by kernel_rfl) rfl fun v16 hv16 => ?_)
  have sa8 := hv16.blk sa7
  have sb8 := hv16.blk sb7
  have pa8 := hv16.ints pa7
  have pw8 := hv16.ints pw7
  have pb8 := hv16.ints pb7
  clear sa7 sb7 pa7 pw7 pb7
  go_wp2_with fail
  refine ⟨fun _ _ => rfl, ?_⟩
  clear hsz hl2 hbb
  have xla : xa.length ≤ 9223372036854775807 := by omega
  have xlw : ws.length ≤ 9223372036854775807 := by omega
  have xlb : xb.length ≤ 9223372036854775807 := by omega
  cases hB : readB va xa ws vb xb
  · have HB := Lib.hid hB
    clear hB
    have hk1 : ¬ (1 + (xa.length : Int) + (ws.length : Int) + (xb.length : Int) < 0) := by omega
    refine kh_seq (kh_piece plainF_ok rfl ⟨_, Try.func11⟩ (by kernel_rfl) rfl fun v17 hv17 => ?_)
    have sa9 := hv17.blk sa8
    have sb9 := hv17.blk sb8
    have pa9 := hv17.ints pa8
    have pw9 := hv17.ints pw8
    have pb9 := hv17.ints pb8
    clear sa8 sb8 pa8 pw8 pb8
    go_upto_region 10 with fail
    have Yq := Lib.hid sa9
    have Zq := Lib.hid sb9
    have Pa := Lib.hid (show IntRow v17 v17.heap.size A xa from (pa9.more (by have := sa9.lt; omega)))
    have Pw := Lib.hid (show IntRow v17 v17.heap.size C ws from (pw9.more (by have := sa9.lt; omega)))
    have Pb := Lib.hid (show IntRow v17 v17.heap.size B xb from (pb9.more (by have := sa9.lt; omega)))
    refine wp_region_facts 11 [34, 35, 36, 37, 38, 39, 40, 33, 41, 42, 8] (VR va A xa capa C ws capw vb B xb capb false) (fun _ U => Below v17.heap.size v17 U) (fun w w' => Below w.heap.size w w') (by kernel_rfl) (by kernel_rfl) (by rfl) ?hI VR_keep ?hob ?hend
    case hI => exact (Below.refl _ _).drew
    case hob =>
      simp only [List.take_succ_cons, List.take_zero, Obs, and_true]
      refine ⟨?_, ?_, ?_, ?_, ?_, ?_, ?_, ?_, ?_, ?_, ?_⟩
      · intro k' x U hkn hI hd K hK0
        have hK := hK0.out
        simp only [setAll, Act.put, List.foldl_cons, List.foldl_nil, List.setIfInBounds_toArray, List.set_cons_succ, List.set_cons_zero] at hK ⊢
        have HK := Lib.hid hK
        clear hK hK0
        rw [if_pos (by rfl)]
        clear hd
        have cx0 := (Yq.out.below hI Yq.out.lt).cells 0
        have cx1 := (Yq.out.below hI Yq.out.lt).cells 1
        simp at cx0 cx1
        go_simp
        exact HK.out _ _ hI (Below.refl _ _) ⟨rfl, fun h => by cases h⟩
      · intro k' x U hkn hI hd K hK0
        have hK := hK0.out
        simp only [setAll, Act.put, List.foldl_cons, List.foldl_nil, List.setIfInBounds_toArray, List.set_cons_succ, List.set_cons_zero] at hK ⊢
        have HK := Lib.hid hK
        clear hK hK0
        rw [if_pos (by rfl)]
        obtain e : x 34 = .agg #[.int .i64 va, .slice A xa.length capa] := hd 0 _ rfl (by kernel_rfl)
        rw [e] at HK ⊢
        clear e
        clear hd
        go_simp
        refine (toSlot_any va A xa capa U (Pa.out.mem hI) la ma na).mono ?_
        rintro e w6 ⟨g6, rfl, hg6, hG, hb6⟩
        exact HK.out _ _ (Fr.step hI hb6) hb6 ⟨⟨g6, rfl, hG⟩, fun h => by cases h⟩
      · intro k' x U hkn hI hd K hK0
        have hK := hK0.out
        simp only [setAll, Act.put, List.foldl_cons, List.foldl_nil, List.setIfInBounds_toArray, List.set_cons_succ, List.set_cons_zero] at hK ⊢
        have HK := Lib.hid hK
        clear hK hK0
        rw [if_pos (by rfl)]
        clear hd
        go_simp
        exact HK.out _ _ hI (Below.refl _ _) ⟨rfl, fun h => by cases h⟩
      · intro k' x U hkn hI hd K hK0
        have hK := hK0.out
        simp only [setAll, Act.put, List.foldl_cons, List.foldl_nil, List.setIfInBounds_toArray, List.set_cons_succ, List.set_cons_zero] at hK ⊢
        have HK := Lib.hid hK
        clear hK hK0
        rw [if_pos (by rfl)]
        obtain e : x 36 = .slice C ws.length capw := hd 2 _ rfl (by kernel_rfl)
        rw [e] at HK ⊢
        clear e
        clear hd
        go_simp
        refine (toInts_any C ws capw U (Pw.out.mem hI) lw mw nw).mono ?_
        rintro e w6 ⟨g6, rfl, hg6, hG, hb6⟩
        exact HK.out _ _ (Fr.step hI hb6) hb6 ⟨⟨g6, rfl, IntRow.of_blk hG⟩, fun h => by cases h⟩
      · intro k' x U hkn hI hd K hK0
        have hK := hK0.out
        simp only [setAll, Act.put, List.foldl_cons, List.foldl_nil, List.setIfInBounds_toArray, List.set_cons_succ, List.set_cons_zero] at hK ⊢
        have HK := Lib.hid hK
        clear hK hK0
        rw [if_pos (by rfl)]
        clear hd
        have cx0 := (Zq.out.below hI Zq.out.lt).cells 0
        have cx1 := (Zq.out.below hI Zq.out.lt).cells 1
        simp at cx0 cx1
        go_simp
        exact HK.out _ _ hI (Below.refl _ _) ⟨rfl, fun h => by cases h⟩
      · intro k' x U hkn hI hd K hK0
        have hK := hK0.out
        simp only [setAll, Act.put, List.foldl_cons, List.foldl_nil, List.setIfInBounds_toArray, List.set_cons_succ, List.set_cons_zero] at hK ⊢
        have HK := Lib.hid hK
        clear hK hK0
        rw [if_pos (by rfl)]
        obtain e : x 38 = .agg #[.int .i64 vb, .slice B xb.length capb] := hd 4 _ rfl (by kernel_rfl)
        rw [e] at HK ⊢
        clear e
        clear hd
        go_simp
        refine (toSlot_any vb B xb capb U (Pb.out.mem hI) lb mb nb).mono ?_
        rintro e w6 ⟨g6, rfl, hg6, hG, hb6⟩
        exact HK.out _ _ (Fr.step hI hb6) hb6 ⟨⟨g6, rfl, hG⟩, fun h => by cases h⟩
      · intro k' x U hkn hI hd K hK0
        have hK := hK0.out
        simp only [setAll, Act.put, List.foldl_cons, List.foldl_nil, List.setIfInBounds_toArray, List.set_cons_succ, List.set_cons_zero] at hK ⊢
        have HK := Lib.hid hK
        clear hK hK0
        rw [if_pos (by rfl)]
        obtain ⟨g1, e, G1⟩ : ∃ g, x 35 = .agg #[.int .i64 va, .slice (some ⟨g, 0, none⟩) xa.length xa.length] ∧ IntRow U U.heap.size (some ⟨g, 0, none⟩) xa := hd 1 _ rfl (by kernel_rfl)
        rw [e] at HK ⊢
        clear e
        obtain ⟨g3, e, G3⟩ : ∃ g, x 37 = .slice (some ⟨g, 0, none⟩) ws.length ws.length ∧ IntRow U U.heap.size (some ⟨g, 0, none⟩) ws := hd 3 _ rfl (by kernel_rfl)
        rw [e] at HK ⊢
        clear e
        obtain ⟨g5, e, G5⟩ : ∃ g, x 39 = .agg #[.int .i64 vb, .slice (some ⟨g, 0, none⟩) xb.length xb.length] ∧ IntRow U U.heap.size (some ⟨g, 0, none⟩) xb := hd 5 _ rfl (by kernel_rfl)
        rw [e] at HK ⊢
        clear e
        clear hd
        go_simp
        refine (specRead va vb _ _ _ xa ws xb xa.length ws.length xb.length U G1 G5 G3 (Nat.le_refl _) xla (Nat.le_refl _) xlb (Nat.le_refl _) xlw).mono ?_
        rintro e w6 ⟨v', A2, c2, rfl, hb6, hy, hn⟩
        obtain ⟨g7, rfl⟩ := hn HB.out
        rw [HB.out]
        exact HK.out _ _ (Fr.step hI hb6) hb6 ⟨⟨_, _, _, rfl, (fun h => by cases h), fun _ => ⟨rfl, rfl⟩⟩, fun h => by cases h⟩
      · intro k' x U hkn hI hd K hK0
        have hK := hK0.out
        simp only [setAll, Act.put, List.foldl_cons, List.foldl_nil, List.setIfInBounds_toArray, List.set_cons_succ, List.set_cons_zero] at hK ⊢
        have HK := Lib.hid hK
        clear hK hK0
        rw [if_pos (by rfl)]
        obtain ⟨A2, n2, c2, e, hy, hn⟩ : ∃ A2 n c2, x 40 = .tuple #[.slice A2 n c2, .bool false] ∧ (false = true → n = ws.length ∧ Row1 U A2 ws ∧ ws.length ≤ c2 ∧ c2 ≤ 9223372036854775807) ∧ (false = false → n = 0 ∧ c2 = 0) := hd 6 _ rfl (by kernel_rfl)
        rw [e] at HK ⊢
        clear e
        have HY2 := Lib.hid (And.intro hy hn)
        clear hd hy hn
        go_simp
        exact HK.out _ _ hI (Below.refl _ _) ⟨⟨A2, n2, c2, rfl, HY2.out.1, HY2.out.2⟩, fun h => by cases h⟩
      · intro k' x U hkn hI hd K hK0
        have hK := hK0.out
        simp only [setAll, Act.put, List.foldl_cons, List.foldl_nil, List.setIfInBounds_toArray, List.set_cons_succ, List.set_cons_zero] at hK ⊢
        have HK := Lib.hid hK
        clear hK hK0
        rw [if_pos (by rfl)]
        obtain ⟨A2, n2, c2, e, hy, hn⟩ : ∃ A2 n c2, x 33 = .tuple #[.slice A2 n c2, .bool false] ∧ (false = true → n = ws.length ∧ Row1 U A2 ws ∧ ws.length ≤ c2 ∧ c2 ≤ 9223372036854775807) ∧ (false = false → n = 0 ∧ c2 = 0) := hd 7 _ rfl (by kernel_rfl)
        rw [e] at HK ⊢
        clear e
        have HY2 := Lib.hid (And.intro hy hn)
        clear hd hy hn
        go_simp
        exact HK.out _ _ hI (Below.refl _ _) ⟨⟨A2, n2, c2, rfl, HY2.out.1, HY2.out.2⟩, fun h => by cases h⟩
      · intro k' x U hkn hI hd K hK0
        have hK := hK0.out
        simp only [setAll, Act.put, List.foldl_cons, List.foldl_nil, List.setIfInBounds_toArray, List.set_cons_succ, List.set_cons_zero] at hK ⊢
        have HK := Lib.hid hK
        clear hK hK0
        rw [if_pos (by rfl)]
        obtain ⟨A2, n2, c2, e, hy, hn⟩ : ∃ A2 n c2, x 33 = .tuple #[.slice A2 n c2, .bool false] ∧ (false = true → n = ws.length ∧ Row1 U A2 ws ∧ ws.length ≤ c2 ∧ c2 ≤ 9223372036854775807) ∧ (false = false → n = 0 ∧ c2 = 0) := hd 7 _ rfl (by kernel_rfl)
        rw [e] at HK ⊢
        clear e
        clear hd hy hn
        go_simp
        exact HK.out _ _ hI (Below.refl _ _) ⟨rfl, fun h => by cases h⟩
      · intro k' x U hkn hI hd K hK0
        have hK := hK0.out
        simp only [setAll, Act.put, List.foldl_cons, List.foldl_nil, List.setIfInBounds_toArray, List.set_cons_succ, List.set_cons_zero] at hK ⊢
        have HK := Lib.hid hK
        clear hK hK0
        rw [if_pos (by rfl)]
        obtain ⟨A2, n2, c2, e, hy, hn⟩ : ∃ A2 n c2, x 41 = .slice A2 n c2 ∧ (false = true → n = ws.length ∧ Row1 U A2 ws ∧ ws.length ≤ c2 ∧ c2 ≤ 9223372036854775807) ∧ (false = false → n = 0 ∧ c2 = 0) := hd 8 _ rfl (by kernel_rfl)
        rw [e] at HK ⊢
        clear e
        have HY2 := Lib.hid (And.intro hy hn)
        clear hd hy hn
        go_simp
        exact HK.out _ _ hI (Below.refl _ _) ⟨⟨A2, n2, c2, rfl, HY2.out.1, HY2.out.2⟩, fun h => by cases h⟩
    case hend =>
      intro x U hI hV
      obtain ⟨A9, n9, c9, e0, hy9, hn9⟩ : ∃ A2 n c2, x 8 = .slice A2 n c2 ∧ (false = true → n = ws.length ∧ Row1 U A2 ws ∧ ws.length ≤ c2 ∧ c2 ≤ 9223372036854775807) ∧ (false = false → n = 0 ∧ c2 = 0) := hV 10 _ (by omega) rfl
      have H9 := Lib.hid (And.intro hy9 hn9)
      clear hy9 hn9
      obtain e2 : x 42 = .bool false := hV 9 _ (by omega) rfl
      clear hV
      simp only [setAll, Act.put, List.foldl_cons, List.foldl_nil, List.setIfInBounds_toArray, List.set_cons_succ, List.set_cons_zero, List.drop_succ_cons, List.drop_zero]
      rw [e0, e2]
      clear e0 e2 Yq Zq Pa Pw Pb
      have LU : Below W.heap.size _ _ := hI.mono (by have := sa9.lt; omega)
      have sa10 := sa9.below hI sa9.lt
      have sb10 := sb9.below hI sb9.lt
      have pa10 := Low.intsE ((hI.mono (by have := sa9.lt; omega)).low) pa9
      have pw10 := Low.intsE ((hI.mono (by have := sa9.lt; omega)).low) pw9
      have pb10 := Low.intsE ((hI.mono (by have := sa9.lt; omega)).low) pb9
      clear sa9 sb9 pa9 pw9 pb9
      clear hI
      go_wp2_with fail
      obtain ⟨rfl, rfl⟩ := H9.out.2 (by trivial)
      refine ⟨LU.low, ?_⟩
      clear LU H9
      refine kh_seq (kh_piece plainF_ok rfl ⟨_, Try.func11⟩ (by kernel_rfl) rfl fun v18 hv18 => ?_)
      have sa11 := hv18.blk sa10
      have sb11 := hv18.blk sb10
      have pa11 := hv18.ints pa10
      have pw11 := hv18.ints pw10
      have pb11 := hv18.ints pb10
      clear sa10 sb10 pa10 pw10 pb10
      have ca0 := sa11.cells 0
      have cb0 := sa11.cells 1
      simp at ca0 cb0
      go_wp2_with fail
      refine (toSlot_blk va A xa capa v18 (pa11.more (by have := sa11.lt; omega)) la ma na).mono ?_
      rintro e w4 ⟨gx, rfl, hgx, cX, hb⟩
      clear ca0 cb0
      have zgx : Ma ≤ gx := by have := sa11.lt; omega
      have LL : Below W.heap.size _ _ := hb.mono (by have := sa11.lt; omega)
      have sa12 := sa11.below hb sa11.lt
      have sb12 := sb11.below hb sb11.lt
      have pa12 := Low.intsE ((hb.mono (by have := sa11.lt; omega)).low) pa11
      have pw12 := Low.intsE ((hb.mono (by have := sa11.lt; omega)).low) pw11
      have pb12 := Low.intsE ((hb.mono (by have := sa11.lt; omega)).low) pb11
      clear sa11 sb11 pa11 pw11 pb11
      have cX12 := cX
      clear cX hb hgx
      go_wp2_with fail
      refine ⟨LL.low.comp (lowAlloc (by have := sa12.lt; omega) _), ?_⟩
      clear LL
      obtain ⟨y19, hy19⟩ : ∃ y, y = w4.alloc (.cells #[.int .i64 va, .slice (some ⟨gx, 0, none⟩) xa.length xa.length] 26) := ⟨_, rfl⟩
      obtain ⟨Mx, hMx⟩ : ∃ M, M = w4.heap.size := ⟨_, rfl⟩
      rw [← hy19, ← hMx]
      have sa13 := sa12.alloc (.cells #[.int .i64 va, .slice (some ⟨gx, 0, none⟩) xa.length xa.length] 26)
      have sb13 := sb12.alloc (.cells #[.int .i64 va, .slice (some ⟨gx, 0, none⟩) xa.length xa.length] 26)
      have cX13 := cX12.alloc (.cells #[.int .i64 va, .slice (some ⟨gx, 0, none⟩) xa.length xa.length] 26)
      have pa13 := Low.intsE (lowAlloc (by have := sa12.lt; omega) (.cells #[.int .i64 va, .slice (some ⟨gx, 0, none⟩) xa.length xa.length] 26)) pa12
      have pw13 := Low.intsE (lowAlloc (by have := sa12.lt; omega) (.cells #[.int .i64 va, .slice (some ⟨gx, 0, none⟩) xa.length xa.length] 26)) pw12
      have pb13 := Low.intsE (lowAlloc (by have := sa12.lt; omega) (.cells #[.int .i64 va, .slice (some ⟨gx, 0, none⟩) xa.length xa.length] 26)) pb12
      clear sa12 sb12 cX12 pa12 pw12 pb12
      have sx13 : Blk y19 Mx 26 #[.int .i64 va, .slice (some ⟨gx, 0, none⟩) xa.length xa.length] := by rw [hy19, hMx]; exact Blk.new _ _ _ rfl
      rw [← hy19] at sa13
      rw [← hy19] at sb13
      rw [← hy19] at cX13
      rw [← hy19] at pa13
      rw [← hy19] at pw13
      rw [← hy19] at pb13
      clear hy19 hMx
      refine kh_seq (kh_piece plainF_ok rfl ⟨_, Try.func11⟩ (by kernel_rfl) rfl fun v20 hv20 => ?_)
      have sa14 := hv20.blk sa13
      have sb14 := hv20.blk sb13
      have sx14 := hv20.blk sx13
      have cX14 := hv20.blk cX13
      have pa14 := hv20.ints pa13
      have pw14 := hv20.ints pw13
      have pb14 := hv20.ints pb13
      clear sa13 sb13 sx13 cX13 pa13 pw13 pb13
      go_wp2_with fail
      refine (toInts_any C ws capw v20 (pw14.more (by have := sa14.lt; omega)) lw mw nw).mono ?_
      rintro e w4 ⟨gy, rfl, hgx, cY, hb⟩
      have zgy : Ma ≤ gy := by have := sa14.lt; omega
      have ogxgy : gx < gy := by have := cX14.lt; omega
      have LL : Below W.heap.size _ _ := hb.mono (by have := sa14.lt; omega)
      have sa15 := sa14.below hb sa14.lt
      have sb15 := sb14.below hb sb14.lt
      have sx15 := sx14.below hb sx14.lt
      have cX15 := cX14.below hb cX14.lt
      have pa15 := Low.intsE ((hb.mono (by have := sa14.lt; omega)).low) pa14
      have pw15 := Low.intsE ((hb.mono (by have := sa14.lt; omega)).low) pw14
      have pb15 := Low.intsE ((hb.mono (by have := sa14.lt; omega)).low) pb14
      clear sa14 sb14 sx14 cX14 pa14 pw14 pb14
      have cY15 := cY
      clear cY hb hgx
      go_wp2_with fail
      refine ⟨LL.low, ?_⟩
      clear LL
      refine kh_seq (kh_piece plainF_ok rfl ⟨_, Try.func11⟩ (by kernel_rfl) rfl fun v21 hv21 => ?_)
      have sa16 := hv21.blk sa15
      have sb16 := hv21.blk sb15
      have sx16 := hv21.blk sx15
      have cX16 := hv21.blk cX15
      have cY16 := hv21.blk cY15
      have pa16 := hv21.ints pa15
      have pw16 := hv21.ints pw15
      have pb16 := hv21.ints pb15
      clear sa15 sb15 sx15 cX15 cY15 pa15 pw15 pb15
      have ca0 := sb16.cells 0
      have cb0 := sb16.cells 1
      simp at ca0 cb0
      go_wp2_with fail
      refine (toSlot_blk vb B xb capb v21 (pb16.more (by have := sa16.lt; omega)) lb mb nb).mono ?_
      rintro e w4 ⟨gz, rfl, hgx, cZ, hb⟩
      clear ca0 cb0
      have zgz : Ma ≤ gz := by have := sa16.lt; omega
      have ogxgz : gx < gz := by have := cX16.lt; omega
      have ogygz : gy < gz := by have := cY16.lt; omega
      have LL : Below W.heap.size _ _ := hb.mono (by have := sa16.lt; omega)
      have sa17 := sa16.below hb sa16.lt
      have sb17 := sb16.below hb sb16.lt
      have sx17 := sx16.below hb sx16.lt
      have cX17 := cX16.below hb cX16.lt
      have cY17 := cY16.below hb cY16.lt
      have pa17 := Low.intsE ((hb.mono (by have := sa16.lt; omega)).low) pa16
      have pw17 := Low.intsE ((hb.mono (by have := sa16.lt; omega)).low) pw16
      have pb17 := Low.intsE ((hb.mono (by have := sa16.lt; omega)).low) pb16
      clear sa16 sb16 sx16 cX16 cY16 pa16 pw16 pb16
      have cZ17 := cZ
      clear cZ hb hgx
      go_wp2_with fail
      refine ⟨LL.low.comp (lowAlloc (by have := sa17.lt; omega) _), ?_⟩
      clear LL
      obtain ⟨y22, hy22⟩ : ∃ y, y = w4.alloc (.cells #[.int .i64 vb, .slice (some ⟨gz, 0, none⟩) xb.length xb.length] 26) := ⟨_, rfl⟩
      obtain ⟨Mz, hMz⟩ : ∃ M, M = w4.heap.size := ⟨_, rfl⟩
      rw [← hy22, ← hMz]
      have sa18 := sa17.alloc (.cells #[.int .i64 vb, .slice (some ⟨gz, 0, none⟩) xb.length xb.length] 26)
      have sb18 := sb17.alloc (.cells #[.int .i64 vb, .slice (some ⟨gz, 0, none⟩) xb.length xb.length] 26)
      have sx18 := sx17.alloc (.cells #[.int .i64 vb, .slice (some ⟨gz, 0, none⟩) xb.length xb.length] 26)
      have cX18 := cX17.alloc (.cells #[.int .i64 vb, .slice (some ⟨gz, 0, none⟩) xb.length xb.length] 26)
      have cY18 := cY17.alloc (.cells #[.int .i64 vb, .slice (some ⟨gz, 0, none⟩) xb.length xb.length] 26)
      have cZ18 := cZ17.alloc (.cells #[.int .i64 vb, .slice (some ⟨gz, 0, none⟩) xb.length xb.length] 26)
      have pa18 := Low.intsE (lowAlloc (by have := sa17.lt; omega) (.cells #[.int .i64 vb, .slice (some ⟨gz, 0, none⟩) xb.length xb.length] 26)) pa17
      have pw18 := Low.intsE (lowAlloc (by have := sa17.lt; omega) (.cells #[.int .i64 vb, .slice (some ⟨gz, 0, none⟩) xb.length xb.length] 26)) pw17
      have pb18 := Low.intsE (lowAlloc (by have := sa17.lt; omega) (.cells #[.int .i64 vb, .slice (some ⟨gz, 0, none⟩) xb.length xb.length] 26)) pb17
      clear sa17 sb17 sx17 cX17 cY17 cZ17 pa17 pw17 pb17
      have sz18 : Blk y22 Mz 26 #[.int .i64 vb, .slice (some ⟨gz, 0, none⟩) xb.length xb.length] := by rw [hy22, hMz]; exact Blk.new _ _ _ rfl
      rw [← hy22] at sa18
      rw [← hy22] at sb18
      rw [← hy22] at sx18
      rw [← hy22] at cX18
      rw [← hy22] at cY18
      rw [← hy22] at cZ18
      rw [← hy22] at pa18
      rw [← hy22] at pw18
      rw [← hy22] at pb18
      clear hy22 hMz
      refine kh_seq (kh_region ?_)
      refine kh_list plainF_ok rfl ⟨_, Try.func11⟩ 0 3 (rest := [3, 4, 5, 6, 7, 8]) rfl (by decide) (by kernel_rfl) rfl fun v23a hv23a => ?_
      simp only [List.drop_succ_cons, List.drop_zero, List.take_succ_cons, List.take_zero]
      have sa19 := hv23a.blk sa18
      have sb19 := hv23a.blk sb18
      have sx19 := hv23a.blk sx18
      have sz19 := hv23a.blk sz18
      have cX19 := hv23a.blk cX18
      have cY19 := hv23a.blk cY18
      have cZ19 := hv23a.blk cZ18
      have pa19 := hv23a.ints pa18
      have pw19 := hv23a.ints pw18
      have pb19 := hv23a.ints pb18
      clear sa18 sb18 sx18 sz18 cX18 cY18 cZ18 pa18 pw18 pb18
      clear hv23a
      have ca0 := sx19.cells 0
      have cb0 := sx19.cells 1
      have ca1 := sz19.cells 0
      have cb1 := sz19.cells 1
      simp at ca0 cb0 ca1 cb1
      go_wp2_with fail
      clear ca0 cb0 ca1 cb1
      refine ⟨fun _ _ => rfl, ?_⟩
      refine kh_call (c := Try.f30.body.getD .skip) rfl rfl (by simp [base]) rfl Try.func30 (by kernel_rfl) rfl ?_
      simp only [Try.ntmps30, List.size_toArray, List.length_cons, List.length_nil, Nat.reduceAdd, Nat.reduceSub, Array.replicate_succ, Array.replicate_zero, List.push_toArray, List.append_toArray, List.nil_append, List.cons_append, List.map_toArray, List.map_cons, List.map_nil, Array.size_map]
      walk_nrm
      have zz := sa19.lt
      refine kh_read (W0 := W) (Post := YesE W) (va := va) (vb := vb) (A := some ⟨gx, 0, none⟩) (B := some ⟨gz, 0, none⟩) (C := some ⟨gy, 0, none⟩) (xa := xa) (ws := ws) (xb := xb) (capa := xa.length) (capw := ws.length) (capb := xb.length) (IntRow.of_blk cX19) (IntRow.of_blk cZ19) (IntRow.of_blk cY19) (Nat.le_refl _) xla (Nat.le_refl _) xlb (Nat.le_refl _) xlw (by omega) (fun S23 u23b x23 hR => ?_)
      rw [Frame.finish_at]
      walk_nrm
      clear zz
      obtain ⟨R, hR1, rfl⟩ := hR.no HB.out
      clear hR1
      have sa20 := hR.low.blkE sa19 sa19.lt
      have sb20 := hR.low.blkE sb19 sb19.lt
      have sx20 := hR.low.blkE sx19 sx19.lt
      have sz20 := hR.low.blkE sz19 sz19.lt
      have cX20 := hR.low.blkE cX19 cX19.lt
      have cY20 := hR.low.blkE cY19 cY19.lt
      have cZ20 := hR.low.blkE cZ19 cZ19.lt
      have pa20 := Low.intsE (hR.low.less (by have := sa19.lt; omega)) pa19
      have pw20 := Low.intsE (hR.low.less (by have := sa19.lt; omega)) pw19
      have pb20 := Low.intsE (hR.low.less (by have := sa19.lt; omega)) pb19
      clear sa19 sb19 sx19 sz19 cX19 cY19 cZ19 pa19 pw19 pb19
      clear hR
      refine kh_list plainF_ok rfl ⟨_, Try.func11⟩ 4 5 (rest := []) rfl (by decide) (by kernel_rfl) rfl fun v23c hv23c => ?_
      simp only [List.drop_succ_cons, List.drop_zero, List.take_succ_cons, List.take_zero]
      have sa21 := hv23c.blk sa20
      have sb21 := hv23c.blk sb20
      have sx21 := hv23c.blk sx20
      have sz21 := hv23c.blk sz20
      have cX21 := hv23c.blk cX20
      have cY21 := hv23c.blk cY20
      have cZ21 := hv23c.blk cZ20
      have pa21 := hv23c.ints pa20
      have pw21 := hv23c.ints pw20
      have pb21 := hv23c.ints pb20
      clear sa20 sb20 sx20 sz20 cX20 cY20 cZ20 pa20 pw20 pb20
      clear hv23c
      go_wp2_with fail
      refine ⟨fun _ _ => rfl, kh_region_end ?_⟩
      refine kh_seq (kh_piece plainF_ok rfl ⟨_, Try.func11⟩ (by kernel_rfl) rfl fun v24 hv24 => ?_)
      have sa22 := hv24.blk sa21
      have sb22 := hv24.blk sb21
      have sx22 := hv24.blk sx21
      have sz22 := hv24.blk sz21
      have cX22 := hv24.blk cX21
      have cY22 := hv24.blk cY21
      have cZ22 := hv24.blk cZ21
      have pa22 := hv24.ints pa21
      have pw22 := hv24.ints pw21
      have pb22 := hv24.ints pb21
      clear sa21 sb21 sx21 sz21 cX21 cY21 cZ21 pa21 pw21 pb21
      go_wp2_with fail
      refine (eqInts_same (some ⟨R, 0, none⟩) A9 [] 0 0 v24 (IntRow.nil _ _ _) (IntRow.nil _ _ _) (Nat.le_refl _) (by omega)).mono ?_
      rintro e w5 ⟨rfl, hb⟩
      go_wp2_with fail
      refine ⟨(hb.mono (by have := sa22.lt; omega)).low, ?_⟩
      have sa23 := sa22.below hb sa22.lt
      have sb23 := sb22.below hb sb22.lt
      have sx23 := sx22.below hb sx22.lt
      have sz23 := sz22.below hb sz22.lt
      have cX23 := cX22.below hb cX22.lt
      have cY23 := cY22.below hb cY22.lt
      have cZ23 := cZ22.below hb cZ22.lt
      have pa23 := Low.intsE ((hb.mono (by have := sa22.lt; omega)).low) pa22
      have pw23 := Low.intsE ((hb.mono (by have := sa22.lt; omega)).low) pw22
      have pb23 := Low.intsE ((hb.mono (by have := sa22.lt; omega)).low) pb22
      clear sa22 sb22 sx22 sz22 cX22 cY22 cZ22 pa22 pw22 pb22
      clear hb
      refine kh_seq (kh_piece plainF_ok rfl ⟨_, Try.func11⟩ (by kernel_rfl) rfl fun v25 hv25 => ?_)
      have sa24 := hv25.blk sa23
      have sb24 := hv25.blk sb23
      have sx24 := hv25.blk sx23
      have sz24 := hv25.blk sz23
      have cX24 := hv25.blk cX23
      have cY24 := hv25.blk cY23
      have cZ24 := hv25.blk cZ23
      have pa24 := hv25.ints pa23
      have pw24 := hv25.ints pw23
      have pb24 := hv25.ints pb23
      clear sa23 sb23 sx23 sz23 cX23 cY23 cZ23 pa23 pw23 pb23
      have ca0 := sx24.cells 0
      have cb0 := sx24.cells 1
      have ca1 := sa24.cells 0
      have cb1 := sa24.cells 1
      simp at ca0 cb0 ca1 cb1
      clear ca0 cb0 ca1 cb1
      go_upto_region 17 with fail
      have Xq := Lib.hid sx24
      have Yq := Lib.hid sa24
      have Pq := Lib.hid (show IntRow v25 v25.heap.size A xa from (pa24.more (by have := sa24.lt; omega)))
      refine wp_region_facts 3 [65, 66, 67] (VSl va xa A capa gx) (fun _ U => Below v25.heap.size v25 U) (fun w w' => Below w.heap.size w w') (by kernel_rfl) (by kernel_rfl) (by rfl) ?hI VSl_keep ?hob ?hend
      case hI => exact (Below.refl _ _).drew
      case hob =>
        simp only [List.take_succ_cons, List.take_zero, Obs, and_true]
        refine ⟨?_, ?_, ?_⟩
        · intro k' x U hkn hI hd K hK0
          have hK := hK0.out
          simp only [setAll, Act.put, List.foldl_cons, List.foldl_nil, List.setIfInBounds_toArray, List.set_cons_succ, List.set_cons_zero] at hK ⊢
          have HK := Lib.hid hK
          clear hK hK0
          rw [if_pos (by rfl)]
          clear hd
          have cx0 := (Xq.out.below hI Xq.out.lt).cells 0
          have cx1 := (Xq.out.below hI Xq.out.lt).cells 1
          simp at cx0 cx1
          go_simp
          exact HK.out _ _ hI (Below.refl _ _) ⟨rfl, fun h => by cases h⟩
        · intro k' x U hkn hI hd K hK0
          have hK := hK0.out
          simp only [setAll, Act.put, List.foldl_cons, List.foldl_nil, List.setIfInBounds_toArray, List.set_cons_succ, List.set_cons_zero] at hK ⊢
          have HK := Lib.hid hK
          clear hK hK0
          rw [if_pos (by rfl)]
          clear hd
          have cx0 := (Yq.out.below hI Yq.out.lt).cells 0
          have cx1 := (Yq.out.below hI Yq.out.lt).cells 1
          simp at cx0 cx1
          go_simp
          exact HK.out _ _ hI (Below.refl _ _) ⟨rfl, fun h => by cases h⟩
        · intro k' x U hkn hI hd K hK0
          have hK := hK0.out
          simp only [setAll, Act.put, List.foldl_cons, List.foldl_nil, List.setIfInBounds_toArray, List.set_cons_succ, List.set_cons_zero] at hK ⊢
          have HK := Lib.hid hK
          clear hK hK0
          rw [if_pos (by rfl)]
          obtain e23 : x 66 = .agg #[.int .i64 va, .slice A xa.length capa] := hd 1 _ rfl (by kernel_rfl)
          rw [e23] at HK ⊢
          clear e23
          clear hd
          go_simp
          refine (toSlot_any va A xa capa U (Pq.out.mem hI) la ma na).mono ?_
          rintro e w6 ⟨g6, rfl, hg6, hG, hb6⟩
          exact HK.out _ _ (Fr.step hI hb6) hb6 ⟨⟨g6, rfl, hG⟩, fun h => by cases h⟩
      case hend =>
        intro x U hI hV
        obtain e0 : x 65 = .agg #[.int .i64 va, .slice (some ⟨gx, 0, none⟩) xa.length xa.length] := hV 0 _ (by omega) rfl
        obtain ⟨g9, e2, hg9⟩ : ∃ g9, x 67 = .agg #[.int .i64 va, .slice (some ⟨g9, 0, none⟩) xa.length xa.length] ∧ IntRow U U.heap.size (some ⟨g9, 0, none⟩) xa := hV 2 _ (by omega) rfl
        clear hV
        simp only [setAll, Act.put, List.foldl_cons, List.foldl_nil, List.setIfInBounds_toArray, List.set_cons_succ, List.set_cons_zero, List.drop_succ_cons, List.drop_zero]
        rw [e0, e2]
        clear e0 e2 Xq Yq Pq
        have LU : Below W.heap.size _ _ := hI.mono (by have := sa24.lt; omega)
        have sa25 := sa24.below hI sa24.lt
        have sb25 := sb24.below hI sb24.lt
        have sx25 := sx24.below hI sx24.lt
        have sz25 := sz24.below hI sz24.lt
        have cX25 := cX24.below hI cX24.lt
        have cY25 := cY24.below hI cY24.lt
        have cZ25 := cZ24.below hI cZ24.lt
        have pa25 := Low.intsE ((hI.mono (by have := sa24.lt; omega)).low) pa24
        have pw25 := Low.intsE ((hI.mono (by have := sa24.lt; omega)).low) pw24
        have pb25 := Low.intsE ((hI.mono (by have := sa24.lt; omega)).low) pb24
        clear sa24 sb24 sx24 sz24 cX24 cY24 cZ24 pa24 pw24 pb24
        clear hI
        go_wp2_with fail
        refine (eqSlot_same va _ _ xa _ _ U (IntRow.of_blk cX25) hg9 (Nat.le_refl _) xla).mono ?_
        rintro e w7 ⟨rfl, hb⟩
        go_wp2_with fail
        refine ⟨(LU.trans (hb.mono (by have := sa25.lt; omega))).low, ?_⟩
        have sa26 := sa25.below hb sa25.lt
        have sb26 := sb25.below hb sb25.lt
        have sx26 := sx25.below hb sx25.lt
        have sz26 := sz25.below hb sz25.lt
        have cX26 := cX25.below hb cX25.lt
        have cY26 := cY25.below hb cY25.lt
        have cZ26 := cZ25.below hb cZ25.lt
        have pa26 := Low.intsE ((hb.mono (by have := sa25.lt; omega)).low) pa25
        have pw26 := Low.intsE ((hb.mono (by have := sa25.lt; omega)).low) pw25
        have pb26 := Low.intsE ((hb.mono (by have := sa25.lt; omega)).low) pb25
        clear sa25 sb25 sx25 sz25 cX25 cY25 cZ25 pa25 pw25 pb25
        clear hb LU hg9
        refine kh_seq (kh_piece plainF_ok rfl ⟨_, Try.func11⟩ (by kernel_rfl) rfl fun v26 hv26 => ?_)
        have sa27 := hv26.blk sa26
        have sb27 := hv26.blk sb26
        have sx27 := hv26.blk sx26
        have sz27 := hv26.blk sz26
        have cX27 := hv26.blk cX26
        have cY27 := hv26.blk cY26
        have cZ27 := hv26.blk cZ26
        have pa27 := hv26.ints pa26
        have pw27 := hv26.ints pw26
        have pb27 := hv26.ints pb26
        clear sa26 sb26 sx26 sz26 cX26 cY26 cZ26 pa26 pw26 pb26
        go_wp2_with fail
        refine (toInts_any C ws capw v26 (pw27.more (by have := sa27.lt; omega)) lw mw nw).mono ?_
        rintro e w4 ⟨g8, rfl, hg8, c8, hb⟩
        have LU : Below W.heap.size _ _ := hb.mono (by have := sa27.lt; omega)
        have sa28 := sa27.below hb sa27.lt
        have sb28 := sb27.below hb sb27.lt
        have sx28 := sx27.below hb sx27.lt
        have sz28 := sz27.below hb sz27.lt
        have cX28 := cX27.below hb cX27.lt
        have cY28 := cY27.below hb cY27.lt
        have cZ28 := cZ27.below hb cZ27.lt
        have pa28 := Low.intsE ((hb.mono (by have := sa27.lt; omega)).low) pa27
        have pw28 := Low.intsE ((hb.mono (by have := sa27.lt; omega)).low) pw27
        have pb28 := Low.intsE ((hb.mono (by have := sa27.lt; omega)).low) pb27
        clear sa27 sb27 sx27 sz27 cX27 cY27 cZ27 pa27 pw27 pb27
        clear hb
        go_wp2_with fail
        refine (eqInts_same (some ⟨gy, 0, none⟩) (some ⟨g8, 0, none⟩) ws ws.length ws.length w4 (IntRow.of_blk cY28) (IntRow.of_blk c8) (Nat.le_refl _) xlw).mono ?_
        rintro e w7 ⟨rfl, hb⟩
        go_wp2_with fail
        refine ⟨(LU.trans (hb.mono (by have := sa28.lt; omega))).low, ?_⟩
        have sa29 := sa28.below hb sa28.lt
        have sb29 := sb28.below hb sb28.lt
        have sx29 := sx28.below hb sx28.lt
        have sz29 := sz28.below hb sz28.lt
        have cX29 := cX28.below hb cX28.lt
        have cY29 := cY28.below hb cY28.lt
        have cZ29 := cZ28.below hb cZ28.lt
        have pa29 := Low.intsE ((hb.mono (by have := sa28.lt; omega)).low) pa28
        have pw29 := Low.intsE ((hb.mono (by have := sa28.lt; omega)).low) pw28
        have pb29 := Low.intsE ((hb.mono (by have := sa28.lt; omega)).low) pb28
        clear sa28 sb28 sx28 sz28 cX28 cY28 cZ28 pa28 pw28 pb28
        clear hb LU hg8 c8
        refine kh_seq (kh_piece plainF_ok rfl ⟨_, Try.func11⟩ (by kernel_rfl) rfl fun v27 hv27 => ?_)
        have sa30 := hv27.blk sa29
        have sb30 := hv27.blk sb29
        have sx30 := hv27.blk sx29
        have sz30 := hv27.blk sz29
        have cX30 := hv27.blk cX29
        have cY30 := hv27.blk cY29
        have cZ30 := hv27.blk cZ29
        have pa30 := hv27.ints pa29
        have pw30 := hv27.ints pw29
        have pb30 := hv27.ints pb29
        clear sa29 sb29 sx29 sz29 cX29 cY29 cZ29 pa29 pw29 pb29
        have ca0 := sz30.cells 0
        have cb0 := sz30.cells 1
        have ca1 := sb30.cells 0
        have cb1 := sb30.cells 1
        simp at ca0 cb0 ca1 cb1
        clear ca0 cb0 ca1 cb1
        go_upto_region 21 with fail
        have Xq := Lib.hid sz30
        have Yq := Lib.hid sb30
        have Pq := Lib.hid (show IntRow v27 v27.heap.size B xb from (pb30.more (by have := sa30.lt; omega)))
        refine wp_region_facts 3 [75, 76, 77] (VSl vb xb B capb gz) (fun _ U => Below v27.heap.size v27 U) (fun w w' => Below w.heap.size w w') (by kernel_rfl) (by kernel_rfl) (by rfl) ?hI VSl_keep ?hob ?hend
        case hI => exact (Below.refl _ _).drew
        case hob =>
          simp only [List.take_succ_cons, List.take_zero, Obs, and_true]
          refine ⟨?_, ?_, ?_⟩
          · intro k' x U hkn hI hd K hK0
            have hK := hK0.out
            simp only [setAll, Act.put, List.foldl_cons, List.foldl_nil, List.setIfInBounds_toArray, List.set_cons_succ, List.set_cons_zero] at hK ⊢
            have HK := Lib.hid hK
            clear hK hK0
            rw [if_pos (by rfl)]
            clear hd
            have cx0 := (Xq.out.below hI Xq.out.lt).cells 0
            have cx1 := (Xq.out.below hI Xq.out.lt).cells 1
            simp at cx0 cx1
            go_simp
            exact HK.out _ _ hI (Below.refl _ _) ⟨rfl, fun h => by cases h⟩
          · intro k' x U hkn hI hd K hK0
            have hK := hK0.out
            simp only [setAll, Act.put, List.foldl_cons, List.foldl_nil, List.setIfInBounds_toArray, List.set_cons_succ, List.set_cons_zero] at hK ⊢
            have HK := Lib.hid hK
            clear hK hK0
            rw [if_pos (by rfl)]
            clear hd
            have cx0 := (Yq.out.below hI Yq.out.lt).cells 0
            have cx1 := (Yq.out.below hI Yq.out.lt).cells 1
            simp at cx0 cx1
            go_simp
            exact HK.out _ _ hI (Below.refl _ _) ⟨rfl, fun h => by cases h⟩
          · intro k' x U hkn hI hd K hK0
            have hK := hK0.out
            simp only [setAll, Act.put, List.foldl_cons, List.foldl_nil, List.setIfInBounds_toArray, List.set_cons_succ, List.set_cons_zero] at hK ⊢
            have HK := Lib.hid hK
            clear hK hK0
            rw [if_pos (by rfl)]
            obtain e23 : x 76 = .agg #[.int .i64 vb, .slice B xb.length capb] := hd 1 _ rfl (by kernel_rfl)
            rw [e23] at HK ⊢
            clear e23
            clear hd
            go_simp
            refine (toSlot_any vb B xb capb U (Pq.out.mem hI) lb mb nb).mono ?_
            rintro e w6 ⟨g6, rfl, hg6, hG, hb6⟩
            exact HK.out _ _ (Fr.step hI hb6) hb6 ⟨⟨g6, rfl, hG⟩, fun h => by cases h⟩
        case hend =>
          intro x U hI hV
          obtain e0 : x 75 = .agg #[.int .i64 vb, .slice (some ⟨gz, 0, none⟩) xb.length xb.length] := hV 0 _ (by omega) rfl
          obtain ⟨g9, e2, hg9⟩ : ∃ g9, x 77 = .agg #[.int .i64 vb, .slice (some ⟨g9, 0, none⟩) xb.length xb.length] ∧ IntRow U U.heap.size (some ⟨g9, 0, none⟩) xb := hV 2 _ (by omega) rfl
          clear hV
          simp only [setAll, Act.put, List.foldl_cons, List.foldl_nil, List.setIfInBounds_toArray, List.set_cons_succ, List.set_cons_zero, List.drop_succ_cons, List.drop_zero]
          rw [e0, e2]
          clear e0 e2 Xq Yq Pq
          have LU : Below W.heap.size _ _ := hI.mono (by have := sa30.lt; omega)
          have sa31 := sa30.below hI sa30.lt
          have sb31 := sb30.below hI sb30.lt
          have sx31 := sx30.below hI sx30.lt
          have sz31 := sz30.below hI sz30.lt
          have cX31 := cX30.below hI cX30.lt
          have cY31 := cY30.below hI cY30.lt
          have cZ31 := cZ30.below hI cZ30.lt
          have pa31 := Low.intsE ((hI.mono (by have := sa30.lt; omega)).low) pa30
          have pw31 := Low.intsE ((hI.mono (by have := sa30.lt; omega)).low) pw30
          have pb31 := Low.intsE ((hI.mono (by have := sa30.lt; omega)).low) pb30
          clear sa30 sb30 sx30 sz30 cX30 cY30 cZ30 pa30 pw30 pb30
          clear hI
          go_wp2_with fail
          refine (eqSlot_same vb _ _ xb _ _ U (IntRow.of_blk cZ31) hg9 (Nat.le_refl _) xlb).mono ?_
          rintro e w7 ⟨rfl, hb⟩
          go_wp2_with fail
          refine ⟨(LU.trans (hb.mono (by have := sa31.lt; omega))).low, ?_⟩
          have sa32 := sa31.below hb sa31.lt
          have sb32 := sb31.below hb sb31.lt
          have sx32 := sx31.below hb sx31.lt
          have sz32 := sz31.below hb sz31.lt
          have cX32 := cX31.below hb cX31.lt
          have cY32 := cY31.below hb cY31.lt
          have cZ32 := cZ31.below hb cZ31.lt
          have pa32 := Low.intsE ((hb.mono (by have := sa31.lt; omega)).low) pa31
          have pw32 := Low.intsE ((hb.mono (by have := sa31.lt; omega)).low) pw31
          have pb32 := Low.intsE ((hb.mono (by have := sa31.lt; omega)).low) pb31
          clear sa31 sb31 sx31 sz31 cX31 cY31 cZ31 pa31 pw31 pb31
          clear hb LU hg9
          refine kh_seq (kh_piece plainF_ok rfl ⟨_, Try.func11⟩ (by kernel_rfl) rfl fun v28 hv28 => ?_)
          have sa33 := hv28.blk sa32
          have sb33 := hv28.blk sb32
          have sx33 := hv28.blk sx32
          have sz33 := hv28.blk sz32
          have cX33 := hv28.blk cX32
          have cY33 := hv28.blk cY32
          have cZ33 := hv28.blk cZ32
          have pa33 := hv28.ints pa32
          have pw33 := hv28.ints pw32
          have pb33 := hv28.ints pb32
          clear sa32 sb32 sx32 sz32 cX32 cY32 cZ32 pa32 pw32 pb32
          go_wp2_with fail
          refine ⟨fun _ _ => rfl, ?_⟩
          refine kh_seq (kh_piece plainF_ok rfl ⟨_, Try.func11⟩ (by kernel_rfl) rfl fun v29 hv29 => ?_)
          have sa34 := hv29.blk sa33
          have sb34 := hv29.blk sb33
          have sx34 := hv29.blk sx33
          have sz34 := hv29.blk sz33
          have cX34 := hv29.blk cX33
          have cY34 := hv29.blk cY33
          have cZ34 := hv29.blk cZ33
          have pa34 := hv29.ints pa33
          have pw34 := hv29.ints pw33
          have pb34 := hv29.ints pb33
          clear sa33 sb33 sx33 sz33 cX33 cY33 cZ33 pa33 pw33 pb33
          have ca0 := sx34.cells 0
          have cb0 := sx34.cells 1
          simp at ca0 cb0
          go_wp2_with fail
          refine (markSlot1 va gx xa.length xa.length _ 1 v29 cX34 (by simp) (by omega) (by omega) (Nat.le_refl _) (by omega)).mono ?_
          rintro e w8 ⟨rfl, ⟨CX, hCX, hMX⟩, hK⟩
          clear ca0 cb0
          go_wp2_with fail
          refine ⟨Keep.lowE hK (by have := sa34.lt; omega) (by simp; omega), ?_⟩
          have sa35 := Blk.keepI sa34 cX34 hK (by decide)
          have sb35 := Blk.keepI sb34 cX34 hK (by decide)
          have sx35 := Blk.keepI sx34 cX34 hK (by decide)
          have sz35 := Blk.keepI sz34 cX34 hK (by decide)
          have cX35 := hCX
          have cY35 := Blk.keepN cY34 hK (by omega)
          have cZ35 := Blk.keepN cZ34 hK (by omega)
          have pa35 := Low.intsE (Keep.lowE hK (by have := sa34.lt; omega) (by simp; omega)) pa34
          have pw35 := Low.intsE (Keep.lowE hK (by have := sa34.lt; omega) (by simp; omega)) pw34
          have pb35 := Low.intsE (Keep.lowE hK (by have := sa34.lt; omega) (by simp; omega)) pb34
          clear sa34 sb34 sx34 sz34 cX34 cY34 cZ34 pa34 pw34 pb34
          clear hK hCX
          refine kh_seq (kh_piece plainF_ok rfl ⟨_, Try.func11⟩ (by kernel_rfl) rfl fun v30 hv30 => ?_)
          have sa36 := hv30.blk sa35
          have sb36 := hv30.blk sb35
          have sx36 := hv30.blk sx35
          have sz36 := hv30.blk sz35
          have cX36 := hv30.blk cX35
          have cY36 := hv30.blk cY35
          have cZ36 := hv30.blk cZ35
          have pa36 := hv30.ints pa35
          have pw36 := hv30.ints pw35
          have pb36 := hv30.ints pb35
          clear sa35 sb35 sx35 sz35 cX35 cY35 cZ35 pa35 pw35 pb35
          go_wp2_with fail
          refine (markInts1 gy ws.length ws.length _ (1 + (xa.length : Int)) v30 cY36 (by simp) (by omega) (by omega) (Nat.le_refl _) (by omega)).mono ?_
          rintro e w8 ⟨rfl, ⟨CY, hCY, hMY⟩, hK⟩
          go_wp2_with fail
          refine ⟨Keep.lowE hK (by have := sa36.lt; omega) (by simp; omega), ?_⟩
          have sa37 := Blk.keepI sa36 cY36 hK (by decide)
          have sb37 := Blk.keepI sb36 cY36 hK (by decide)
          have sx37 := Blk.keepI sx36 cY36 hK (by decide)
          have sz37 := Blk.keepI sz36 cY36 hK (by decide)
          have cX37 := Blk.keepN cX36 hK (by omega)
          have cY37 := hCY
          have cZ37 := Blk.keepN cZ36 hK (by omega)
          have pa37 := Low.intsE (Keep.lowE hK (by have := sa36.lt; omega) (by simp; omega)) pa36
          have pw37 := Low.intsE (Keep.lowE hK (by have := sa36.lt; omega) (by simp; omega)) pw36
          have pb37 := Low.intsE (Keep.lowE hK (by have := sa36.lt; omega) (by simp; omega)) pb36
          clear sa36 sb36 sx36 sz36 cX36 cY36 cZ36 pa36 pw36 pb36
          clear hK hCY
          refine kh_seq (kh_piece plainF_ok rfl ⟨_, Try.func11⟩ (by kernel_rfl) rfl fun v31 hv31 => ?_)
          have sa38 := hv31.blk sa37
          have sb38 := hv31.blk sb37
          have sx38 := hv31.blk sx37
          have sz38 := hv31.blk sz37
          have cX38 := hv31.blk cX37
          have cY38 := hv31.blk cY37
          have cZ38 := hv31.blk cZ37
          have pa38 := hv31.ints pa37
          have pw38 := hv31.ints pw37
          have pb38 := hv31.ints pb37
          clear sa37 sb37 sx37 sz37 cX37 cY37 cZ37 pa37 pw37 pb37
          have ca0 := sz38.cells 0
          have cb0 := sz38.cells 1
          simp at ca0 cb0
          go_wp2_with fail
          refine (markSlot1 vb gz xb.length xb.length _ (1 + (xa.length : Int) + (ws.length : Int)) v31 cZ38 (by simp) (by omega) (by omega) (Nat.le_refl _) (by omega)).mono ?_
          rintro e w8 ⟨rfl, ⟨CZ, hCZ, hMZ⟩, hK⟩
          clear ca0 cb0
          go_wp2_with fail
          refine ⟨Keep.lowE hK (by have := sa38.lt; omega) (by simp; omega), ?_⟩
          have sa39 := Blk.keepI sa38 cZ38 hK (by decide)
          have sb39 := Blk.keepI sb38 cZ38 hK (by decide)
          have sx39 := Blk.keepI sx38 cZ38 hK (by decide)
          have sz39 := Blk.keepI sz38 cZ38 hK (by decide)
          have cX39 := Blk.keepN cX38 hK (by omega)
          have cY39 := Blk.keepN cY38 hK (by omega)
          have cZ39 := hCZ
          have pa39 := Low.intsE (Keep.lowE hK (by have := sa38.lt; omega) (by simp; omega)) pa38
          have pw39 := Low.intsE (Keep.lowE hK (by have := sa38.lt; omega) (by simp; omega)) pw38
          have pb39 := Low.intsE (Keep.lowE hK (by have := sa38.lt; omega) (by simp; omega)) pb38
          clear sa38 sb38 sx38 sz38 cX38 cY38 cZ38 pa38 pw38 pb38
          clear hK hCZ
          refine kh_seq (kh_piece plainF_ok rfl ⟨_, Try.func11⟩ (by kernel_rfl) rfl fun v32 hv32 => ?_)
          have sa40 := hv32.blk sa39
          have sb40 := hv32.blk sb39
          have sx40 := hv32.blk sx39
          have sz40 := hv32.blk sz39
          have cX40 := hv32.blk cX39
          have cY40 := hv32.blk cY39
          have cZ40 := hv32.blk cZ39
          have pa40 := hv32.ints pa39
          have pw40 := hv32.ints pw39
          have pb40 := hv32.ints pb39
          clear sa39 sb39 sx39 sz39 cX39 cY39 cZ39 pa39 pw39 pb39
          go_wp2_with fail
          refine (eqInts_same (some ⟨R, 0, none⟩) A9 [] 0 0 v32 (IntRow.nil _ _ _) (IntRow.nil _ _ _) (Nat.le_refl _) (by omega)).mono ?_
          rintro e w5 ⟨rfl, hb⟩
          go_wp2_with fail
          refine ⟨(hb.mono (by have := sa40.lt; omega)).low, ?_⟩
          have sa41 := sa40.below hb sa40.lt
          have sb41 := sb40.below hb sb40.lt
          have sx41 := sx40.below hb sx40.lt
          have sz41 := sz40.below hb sz40.lt
          have cX41 := cX40.below hb cX40.lt
          have cY41 := cY40.below hb cY40.lt
          have cZ41 := cZ40.below hb cZ40.lt
          have pa41 := Low.intsE ((hb.mono (by have := sa40.lt; omega)).low) pa40
          have pw41 := Low.intsE ((hb.mono (by have := sa40.lt; omega)).low) pw40
          have pb41 := Low.intsE ((hb.mono (by have := sa40.lt; omega)).low) pb40
          clear sa40 sb40 sx40 sz40 cX40 cY40 cZ40 pa40 pw40 pb40
          clear hb
          refine kh_seq (kh_piece plainF_ok rfl ⟨_, Try.func11⟩ (by kernel_rfl) rfl fun v33 hv33 => ?_)
          have sa42 := hv33.blk sa41
          have sb42 := hv33.blk sb41
          have sx42 := hv33.blk sx41
          have sz42 := hv33.blk sz41
          have cX42 := hv33.blk cX41
          have cY42 := hv33.blk cY41
          have cZ42 := hv33.blk cZ41
          have pa42 := hv33.ints pa41
          have pw42 := hv33.ints pw41
          have pb42 := hv33.ints pb41
          clear sa41 sb41 sx41 sz41 cX41 cY41 cZ41 pa41 pw41 pb41
          go_wp2_with fail
          refine ⟨fun _ _ => rfl, ?_⟩
          refine kh_seq (kh_piece plainF_ok rfl ⟨_, Try.func11⟩ (by kernel_rfl) rfl fun v34 hv34 => ?_)
          have sa43 := hv34.blk sa42
          have sb43 := hv34.blk sb42
          have sx43 := hv34.blk sx42
          have sz43 := hv34.blk sz42
          have cX43 := hv34.blk cX42
          have cY43 := hv34.blk cY42
          have cZ43 := hv34.blk cZ42
          have pa43 := hv34.ints pa42
          have pw43 := hv34.ints pw42
          have pb43 := hv34.ints pb42
          clear sa42 sb42 sx42 sz42 cX42 cY42 cZ42 pa42 pw42 pb42
          go_wp2_with fail
          refine (markInts0 (some ⟨R, 0, none⟩) 0 1 v34).mono ?_
          rintro e w8 ⟨rfl, rfl⟩
          go_wp2_with fail
          refine ⟨fun _ _ => rfl, ?_⟩
          refine kh_seq (kh_piece plainF_ok rfl ⟨_, Try.func11⟩ (by kernel_rfl) rfl fun v35 hv35 => ?_)
          have sa44 := hv35.blk sa43
          have sb44 := hv35.blk sb43
          have sx44 := hv35.blk sx43
          have sz44 := hv35.blk sz43
          have cX44 := hv35.blk cX43
          have cY44 := hv35.blk cY43
          have cZ44 := hv35.blk cZ43
          have pa44 := hv35.ints pa43
          have pw44 := hv35.ints pw43
          have pb44 := hv35.ints pb43
          clear sa43 sb43 sx43 sz43 cX43 cY43 cZ43 pa43 pw43 pb43
          go_wp2_with fail
          refine ⟨fun _ _ => rfl, ?_⟩
          refine kh_seq (kh_piece plainF_ok rfl ⟨_, Try.func11⟩ (by kernel_rfl) rfl fun v36 hv36 => ?_)
          have sa45 := hv36.blk sa44
          have sb45 := hv36.blk sb44
          have sx45 := hv36.blk sx44
          have sz45 := hv36.blk sz44
          have cX45 := hv36.blk cX44
          have cY45 := hv36.blk cY44
          have cZ45 := hv36.blk cZ44
          have pa45 := hv36.ints pa44
          have pw45 := hv36.ints pw44
          have pb45 := hv36.ints pb44
          clear sa44 sb44 sx44 sz44 cX44 cY44 cZ44 pa44 pw44 pb44
          go_wp2_with fail
          refine (heldInts0 (some ⟨R, 0, none⟩) 0 1 v36).mono ?_
          rintro e w8 ⟨rfl, e8⟩
          rw [e8]
          clear e8
          go_wp2_with fail
          refine ⟨fun _ _ => rfl, ?_⟩
          refine kh_seq (kh_piece plainF_ok rfl ⟨_, Try.func11⟩ (by kernel_rfl) rfl fun v37 hv37 => ?_)
          have sa46 := hv37.blk sa45
          have sb46 := hv37.blk sb45
          have sx46 := hv37.blk sx45
          have sz46 := hv37.blk sz45
          have cX46 := hv37.blk cX45
          have cY46 := hv37.blk cY45
          have cZ46 := hv37.blk cZ45
          have pa46 := hv37.ints pa45
          have pw46 := hv37.ints pw45
          have pb46 := hv37.ints pb45
          clear sa45 sb45 sx45 sz45 cX45 cY45 cZ45 pa45 pw45 pb45
          go_wp2_with fail
          refine ⟨fun _ _ => rfl, ?_⟩
          refine kh_seq (kh_piece plainF_ok rfl ⟨_, Try.func11⟩ (by kernel_rfl) rfl fun v38 hv38 => ?_)
          have sa47 := hv38.blk sa46
          have sb47 := hv38.blk sb46
          have sx47 := hv38.blk sx46
          have sz47 := hv38.blk sz46
          have cX47 := hv38.blk cX46
          have cY47 := hv38.blk cY46
          have cZ47 := hv38.blk cZ46
          have pa47 := hv38.ints pa46
          have pw47 := hv38.ints pw46
          have pb47 := hv38.ints pb46
          clear sa46 sb46 sx46 sz46 cX46 cY46 cZ46 pa46 pw46 pb46
          go_wp2_with fail
          refine ⟨fun _ _ => rfl, ?_⟩
          have hWW : W.heap.size ≤ v38.heap.size := (by have := sa47.lt; omega)
          have Yq := Lib.hid sa47
          have Zq := Lib.hid sb47
          have Pa := Lib.hid (show IntRow v38 v38.heap.size A xa from (pa47.more (by have := sa47.lt; omega)))
          have Pw := Lib.hid (show IntRow v38 v38.heap.size C ws from (pw47.more (by have := sa47.lt; omega)))
          have Pb := Lib.hid (show IntRow v38 v38.heap.size B xb from (pb47.more (by have := sa47.lt; omega)))
          refine kh_seq (kh_draw_facts [114, 115, 116, 117, 118, 119, 120, 113, 121, 122, 18, 19] (VR va A xa capa C ws capw vb B xb capb false) (by kernel_rfl) rfl (by decide) (by kernel_rfl) VR_keep0 ?hob ?hend)
          case hob =>
            refine ⟨?_, ?_, ?_, ?_, ?_, ?_, ?_, ?_, ?_, ?_, ?_, ?_, trivial⟩
            · refine obk_plain plainF_ok rfl ⟨_, Try.func11⟩ (by kernel_rfl) rfl rfl hWW rfl VR_keep0 ?_
              intro Q x U hI hd K hK0
              have hK := hK0.out
              simp only [setAll, Act.put, List.foldl_cons, List.foldl_nil, List.setIfInBounds_toArray, List.set_cons_succ, List.set_cons_zero] at hK ⊢
              have HK := Lib.hid hK
              clear hK hK0
              clear hd
              have cx0 := (Yq.out.keep0 hI).cells 0
              have cx1 := (Yq.out.keep0 hI).cells 1
              simp at cx0 cx1
              go_simp
              exact HK.out _ _ (Below.refl _ _) rfl
            · refine obk_plain plainF_ok rfl ⟨_, Try.func11⟩ (by kernel_rfl) rfl rfl hWW rfl VR_keep0 ?_
              intro Q x U hI hd K hK0
              have hK := hK0.out
              simp only [setAll, Act.put, List.foldl_cons, List.foldl_nil, List.setIfInBounds_toArray, List.set_cons_succ, List.set_cons_zero] at hK ⊢
              have HK := Lib.hid hK
              clear hK hK0
              obtain e : x 114 = .agg #[.int .i64 va, .slice A xa.length capa] := hd 0 (by kernel_rfl)
              rw [e] at HK ⊢
              clear e
              clear hd
              go_simp
              refine (toSlot_any va A xa capa U (Pa.out.keep0 hI) la ma na).mono ?_
              rintro e w6 ⟨g6, rfl, hg6, hG, hb6⟩
              exact HK.out _ _ hb6 ⟨g6, rfl, hG⟩
            · refine obk_plain plainF_ok rfl ⟨_, Try.func11⟩ (by kernel_rfl) rfl rfl hWW rfl VR_keep0 ?_
              intro Q x U hI hd K hK0
              have hK := hK0.out
              simp only [setAll, Act.put, List.foldl_cons, List.foldl_nil, List.setIfInBounds_toArray, List.set_cons_succ, List.set_cons_zero] at hK ⊢
              have HK := Lib.hid hK
              clear hK hK0
              clear hd
              go_simp
              exact HK.out _ _ (Below.refl _ _) rfl
            · refine obk_plain plainF_ok rfl ⟨_, Try.func11⟩ (by kernel_rfl) rfl rfl hWW rfl VR_keep0 ?_
              intro Q x U hI hd K hK0
              have hK := hK0.out
              simp only [setAll, Act.put, List.foldl_cons, List.foldl_nil, List.setIfInBounds_toArray, List.set_cons_succ, List.set_cons_zero] at hK ⊢
              have HK := Lib.hid hK
              clear hK hK0
              obtain e : x 116 = .slice C ws.length capw := hd 2 (by kernel_rfl)
              rw [e] at HK ⊢
              clear e
              clear hd
              go_simp
              refine (toInts_any C ws capw U (Pw.out.keep0 hI) lw mw nw).mono ?_
              rintro e w6 ⟨g6, rfl, hg6, hG, hb6⟩
              exact HK.out _ _ hb6 ⟨g6, rfl, IntRow.of_blk hG⟩
            · refine obk_plain plainF_ok rfl ⟨_, Try.func11⟩ (by kernel_rfl) rfl rfl hWW rfl VR_keep0 ?_
              intro Q x U hI hd K hK0
              have hK := hK0.out
              simp only [setAll, Act.put, List.foldl_cons, List.foldl_nil, List.setIfInBounds_toArray, List.set_cons_succ, List.set_cons_zero] at hK ⊢
              have HK := Lib.hid hK
              clear hK hK0
              clear hd
              have cx0 := (Zq.out.keep0 hI).cells 0
              have cx1 := (Zq.out.keep0 hI).cells 1
              simp at cx0 cx1
              go_simp
              exact HK.out _ _ (Below.refl _ _) rfl
            · refine obk_plain plainF_ok rfl ⟨_, Try.func11⟩ (by kernel_rfl) rfl rfl hWW rfl VR_keep0 ?_
              intro Q x U hI hd K hK0
              have hK := hK0.out
              simp only [setAll, Act.put, List.foldl_cons, List.foldl_nil, List.setIfInBounds_toArray, List.set_cons_succ, List.set_cons_zero] at hK ⊢
              have HK := Lib.hid hK
              clear hK hK0
              obtain e : x 118 = .agg #[.int .i64 vb, .slice B xb.length capb] := hd 4 (by kernel_rfl)
              rw [e] at HK ⊢
              clear e
              clear hd
              go_simp
              refine (toSlot_any vb B xb capb U (Pb.out.keep0 hI) lb mb nb).mono ?_
              rintro e w6 ⟨g6, rfl, hg6, hG, hb6⟩
              exact HK.out _ _ hb6 ⟨g6, rfl, hG⟩
            · intro S9 x U l9 hI hd hc0
              simp only [setAll, Act.put, List.foldl_cons, List.foldl_nil, List.setIfInBounds_toArray, List.set_cons_succ, List.set_cons_zero] at hc0 ⊢
              have HK := Lib.hid hc0
              clear hc0
              obtain ⟨g1, e, G1⟩ : ∃ g, x 115 = .agg #[.int .i64 va, .slice (some ⟨g, 0, none⟩) xa.length xa.length] ∧ IntRow U U.heap.size (some ⟨g, 0, none⟩) xa := hd 1 (by kernel_rfl)
              rw [e] at HK ⊢
              clear e
              obtain ⟨g3, e, G3⟩ : ∃ g, x 117 = .slice (some ⟨g, 0, none⟩) ws.length ws.length ∧ IntRow U U.heap.size (some ⟨g, 0, none⟩) ws := hd 3 (by kernel_rfl)
              rw [e] at HK ⊢
              clear e
              obtain ⟨g5, e, G5⟩ : ∃ g, x 119 = .agg #[.int .i64 vb, .slice (some ⟨g, 0, none⟩) xb.length xb.length] ∧ IntRow U U.heap.size (some ⟨g, 0, none⟩) xb := hd 5 (by kernel_rfl)
              rw [e] at HK ⊢
              clear e
              clear hd
              refine kh_call (c := Try.f30.body.getD .skip) rfl rfl (by simp [base]) rfl Try.func30 (by kernel_rfl) rfl ?_
              simp only [Try.ntmps30, List.size_toArray, List.length_cons, List.length_nil, Nat.reduceAdd, Nat.reduceSub, Array.replicate_succ, Array.replicate_zero, List.push_toArray, List.append_toArray, List.nil_append, List.cons_append, List.map_toArray, List.map_cons, List.map_nil, Array.size_map]
              walk_nrm
              refine kh_read (W0 := W) (Post := YesE W) (va := va) (vb := vb) (A := some ⟨g1, 0, none⟩) (B := some ⟨g5, 0, none⟩) (C := some ⟨g3, 0, none⟩) (xa := xa) (ws := ws) (xb := xb) (capa := xa.length) (capw := ws.length) (capb := xb.length) G1 G5 G3 (Nat.le_refl _) xla (Nat.le_refl _) xlb (Nat.le_refl _) xlw (Nat.le_trans hWW hI.1) (fun S8 w8 x8 hR => ?_)
              rw [Frame.finish_at]
              walk_nrm
              obtain ⟨R9, hR1, rfl⟩ := hR.no HB.out
              exact HK.out S8 _ w8 ⟨hR.size, fun k hk _ => hR.low k hk⟩ (⟨_, _, _, rfl, (fun h => by cases h), fun _ => ⟨rfl, rfl⟩⟩)
            · refine obk_plain plainF_ok rfl ⟨_, Try.func11⟩ (by kernel_rfl) rfl rfl hWW rfl VR_keep0 ?_
              intro Q x U hI hd K hK0
              have hK := hK0.out
              simp only [setAll, Act.put, List.foldl_cons, List.foldl_nil, List.setIfInBounds_toArray, List.set_cons_succ, List.set_cons_zero] at hK ⊢
              have HK := Lib.hid hK
              clear hK hK0
              obtain ⟨A2, n2, c2, e, hy, hn⟩ : ∃ A2 n c2, x 120 = .tuple #[.slice A2 n c2, .bool false] ∧ (false = true → n = ws.length ∧ Row1 U A2 ws ∧ ws.length ≤ c2 ∧ c2 ≤ 9223372036854775807) ∧ (false = false → n = 0 ∧ c2 = 0) := hd 6 (by kernel_rfl)
              rw [e] at HK ⊢
              clear e
              have HY2 := Lib.hid (And.intro hy hn)
              clear hd hy hn
              go_simp
              exact HK.out _ _ (Below.refl _ _) ⟨A2, n2, c2, rfl, HY2.out.1, HY2.out.2⟩
            · refine obk_plain plainF_ok rfl ⟨_, Try.func11⟩ (by kernel_rfl) rfl rfl hWW rfl VR_keep0 ?_
              intro Q x U hI hd K hK0
              have hK := hK0.out
              simp only [setAll, Act.put, List.foldl_cons, List.foldl_nil, List.setIfInBounds_toArray, List.set_cons_succ, List.set_cons_zero] at hK ⊢
              have HK := Lib.hid hK
              clear hK hK0
              obtain ⟨A2, n2, c2, e, hy, hn⟩ : ∃ A2 n c2, x 113 = .tuple #[.slice A2 n c2, .bool false] ∧ (false = true → n = ws.length ∧ Row1 U A2 ws ∧ ws.length ≤ c2 ∧ c2 ≤ 9223372036854775807) ∧ (false = false → n = 0 ∧ c2 = 0) := hd 7 (by kernel_rfl)
              rw [e] at HK ⊢
              clear e
              have HY2 := Lib.hid (And.intro hy hn)
              clear hd hy hn
              go_simp
              exact HK.out _ _ (Below.refl _ _) ⟨A2, n2, c2, rfl, HY2.out.1, HY2.out.2⟩
            · refine obk_plain plainF_ok rfl ⟨_, Try.func11⟩ (by kernel_rfl) rfl rfl hWW rfl VR_keep0 ?_
              intro Q x U hI hd K hK0
              have hK := hK0.out
              simp only [setAll, Act.put, List.foldl_cons, List.foldl_nil, List.setIfInBounds_toArray, List.set_cons_succ, List.set_cons_zero] at hK ⊢
              have HK := Lib.hid hK
              clear hK hK0
              obtain ⟨A2, n2, c2, e, hy, hn⟩ : ∃ A2 n c2, x 113 = .tuple #[.slice A2 n c2, .bool false] ∧ (false = true → n = ws.length ∧ Row1 U A2 ws ∧ ws.length ≤ c2 ∧ c2 ≤ 9223372036854775807) ∧ (false = false → n = 0 ∧ c2 = 0) := hd 7 (by kernel_rfl)
              rw [e] at HK ⊢
              clear e
              clear hd hy hn
              go_simp
              exact HK.out _ _ (Below.refl _ _) rfl
            · refine obk_plain plainF_ok rfl ⟨_, Try.func11⟩ (by kernel_rfl) rfl rfl hWW rfl VR_keep0 ?_
              intro Q x U hI hd K hK0
              have hK := hK0.out
              simp only [setAll, Act.put, List.foldl_cons, List.foldl_nil, List.setIfInBounds_toArray, List.set_cons_succ, List.set_cons_zero] at hK ⊢
              have HK := Lib.hid hK
              clear hK hK0
              obtain ⟨A2, n2, c2, e, hy, hn⟩ : ∃ A2 n c2, x 121 = .slice A2 n c2 ∧ (false = true → n = ws.length ∧ Row1 U A2 ws ∧ ws.length ≤ c2 ∧ c2 ≤ 9223372036854775807) ∧ (false = false → n = 0 ∧ c2 = 0) := hd 8 (by kernel_rfl)
              rw [e] at HK ⊢
              clear e
              have HY2 := Lib.hid (And.intro hy hn)
              clear hd hy hn
              go_simp
              exact HK.out _ _ (Below.refl _ _) ⟨A2, n2, c2, rfl, HY2.out.1, HY2.out.2⟩
            · refine obk_plain plainF_ok rfl ⟨_, Try.func11⟩ (by kernel_rfl) rfl rfl hWW rfl VR_keep0 ?_
              intro Q x U hI hd K hK0
              have hK := hK0.out
              simp only [setAll, Act.put, List.foldl_cons, List.foldl_nil, List.setIfInBounds_toArray, List.set_cons_succ, List.set_cons_zero] at hK ⊢
              have HK := Lib.hid hK
              clear hK hK0
              obtain e : x 122 = .bool false := hd 9 (by kernel_rfl)
              rw [e] at HK ⊢
              clear e
              clear hd
              go_simp
              exact HK.out _ _ (Below.refl _ _) rfl
          case hend =>
            intro S7 x U hI hV
            obtain ⟨A8, n8, c8, e0, hy8, hn8⟩ : ∃ A2 n c2, x 18 = .slice A2 n c2 ∧ (false = true → n = ws.length ∧ Row1 U A2 ws ∧ ws.length ≤ c2 ∧ c2 ≤ 9223372036854775807) ∧ (false = false → n = 0 ∧ c2 = 0) := hV 10 (by decide)
            have H8 := Lib.hid (And.intro hy8 hn8)
            clear hy8 hn8
            obtain e2 : x 19 = .bool false := hV 11 (by decide)
            clear hV
            simp only [setAll, Act.put, List.foldl_cons, List.foldl_nil, List.setIfInBounds_toArray, List.set_cons_succ, List.set_cons_zero, List.drop_succ_cons, List.drop_zero]
            rw [e0, e2]
            clear e0 e2 Yq Zq Pa Pw Pb hWW
            have sa48 := Blk.keep0 sa47 hI
            have sb48 := Blk.keep0 sb47 hI
            have sx48 := Blk.keep0 sx47 hI
            have sz48 := Blk.keep0 sz47 hI
            have cX48 := Blk.keep0 cX47 hI
            have cY48 := Blk.keep0 cY47 hI
            have cZ48 := Blk.keep0 cZ47 hI
            have pa48 := Low.intsE (Keep.lowE hI (by have := sa47.lt; omega) (by simp)) pa47
            have pw48 := Low.intsE (Keep.lowE hI (by have := sa47.lt; omega) (by simp)) pw47
            have pb48 := Low.intsE (Keep.lowE hI (by have := sa47.lt; omega) (by simp)) pb47
            clear sa47 sb47 sx47 sz47 cX47 cY47 cZ47 pa47 pw47 pb47
            clear hI
            refine kh_region_end ?_
            obtain ⟨rfl, rfl⟩ := H8.out.2 (by trivial)
            clear H8
            refine kh_seq (kh_piece plainF_ok rfl ⟨_, Try.func11⟩ (by kernel_rfl) rfl fun v39 hv39 => ?_)
            have sa49 := hv39.blk sa48
            have sb49 := hv39.blk sb48
            have sx49 := hv39.blk sx48
            have sz49 := hv39.blk sz48
            have cX49 := hv39.blk cX48
            have cY49 := hv39.blk cY48
            have cZ49 := hv39.blk cZ48
            have pa49 := hv39.ints pa48
            have pw49 := hv39.ints pw48
            have pb49 := hv39.ints pb48
            clear sa48 sb48 sx48 sz48 cX48 cY48 cZ48 pa48 pw48 pb48
            go_wp2_with fail
            refine (eqInts_same A8 A9 [] 0 0 v39 (IntRow.nil _ _ _) (IntRow.nil _ _ _) (Nat.le_refl _) (by omega)).mono ?_
            rintro e w5 ⟨rfl, hb⟩
            go_wp2_with fail
            refine ⟨(hb.mono (by have := sa49.lt; omega)).low, ?_⟩
            have sa50 := sa49.below hb sa49.lt
            have sb50 := sb49.below hb sb49.lt
            have sx50 := sx49.below hb sx49.lt
            have sz50 := sz49.below hb sz49.lt
            have cX50 := cX49.below hb cX49.lt
            have cY50 := cY49.below hb cY49.lt
            have cZ50 := cZ49.below hb cZ49.lt
            have pa50 := Low.intsE ((hb.mono (by have := sa49.lt; omega)).low) pa49
            have pw50 := Low.intsE ((hb.mono (by have := sa49.lt; omega)).low) pw49
            have pb50 := Low.intsE ((hb.mono (by have := sa49.lt; omega)).low) pb49
            clear sa49 sb49 sx49 sz49 cX49 cY49 cZ49 pa49 pw49 pb49
            clear hb
            refine kh_seq (kh_piece plainF_ok rfl ⟨_, Try.func11⟩ (by kernel_rfl) rfl fun v40 hv40 => ?_)
            have sa51 := hv40.blk sa50
            have sb51 := hv40.blk sb50
            have sx51 := hv40.blk sx50
            have sz51 := hv40.blk sz50
            have cX51 := hv40.blk cX50
            have cY51 := hv40.blk cY50
            have cZ51 := hv40.blk cZ50
            have pa51 := hv40.ints pa50
            have pw51 := hv40.ints pw50
            have pb51 := hv40.ints pb50
            clear sa50 sb50 sx50 sz50 cX50 cY50 cZ50 pa50 pw50 pb50
            go_wp2_with fail
            refine ⟨fun _ _ => rfl, ?_⟩
            refine kh_piece plainF_ok rfl ⟨_, Try.func11⟩ (by kernel_rfl) rfl fun v41 hv41 => ?_
            have sa52 := hv41.blk sa51
            have sb52 := hv41.blk sb51
            have sx52 := hv41.blk sx51
            have sz52 := hv41.blk sz51
            have cX52 := hv41.blk cX51
            have cY52 := hv41.blk cY51
            have cZ52 := hv41.blk cZ51
            have pa52 := hv41.ints pa51
            have pw52 := hv41.ints pw51
            have pb52 := hv41.ints pb51
            clear sa51 sb51 sx51 sz51 cX51 cY51 cZ51 pa51 pw51 pb51
            go_wp2_with fail
            refine (heldInts0 (some ⟨R, 0, none⟩) 0 1 v41).mono ?_
            rintro e w8 ⟨rfl, e8⟩
            rw [e8]
            clear e8
            go_wp2_with fail
            refine ⟨fun _ _ => rfl, fun todo => ?_⟩
            exact kh_end Try.func11 rfl rfl rfl (by kernel_rfl) (x := .bool true) (fun T d => by simp [results, Try.results11, go_sem, Frame.at]) fun w hA => ⟨rfl, SinceE.of hA⟩
  have HB := Lib.hid hB
  clear hB
  have hk1 : ¬ (1 + (xa.length : Int) + (ws.length : Int) + (xb.length : Int) < 0) := by omega
  have hk0 : ¬ (1 + (ws.length : Int) < 0) := by omega
  refine kh_seq (kh_piece plainF_ok rfl ⟨_, Try.func11⟩ (by kernel_rfl) rfl fun v17 hv17 => ?_)
  have sa9 := hv17.blk sa8
  have sb9 := hv17.blk sb8
  have pa9 := hv17.ints pa8
  have pw9 := hv17.ints pw8
  have pb9 := hv17.ints pb8
  clear sa8 sb8 pa8 pw8 pb8
  go_upto_region 10 with fail
  have Yq := Lib.hid sa9
  have Zq := Lib.hid sb9
  have Pa := Lib.hid (show IntRow v17 v17.heap.size A xa from (pa9.more (by have := sa9.lt; omega)))
  have Pw := Lib.hid (show IntRow v17 v17.heap.size C ws from (pw9.more (by have := sa9.lt; omega)))
  have Pb := Lib.hid (show IntRow v17 v17.heap.size B xb from (pb9.more (by have := sa9.lt; omega)))
  refine wp_region_facts 11 [34, 35, 36, 37, 38, 39, 40, 33, 41, 42, 8] (VR va A xa capa C ws capw vb B xb capb true) (fun _ U => Below v17.heap.size v17 U) (fun w w' => Below w.heap.size w w') (by kernel_rfl) (by kernel_rfl) (by rfl) ?hI VR_keep ?hob ?hend
  case hI => exact (Below.refl _ _).drew
  case hob =>
    simp only [List.take_succ_cons, List.take_zero, Obs, and_true]
    refine ⟨?_, ?_, ?_, ?_, ?_, ?_, ?_, ?_, ?_, ?_, ?_⟩
    · intro k' x U hkn hI hd K hK0
      have hK := hK0.out
      simp only [setAll, Act.put, List.foldl_cons, List.foldl_nil, List.setIfInBounds_toArray, List.set_cons_succ, List.set_cons_zero] at hK ⊢
      have HK := Lib.hid hK
      clear hK hK0
      rw [if_pos (by rfl)]
      clear hd
      have cx0 := (Yq.out.below hI Yq.out.lt).cells 0
      have cx1 := (Yq.out.below hI Yq.out.lt).cells 1
      simp at cx0 cx1
      go_simp
      exact HK.out _ _ hI (Below.refl _ _) ⟨rfl, fun h => by cases h⟩
    · intro k' x U hkn hI hd K hK0
      have hK := hK0.out
      simp only [setAll, Act.put, List.foldl_cons, List.foldl_nil, List.setIfInBounds_toArray, List.set_cons_succ, List.set_cons_zero] at hK ⊢
      have HK := Lib.hid hK
      clear hK hK0
      rw [if_pos (by rfl)]
      obtain e : x 34 = .agg #[.int .i64 va, .slice A xa.length capa] := hd 0 _ rfl (by kernel_rfl)
      rw [e] at HK ⊢
      clear e
      clear hd
      go_simp
      refine (toSlot_any va A xa capa U (Pa.out.mem hI) la ma na).mono ?_
      rintro e w6 ⟨g6, rfl, hg6, hG, hb6⟩
      exact HK.out _ _ (Fr.step hI hb6) hb6 ⟨⟨g6, rfl, hG⟩, fun h => by cases h⟩
    · intro k' x U hkn hI hd K hK0
      have hK := hK0.out
      simp only [setAll, Act.put, List.foldl_cons, List.foldl_nil, List.setIfInBounds_toArray, List.set_cons_succ, List.set_cons_zero] at hK ⊢
      have HK := Lib.hid hK
      clear hK hK0
      rw [if_pos (by rfl)]
      clear hd
      go_simp
      exact HK.out _ _ hI (Below.refl _ _) ⟨rfl, fun h => by cases h⟩
    · intro k' x U hkn hI hd K hK0
      have hK := hK0.out
      simp only [setAll, Act.put, List.foldl_cons, List.foldl_nil, List.setIfInBounds_toArray, List.set_cons_succ, List.set_cons_zero] at hK ⊢
      have HK := Lib.hid hK
      clear hK hK0
      rw [if_pos (by rfl)]
      obtain e : x 36 = .slice C ws.length capw := hd 2 _ rfl (by kernel_rfl)
      rw [e] at HK ⊢
      clear e
      clear hd
      go_simp
      refine (toInts_any C ws capw U (Pw.out.mem hI) lw mw nw).mono ?_
      rintro e w6 ⟨g6, rfl, hg6, hG, hb6⟩
      exact HK.out _ _ (Fr.step hI hb6) hb6 ⟨⟨g6, rfl, IntRow.of_blk hG⟩, fun h => by cases h⟩
    · intro k' x U hkn hI hd K hK0
      have hK := hK0.out
      simp only [setAll, Act.put, List.foldl_cons, List.foldl_nil, List.setIfInBounds_toArray, List.set_cons_succ, List.set_cons_zero] at hK ⊢
      have HK := Lib.hid hK
      clear hK hK0
      rw [if_pos (by rfl)]
      clear hd
      have cx0 := (Zq.out.below hI Zq.out.lt).cells 0
      have cx1 := (Zq.out.below hI Zq.out.lt).cells 1
      simp at cx0 cx1
      go_simp
      exact HK.out _ _ hI (Below.refl _ _) ⟨rfl, fun h => by cases h⟩
    · intro k' x U hkn hI hd K hK0
      have hK := hK0.out
      simp only [setAll, Act.put, List.foldl_cons, List.foldl_nil, List.setIfInBounds_toArray, List.set_cons_succ, List.set_cons_zero] at hK ⊢
      have HK := Lib.hid hK
      clear hK hK0
      rw [if_pos (by rfl)]
      obtain e : x 38 = .agg #[.int .i64 vb, .slice B xb.length capb] := hd 4 _ rfl (by kernel_rfl)
      rw [e] at HK ⊢
      clear e
      clear hd
      go_simp
      refine (toSlot_any vb B xb capb U (Pb.out.mem hI) lb mb nb).mono ?_
      rintro e w6 ⟨g6, rfl, hg6, hG, hb6⟩
      exact HK.out _ _ (Fr.step hI hb6) hb6 ⟨⟨g6, rfl, hG⟩, fun h => by cases h⟩
    · intro k' x U hkn hI hd K hK0
      have hK := hK0.out
      simp only [setAll, Act.put, List.foldl_cons, List.foldl_nil, List.setIfInBounds_toArray, List.set_cons_succ, List.set_cons_zero] at hK ⊢
      have HK := Lib.hid hK
      clear hK hK0
      rw [if_pos (by rfl)]
      obtain ⟨g1, e, G1⟩ : ∃ g, x 35 = .agg #[.int .i64 va, .slice (some ⟨g, 0, none⟩) xa.length xa.length] ∧ IntRow U U.heap.size (some ⟨g, 0, none⟩) xa := hd 1 _ rfl (by kernel_rfl)
      rw [e] at HK ⊢
      clear e
      obtain ⟨g3, e, G3⟩ : ∃ g, x 37 = .slice (some ⟨g, 0, none⟩) ws.length ws.length ∧ IntRow U U.heap.size (some ⟨g, 0, none⟩) ws := hd 3 _ rfl (by kernel_rfl)
      rw [e] at HK ⊢
      clear e
      obtain ⟨g5, e, G5⟩ : ∃ g, x 39 = .agg #[.int .i64 vb, .slice (some ⟨g, 0, none⟩) xb.length xb.length] ∧ IntRow U U.heap.size (some ⟨g, 0, none⟩) xb := hd 5 _ rfl (by kernel_rfl)
      rw [e] at HK ⊢
      clear e
      clear hd
      go_simp
      refine (specRead va vb _ _ _ xa ws xb xa.length ws.length xb.length U G1 G5 G3 (Nat.le_refl _) xla (Nat.le_refl _) xlb (Nat.le_refl _) xlw).mono ?_
      rintro e w6 ⟨v', A2, c2, rfl, hb6, hy, hn⟩
      obtain ⟨rfl, a1, a2, a3⟩ := hy HB.out
      rw [HB.out]
      exact HK.out _ _ (Fr.step hI hb6) hb6 ⟨⟨A2, _, c2, rfl, fun _ => ⟨rfl, a1, a2, a3⟩, fun h => by cases h⟩, fun h => by cases h⟩
    · intro k' x U hkn hI hd K hK0
      have hK := hK0.out
      simp only [setAll, Act.put, List.foldl_cons, List.foldl_nil, List.setIfInBounds_toArray, List.set_cons_succ, List.set_cons_zero] at hK ⊢
      have HK := Lib.hid hK
      clear hK hK0
      rw [if_pos (by rfl)]
      obtain ⟨A2, n2, c2, e, hy, hn⟩ : ∃ A2 n c2, x 40 = .tuple #[.slice A2 n c2, .bool true] ∧ (true = true → n = ws.length ∧ Row1 U A2 ws ∧ ws.length ≤ c2 ∧ c2 ≤ 9223372036854775807) ∧ (true = false → n = 0 ∧ c2 = 0) := hd 6 _ rfl (by kernel_rfl)
      rw [e] at HK ⊢
      clear e
      have HY2 := Lib.hid (And.intro hy hn)
      clear hd hy hn
      go_simp
      exact HK.out _ _ hI (Below.refl _ _) ⟨⟨A2, n2, c2, rfl, HY2.out.1, HY2.out.2⟩, fun h => by cases h⟩
    · intro k' x U hkn hI hd K hK0
      have hK := hK0.out
      simp only [setAll, Act.put, List.foldl_cons, List.foldl_nil, List.setIfInBounds_toArray, List.set_cons_succ, List.set_cons_zero] at hK ⊢
      have HK := Lib.hid hK
      clear hK hK0
      rw [if_pos (by rfl)]
      obtain ⟨A2, n2, c2, e, hy, hn⟩ : ∃ A2 n c2, x 33 = .tuple #[.slice A2 n c2, .bool true] ∧ (true = true → n = ws.length ∧ Row1 U A2 ws ∧ ws.length ≤ c2 ∧ c2 ≤ 9223372036854775807) ∧ (true = false → n = 0 ∧ c2 = 0) := hd 7 _ rfl (by kernel_rfl)
      rw [e] at HK ⊢
      clear e
      have HY2 := Lib.hid (And.intro hy hn)
      clear hd hy hn
      go_simp
      exact HK.out _ _ hI (Below.refl _ _) ⟨⟨A2, n2, c2, rfl, HY2.out.1, HY2.out.2⟩, fun h => by cases h⟩
    · intro k' x U hkn hI hd K hK0
      have hK := hK0.out
      simp only [setAll, Act.put, List.foldl_cons, List.foldl_nil, List.setIfInBounds_toArray, List.set_cons_succ, List.set_cons_zero] at hK ⊢
      have HK := Lib.hid hK
      clear hK hK0
      rw [if_pos (by rfl)]
      obtain ⟨A2, n2, c2, e, hy, hn⟩ : ∃ A2 n c2, x 33 = .tuple #[.slice A2 n c2, .bool true] ∧ (true = true → n = ws.length ∧ Row1 U A2 ws ∧ ws.length ≤ c2 ∧ c2 ≤ 9223372036854775807) ∧ (true = false → n = 0 ∧ c2 = 0) := hd 7 _ rfl (by kernel_rfl)
      rw [e] at HK ⊢
      clear e
      clear hd hy hn
      go_simp
      exact HK.out _ _ hI (Below.refl _ _) ⟨rfl, fun h => by cases h⟩
    · intro k' x U hkn hI hd K hK0
      have hK := hK0.out
      simp only [setAll, Act.put, List.foldl_cons, List.foldl_nil, List.setIfInBounds_toArray, List.set_cons_succ, List.set_cons_zero] at hK ⊢
      have HK := Lib.hid hK
      clear hK hK0
      rw [if_pos (by rfl)]
      obtain ⟨A2, n2, c2, e, hy, hn⟩ : ∃ A2 n c2, x 41 = .slice A2 n c2 ∧ (true = true → n = ws.length ∧ Row1 U A2 ws ∧ ws.length ≤ c2 ∧ c2 ≤ 9223372036854775807) ∧ (true = false → n = 0 ∧ c2 = 0) := hd 8 _ rfl (by kernel_rfl)
      rw [e] at HK ⊢
      clear e
      have HY2 := Lib.hid (And.intro hy hn)
      clear hd hy hn
      go_simp
      exact HK.out _ _ hI (Below.refl _ _) ⟨⟨A2, n2, c2, rfl, HY2.out.1, HY2.out.2⟩, fun h => by cases h⟩
  case hend =>
    intro x U hI hV
    obtain ⟨A9, n9, c9, e0, hy9, hn9⟩ : ∃ A2 n c2, x 8 = .slice A2 n c2 ∧ (true = true → n = ws.length ∧ Row1 U A2 ws ∧ ws.length ≤ c2 ∧ c2 ≤ 9223372036854775807) ∧ (true = false → n = 0 ∧ c2 = 0) := hV 10 _ (by omega) rfl
    have H9 := Lib.hid (And.intro hy9 hn9)
    clear hy9 hn9
    obtain e2 : x 42 = .bool true := hV 9 _ (by omega) rfl
    clear hV
    simp only [setAll, Act.put, List.foldl_cons, List.foldl_nil, List.setIfInBounds_toArray, List.set_cons_succ, List.set_cons_zero, List.drop_succ_cons, List.drop_zero]
    rw [e0, e2]
    clear e0 e2 Yq Zq Pa Pw Pb
    have LU : Below W.heap.size _ _ := hI.mono (by have := sa9.lt; omega)
    have sa10 := sa9.below hI sa9.lt
    have sb10 := sb9.below hI sb9.lt
    have pa10 := Low.intsE ((hI.mono (by have := sa9.lt; omega)).low) pa9
    have pw10 := Low.intsE ((hI.mono (by have := sa9.lt; omega)).low) pw9
    have pb10 := Low.intsE ((hI.mono (by have := sa9.lt; omega)).low) pb9
    clear sa9 sb9 pa9 pw9 pb9
    clear hI
    go_wp2_with fail
    obtain ⟨rfl, a1, h9c⟩ := H9.out.1 (by trivial)
    obtain ⟨go, Co, rfl, cO, hCo⟩ := a1
    have cO10 := cO
    clear cO
    refine ⟨LU.low, ?_⟩
    clear LU H9
    refine kh_seq (kh_piece plainF_ok rfl ⟨_, Try.func11⟩ (by kernel_rfl) rfl fun v18 hv18 => ?_)
    have sa11 := hv18.blk sa10
    have sb11 := hv18.blk sb10
    have cO11 := hv18.blk cO10
    have pa11 := hv18.ints pa10
    have pw11 := hv18.ints pw10
    have pb11 := hv18.ints pb10
    clear sa10 sb10 cO10 pa10 pw10 pb10
    have ca0 := sa11.cells 0
    have cb0 := sa11.cells 1
    simp at ca0 cb0
    go_wp2_with fail
    refine (toSlot_blk va A xa capa v18 (pa11.more (by have := sa11.lt; omega)) la ma na).mono ?_
    rintro e w4 ⟨gx, rfl, hgx, cX, hb⟩
    clear ca0 cb0
    have zgx : Ma ≤ gx := by have := sa11.lt; omega
    have ogogx : go < gx := by have := cO11.lt; omega
    have LL : Below W.heap.size _ _ := hb.mono (by have := sa11.lt; omega)
    have sa12 := sa11.below hb sa11.lt
    have sb12 := sb11.below hb sb11.lt
    have cO12 := cO11.below hb cO11.lt
    have pa12 := Low.intsE ((hb.mono (by have := sa11.lt; omega)).low) pa11
    have pw12 := Low.intsE ((hb.mono (by have := sa11.lt; omega)).low) pw11
    have pb12 := Low.intsE ((hb.mono (by have := sa11.lt; omega)).low) pb11
    clear sa11 sb11 cO11 pa11 pw11 pb11
    have cX12 := cX
    clear cX hb hgx
    go_wp2_with fail
    refine ⟨LL.low.comp (lowAlloc (by have := sa12.lt; omega) _), ?_⟩
    clear LL
    obtain ⟨y19, hy19⟩ : ∃ y, y = w4.alloc (.cells #[.int .i64 va, .slice (some ⟨gx, 0, none⟩) xa.length xa.length] 26) := ⟨_, rfl⟩
    obtain ⟨Mx, hMx⟩ : ∃ M, M = w4.heap.size := ⟨_, rfl⟩
    rw [← hy19, ← hMx]
    have sa13 := sa12.alloc (.cells #[.int .i64 va, .slice (some ⟨gx, 0, none⟩) xa.length xa.length] 26)
    have sb13 := sb12.alloc (.cells #[.int .i64 va, .slice (some ⟨gx, 0, none⟩) xa.length xa.length] 26)
    have cO13 := cO12.alloc (.cells #[.int .i64 va, .slice (some ⟨gx, 0, none⟩) xa.length xa.length] 26)
    have cX13 := cX12.alloc (.cells #[.int .i64 va, .slice (some ⟨gx, 0, none⟩) xa.length xa.length] 26)
    have pa13 := Low.intsE (lowAlloc (by have := sa12.lt; omega) (.cells #[.int .i64 va, .slice (some ⟨gx, 0, none⟩) xa.length xa.length] 26)) pa12
    have pw13 := Low.intsE (lowAlloc (by have := sa12.lt; omega) (.cells #[.int .i64 va, .slice (some ⟨gx, 0, none⟩) xa.length xa.length] 26)) pw12
    have pb13 := Low.intsE (lowAlloc (by have := sa12.lt; omega) (.cells #[.int .i64 va, .slice (some ⟨gx, 0, none⟩) xa.length xa.length] 26)) pb12
    clear sa12 sb12 cO12 cX12 pa12 pw12 pb12
    have sx13 : Blk y19 Mx 26 #[.int .i64 va, .slice (some ⟨gx, 0, none⟩) xa.length xa.length] := by rw [hy19, hMx]; exact Blk.new _ _ _ rfl
    rw [← hy19] at sa13
    rw [← hy19] at sb13
    rw [← hy19] at cO13
    rw [← hy19] at cX13
    rw [← hy19] at pa13
    rw [← hy19] at pw13
    rw [← hy19] at pb13
    clear hy19 hMx
    refine kh_seq (kh_piece plainF_ok rfl ⟨_, Try.func11⟩ (by kernel_rfl) rfl fun v20 hv20 => ?_)
    have sa14 := hv20.blk sa13
    have sb14 := hv20.blk sb13
    have sx14 := hv20.blk sx13
    have cO14 := hv20.blk cO13
    have cX14 := hv20.blk cX13
    have pa14 := hv20.ints pa13
    have pw14 := hv20.ints pw13
    have pb14 := hv20.ints pb13
    clear sa13 sb13 sx13 cO13 cX13 pa13 pw13 pb13
    go_wp2_with fail
    refine (toInts_any C ws capw v20 (pw14.more (by have := sa14.lt; omega)) lw mw nw).mono ?_
    rintro e w4 ⟨gy, rfl, hgx, cY, hb⟩
    have zgy : Ma ≤ gy := by have := sa14.lt; omega
    have ogogy : go < gy := by have := cO14.lt; omega
    have ogxgy : gx < gy := by have := cX14.lt; omega
    have LL : Below W.heap.size _ _ := hb.mono (by have := sa14.lt; omega)
    have sa15 := sa14.below hb sa14.lt
    have sb15 := sb14.below hb sb14.lt
    have sx15 := sx14.below hb sx14.lt
    have cO15 := cO14.below hb cO14.lt
    have cX15 := cX14.below hb cX14.lt
    have pa15 := Low.intsE ((hb.mono (by have := sa14.lt; omega)).low) pa14
    have pw15 := Low.intsE ((hb.mono (by have := sa14.lt; omega)).low) pw14
    have pb15 := Low.intsE ((hb.mono (by have := sa14.lt; omega)).low) pb14
    clear sa14 sb14 sx14 cO14 cX14 pa14 pw14 pb14
    have cY15 := cY
    clear cY hb hgx
    go_wp2_with fail
    refine ⟨LL.low, ?_⟩
    clear LL
    refine kh_seq (kh_piece plainF_ok rfl ⟨_, Try.func11⟩ (by kernel_rfl) rfl fun v21 hv21 => ?_)
    have sa16 := hv21.blk sa15
    have sb16 := hv21.blk sb15
    have sx16 := hv21.blk sx15
    have cO16 := hv21.blk cO15
    have cX16 := hv21.blk cX15
    have cY16 := hv21.blk cY15
    have pa16 := hv21.ints pa15
    have pw16 := hv21.ints pw15
    have pb16 := hv21.ints pb15
    clear sa15 sb15 sx15 cO15 cX15 cY15 pa15 pw15 pb15
    have ca0 := sb16.cells 0
    have cb0 := sb16.cells 1
    simp at ca0 cb0
    go_wp2_with fail
    refine (toSlot_blk vb B xb capb v21 (pb16.more (by have := sa16.lt; omega)) lb mb nb).mono ?_
    rintro e w4 ⟨gz, rfl, hgx, cZ, hb⟩
    clear ca0 cb0
    have zgz : Ma ≤ gz := by have := sa16.lt; omega
    have ogogz : go < gz := by have := cO16.lt; omega
    have ogxgz : gx < gz := by have := cX16.lt; omega
    have ogygz : gy < gz := by have := cY16.lt; omega
    have LL : Below W.heap.size _ _ := hb.mono (by have := sa16.lt; omega)
    have sa17 := sa16.below hb sa16.lt
    have sb17 := sb16.below hb sb16.lt
    have sx17 := sx16.below hb sx16.lt
    have cO17 := cO16.below hb cO16.lt
    have cX17 := cX16.below hb cX16.lt
    have cY17 := cY16.below hb cY16.lt
    have pa17 := Low.intsE ((hb.mono (by have := sa16.lt; omega)).low) pa16
    have pw17 := Low.intsE ((hb.mono (by have := sa16.lt; omega)).low) pw16
    have pb17 := Low.intsE ((hb.mono (by have := sa16.lt; omega)).low) pb16
    clear sa16 sb16 sx16 cO16 cX16 cY16 pa16 pw16 pb16
    have cZ17 := cZ
    clear cZ hb hgx
    go_wp2_with fail
    refine ⟨LL.low.comp (lowAlloc (by have := sa17.lt; omega) _), ?_⟩
    clear LL
    obtain ⟨y22, hy22⟩ : ∃ y, y = w4.alloc (.cells #[.int .i64 vb, .slice (some ⟨gz, 0, none⟩) xb.length xb.length] 26) := ⟨_, rfl⟩
    obtain ⟨Mz, hMz⟩ : ∃ M, M = w4.heap.size := ⟨_, rfl⟩
    rw [← hy22, ← hMz]
    have sa18 := sa17.alloc (.cells #[.int .i64 vb, .slice (some ⟨gz, 0, none⟩) xb.length xb.length] 26)
    have sb18 := sb17.alloc (.cells #[.int .i64 vb, .slice (some ⟨gz, 0, none⟩) xb.length xb.length] 26)
    have sx18 := sx17.alloc (.cells #[.int .i64 vb, .slice (some ⟨gz, 0, none⟩) xb.length xb.length] 26)
    have cO18 := cO17.alloc (.cells #[.int .i64 vb, .slice (some ⟨gz, 0, none⟩) xb.length xb.length] 26)
    have cX18 := cX17.alloc (.cells #[.int .i64 vb, .slice (some ⟨gz, 0, none⟩) xb.length xb.length] 26)
    have cY18 := cY17.alloc (.cells #[.int .i64 vb, .slice (some ⟨gz, 0, none⟩) xb.length xb.length] 26)
    have cZ18 := cZ17.alloc (.cells #[.int .i64 vb, .slice (some ⟨gz, 0, none⟩) xb.length xb.length] 26)
    have pa18 := Low.intsE (lowAlloc (by have := sa17.lt; omega) (.cells #[.int .i64 vb, .slice (some ⟨gz, 0, none⟩) xb.length xb.length] 26)) pa17
    have pw18 := Low.intsE (lowAlloc (by have := sa17.lt; omega) (.cells #[.int .i64 vb, .slice (some ⟨gz, 0, none⟩) xb.length xb.length] 26)) pw17
    have pb18 := Low.intsE (lowAlloc (by have := sa17.lt; omega) (.cells #[.int .i64 vb, .slice (some ⟨gz, 0, none⟩) xb.length xb.length] 26)) pb17
    clear sa17 sb17 sx17 cO17 cX17 cY17 cZ17 pa17 pw17 pb17
    have sz18 : Blk y22 Mz 26 #[.int .i64 vb, .slice (some ⟨gz, 0, none⟩) xb.length xb.length] := by rw [hy22, hMz]; exact Blk.new _ _ _ rfl
    rw [← hy22] at sa18
    rw [← hy22] at sb18
    rw [← hy22] at sx18
    rw [← hy22] at cO18
    rw [← hy22] at cX18
    rw [← hy22] at cY18
    rw [← hy22] at cZ18
    rw [← hy22] at pa18
    rw [← hy22] at pw18
    rw [← hy22] at pb18
    clear hy22 hMz
    refine kh_seq (kh_region ?_)
    refine kh_list plainF_ok rfl ⟨_, Try.func11⟩ 0 3 (rest := [3, 4, 5, 6, 7, 8]) rfl (by decide) (by kernel_rfl) rfl fun v23a hv23a => ?_
    simp only [List.drop_succ_cons, List.drop_zero, List.take_succ_cons, List.take_zero]
    have sa19 := hv23a.blk sa18
    have sb19 := hv23a.blk sb18
    have sx19 := hv23a.blk sx18
    have sz19 := hv23a.blk sz18
    have cO19 := hv23a.blk cO18
    have cX19 := hv23a.blk cX18
    have cY19 := hv23a.blk cY18
    have cZ19 := hv23a.blk cZ18
    have pa19 := hv23a.ints pa18
    have pw19 := hv23a.ints pw18
    have pb19 := hv23a.ints pb18
    clear sa18 sb18 sx18 sz18 cO18 cX18 cY18 cZ18 pa18 pw18 pb18
    clear hv23a
    have ca0 := sx19.cells 0
    have cb0 := sx19.cells 1
    have ca1 := sz19.cells 0
    have cb1 := sz19.cells 1
    simp at ca0 cb0 ca1 cb1
    go_wp2_with fail
    clear ca0 cb0 ca1 cb1
    refine ⟨fun _ _ => rfl, ?_⟩
    refine kh_call (c := Try.f30.body.getD .skip) rfl rfl (by simp [base]) rfl Try.func30 (by kernel_rfl) rfl ?_
    simp only [Try.ntmps30, List.size_toArray, List.length_cons, List.length_nil, Nat.reduceAdd, Nat.reduceSub, Array.replicate_succ, Array.replicate_zero, List.push_toArray, List.append_toArray, List.nil_append, List.cons_append, List.map_toArray, List.map_cons, List.map_nil, Array.size_map]
    walk_nrm
    have zz := sa19.lt
    refine kh_read (W0 := W) (Post := YesE W) (va := va) (vb := vb) (A := some ⟨gx, 0, none⟩) (B := some ⟨gz, 0, none⟩) (C := some ⟨gy, 0, none⟩) (xa := xa) (ws := ws) (xb := xb) (capa := xa.length) (capw := ws.length) (capb := xb.length) (IntRow.of_blk cX19) (IntRow.of_blk cZ19) (IntRow.of_blk cY19) (Nat.le_refl _) xla (Nat.le_refl _) xlb (Nat.le_refl _) xlw (by omega) (fun S23 u23b x23 hR => ?_)
    rw [Frame.finish_at]
    walk_nrm
    clear zz
    obtain ⟨R, hR1, rfl, hrow⟩ := hR.yes HB.out
    have ogoR : go < R := by have := cO19.lt; omega
    have ogxR : gx < R := by have := cX19.lt; omega
    have ogyR : gy < R := by have := cY19.lt; omega
    have ogzR : gz < R := by have := cZ19.lt; omega
    have oaR : Ma < R := by have := sa19.lt; omega
    clear hR1
    have sa20 := hR.low.blkE sa19 sa19.lt
    have sb20 := hR.low.blkE sb19 sb19.lt
    have sx20 := hR.low.blkE sx19 sx19.lt
    have sz20 := hR.low.blkE sz19 sz19.lt
    have cO20 := hR.low.blkE cO19 cO19.lt
    have cX20 := hR.low.blkE cX19 cX19.lt
    have cY20 := hR.low.blkE cY19 cY19.lt
    have cZ20 := hR.low.blkE cZ19 cZ19.lt
    have pa20 := Low.intsE (hR.low.less (by have := sa19.lt; omega)) pa19
    have pw20 := Low.intsE (hR.low.less (by have := sa19.lt; omega)) pw19
    have pb20 := Low.intsE (hR.low.less (by have := sa19.lt; omega)) pb19
    clear sa19 sb19 sx19 sz19 cO19 cX19 cY19 cZ19 pa19 pw19 pb19
    have cR20 : Blk u23b R 3 (ws.map iv).toArray := hrow
    clear hrow
    clear hR
    refine kh_list plainF_ok rfl ⟨_, Try.func11⟩ 4 5 (rest := []) rfl (by decide) (by kernel_rfl) rfl fun v23c hv23c => ?_
    simp only [List.drop_succ_cons, List.drop_zero, List.take_succ_cons, List.take_zero]
    have sa21 := hv23c.blk sa20
    have sb21 := hv23c.blk sb20
    have sx21 := hv23c.blk sx20
    have sz21 := hv23c.blk sz20
    have cO21 := hv23c.blk cO20
    have cX21 := hv23c.blk cX20
    have cY21 := hv23c.blk cY20
    have cZ21 := hv23c.blk cZ20
    have cR21 := hv23c.blk cR20
    have pa21 := hv23c.ints pa20
    have pw21 := hv23c.ints pw20
    have pb21 := hv23c.ints pb20
    clear sa20 sb20 sx20 sz20 cO20 cX20 cY20 cZ20 cR20 pa20 pw20 pb20
    clear hv23c
    go_wp2_with fail
    refine ⟨fun _ _ => rfl, kh_region_end ?_⟩
    refine kh_seq (kh_piece plainF_ok rfl ⟨_, Try.func11⟩ (by kernel_rfl) rfl fun v24 hv24 => ?_)
    have sa22 := hv24.blk sa21
    have sb22 := hv24.blk sb21
    have sx22 := hv24.blk sx21
    have sz22 := hv24.blk sz21
    have cO22 := hv24.blk cO21
    have cX22 := hv24.blk cX21
    have cY22 := hv24.blk cY21
    have cZ22 := hv24.blk cZ21
    have cR22 := hv24.blk cR21
    have pa22 := hv24.ints pa21
    have pw22 := hv24.ints pw21
    have pb22 := hv24.ints pb21
    clear sa21 sb21 sx21 sz21 cO21 cX21 cY21 cZ21 cR21 pa21 pw21 pb21
    go_wp2_with fail
    refine (eqInts_same (some ⟨R, 0, none⟩) (some ⟨go, 0, none⟩) ws ws.length c9 v24 (IntRow.of_blk cR22) (Row1.row ⟨go, Co, rfl, cO22, hCo⟩) (Nat.le_refl _) xlw).mono ?_
    rintro e w5 ⟨rfl, hb⟩
    go_wp2_with fail
    refine ⟨(hb.mono (by have := sa22.lt; omega)).low, ?_⟩
    have sa23 := sa22.below hb sa22.lt
    have sb23 := sb22.below hb sb22.lt
    have sx23 := sx22.below hb sx22.lt
    have sz23 := sz22.below hb sz22.lt
    have cO23 := cO22.below hb cO22.lt
    have cX23 := cX22.below hb cX22.lt
    have cY23 := cY22.below hb cY22.lt
    have cZ23 := cZ22.below hb cZ22.lt
    have cR23 := cR22.below hb cR22.lt
    have pa23 := Low.intsE ((hb.mono (by have := sa22.lt; omega)).low) pa22
    have pw23 := Low.intsE ((hb.mono (by have := sa22.lt; omega)).low) pw22
    have pb23 := Low.intsE ((hb.mono (by have := sa22.lt; omega)).low) pb22
    clear sa22 sb22 sx22 sz22 cO22 cX22 cY22 cZ22 cR22 pa22 pw22 pb22
    clear hb
    refine kh_seq (kh_piece plainF_ok rfl ⟨_, Try.func11⟩ (by kernel_rfl) rfl fun v25 hv25 => ?_)
    have sa24 := hv25.blk sa23
    have sb24 := hv25.blk sb23
    have sx24 := hv25.blk sx23
    have sz24 := hv25.blk sz23
    have cO24 := hv25.blk cO23
    have cX24 := hv25.blk cX23
    have cY24 := hv25.blk cY23
    have cZ24 := hv25.blk cZ23
    have cR24 := hv25.blk cR23
    have pa24 := hv25.ints pa23
    have pw24 := hv25.ints pw23
    have pb24 := hv25.ints pb23
    clear sa23 sb23 sx23 sz23 cO23 cX23 cY23 cZ23 cR23 pa23 pw23 pb23
    have ca0 := sx24.cells 0
    have cb0 := sx24.cells 1
    have ca1 := sa24.cells 0
    have cb1 := sa24.cells 1
    simp at ca0 cb0 ca1 cb1
    clear ca0 cb0 ca1 cb1
    go_upto_region 17 with fail
    have Xq := Lib.hid sx24
    have Yq := Lib.hid sa24
    have Pq := Lib.hid (show IntRow v25 v25.heap.size A xa from (pa24.more (by have := sa24.lt; omega)))
    refine wp_region_facts 3 [65, 66, 67] (VSl va xa A capa gx) (fun _ U => Below v25.heap.size v25 U) (fun w w' => Below w.heap.size w w') (by kernel_rfl) (by kernel_rfl) (by rfl) ?hI VSl_keep ?hob ?hend
    case hI => exact (Below.refl _ _).drew
    case hob =>
      simp only [List.take_succ_cons, List.take_zero, Obs, and_true]
      refine ⟨?_, ?_, ?_⟩
      · intro k' x U hkn hI hd K hK0
        have hK := hK0.out
        simp only [setAll, Act.put, List.foldl_cons, List.foldl_nil, List.setIfInBounds_toArray, List.set_cons_succ, List.set_cons_zero] at hK ⊢
        have HK := Lib.hid hK
        clear hK hK0
        rw [if_pos (by rfl)]
        clear hd
        have cx0 := (Xq.out.below hI Xq.out.lt).cells 0
        have cx1 := (Xq.out.below hI Xq.out.lt).cells 1
        simp at cx0 cx1
        go_simp
        exact HK.out _ _ hI (Below.refl _ _) ⟨rfl, fun h => by cases h⟩
      · intro k' x U hkn hI hd K hK0
        have hK := hK0.out
        simp only [setAll, Act.put, List.foldl_cons, List.foldl_nil, List.setIfInBounds_toArray, List.set_cons_succ, List.set_cons_zero] at hK ⊢
        have HK := Lib.hid hK
        clear hK hK0
        rw [if_pos (by rfl)]
        clear hd
        have cx0 := (Yq.out.below hI Yq.out.lt).cells 0
        have cx1 := (Yq.out.below hI Yq.out.lt).cells 1
        simp at cx0 cx1
        go_simp
        exact HK.out _ _ hI (Below.refl _ _) ⟨rfl, fun h => by cases h⟩
      · intro k' x U hkn hI hd K hK0
        have hK := hK0.out
        simp only [setAll, Act.put, List.foldl_cons, List.foldl_nil, List.setIfInBounds_toArray, List.set_cons_succ, List.set_cons_zero] at hK ⊢
        have HK := Lib.hid hK
        clear hK hK0
        rw [if_pos (by rfl)]
        obtain e23 : x 66 = .agg #[.int .i64 va, .slice A xa.length capa] := hd 1 _ rfl (by kernel_rfl)
        rw [e23] at HK ⊢
        clear e23
        clear hd
        go_simp
        refine (toSlot_any va A xa capa U (Pq.out.mem hI) la ma na).mono ?_
        rintro e w6 ⟨g6, rfl, hg6, hG, hb6⟩
        exact HK.out _ _ (Fr.step hI hb6) hb6 ⟨⟨g6, rfl, hG⟩, fun h => by cases h⟩
    case hend =>
      intro x U hI hV
      obtain e0 : x 65 = .agg #[.int .i64 va, .slice (some ⟨gx, 0, none⟩) xa.length xa.length] := hV 0 _ (by omega) rfl
      obtain ⟨g9, e2, hg9⟩ : ∃ g9, x 67 = .agg #[.int .i64 va, .slice (some ⟨g9, 0, none⟩) xa.length xa.length] ∧ IntRow U U.heap.size (some ⟨g9, 0, none⟩) xa := hV 2 _ (by omega) rfl
      clear hV
      simp only [setAll, Act.put, List.foldl_cons, List.foldl_nil, List.setIfInBounds_toArray, List.set_cons_succ, List.set_cons_zero, List.drop_succ_cons, List.drop_zero]
      rw [e0, e2]
      clear e0 e2 Xq Yq Pq
      have LU : Below W.heap.size _ _ := hI.mono (by have := sa24.lt; omega)
      have sa25 := sa24.below hI sa24.lt
      have sb25 := sb24.below hI sb24.lt
      have sx25 := sx24.below hI sx24.lt
      have sz25 := sz24.below hI sz24.lt
      have cO25 := cO24.below hI cO24.lt
      have cX25 := cX24.below hI cX24.lt
      have cY25 := cY24.below hI cY24.lt
      have cZ25 := cZ24.below hI cZ24.lt
      have cR25 := cR24.below hI cR24.lt
      have pa25 := Low.intsE ((hI.mono (by have := sa24.lt; omega)).low) pa24
      have pw25 := Low.intsE ((hI.mono (by have := sa24.lt; omega)).low) pw24
      have pb25 := Low.intsE ((hI.mono (by have := sa24.lt; omega)).low) pb24
      clear sa24 sb24 sx24 sz24 cO24 cX24 cY24 cZ24 cR24 pa24 pw24 pb24
      clear hI
      go_wp2_with fail
      refine (eqSlot_same va _ _ xa _ _ U (IntRow.of_blk cX25) hg9 (Nat.le_refl _) xla).mono ?_
      rintro e w7 ⟨rfl, hb⟩
      go_wp2_with fail
      refine ⟨(LU.trans (hb.mono (by have := sa25.lt; omega))).low, ?_⟩
      have sa26 := sa25.below hb sa25.lt
      have sb26 := sb25.below hb sb25.lt
      have sx26 := sx25.below hb sx25.lt
      have sz26 := sz25.below hb sz25.lt
      have cO26 := cO25.below hb cO25.lt
      have cX26 := cX25.below hb cX25.lt
      have cY26 := cY25.below hb cY25.lt
      have cZ26 := cZ25.below hb cZ25.lt
      have cR26 := cR25.below hb cR25.lt
      have pa26 := Low.intsE ((hb.mono (by have := sa25.lt; omega)).low) pa25
      have pw26 := Low.intsE ((hb.mono (by have := sa25.lt; omega)).low) pw25
      have pb26 := Low.intsE ((hb.mono (by have := sa25.lt; omega)).low) pb25
      clear sa25 sb25 sx25 sz25 cO25 cX25 cY25 cZ25 cR25 pa25 pw25 pb25
      clear hb LU hg9
      refine kh_seq (kh_piece plainF_ok rfl ⟨_, Try.func11⟩ (by kernel_rfl) rfl fun v26 hv26 => ?_)
      have sa27 := hv26.blk sa26
      have sb27 := hv26.blk sb26
      have sx27 := hv26.blk sx26
      have sz27 := hv26.blk sz26
      have cO27 := hv26.blk cO26
      have cX27 := hv26.blk cX26
      have cY27 := hv26.blk cY26
      have cZ27 := hv26.blk cZ26
      have cR27 := hv26.blk cR26
      have pa27 := hv26.ints pa26
      have pw27 := hv26.ints pw26
      have pb27 := hv26.ints pb26
      clear sa26 sb26 sx26 sz26 cO26 cX26 cY26 cZ26 cR26 pa26 pw26 pb26
      go_wp2_with fail
      refine (toInts_any C ws capw v26 (pw27.more (by have := sa27.lt; omega)) lw mw nw).mono ?_
      rintro e w4 ⟨g8, rfl, hg8, c8, hb⟩
      have LU : Below W.heap.size _ _ := hb.mono (by have := sa27.lt; omega)
      have sa28 := sa27.below hb sa27.lt
      have sb28 := sb27.below hb sb27.lt
      have sx28 := sx27.below hb sx27.lt
      have sz28 := sz27.below hb sz27.lt
      have cO28 := cO27.below hb cO27.lt
      have cX28 := cX27.below hb cX27.lt
      have cY28 := cY27.below hb cY27.lt
      have cZ28 := cZ27.below hb cZ27.lt
      have cR28 := cR27.below hb cR27.lt
      have pa28 := Low.intsE ((hb.mono (by have := sa27.lt; omega)).low) pa27
      have pw28 := Low.intsE ((hb.mono (by have := sa27.lt; omega)).low) pw27
      have pb28 := Low.intsE ((hb.mono (by have := sa27.lt; omega)).low) pb27
      clear sa27 sb27 sx27 sz27 cO27 cX27 cY27 cZ27 cR27 pa27 pw27 pb27
      clear hb
      go_wp2_with fail
      refine (eqInts_same (some ⟨gy, 0, none⟩) (some ⟨g8, 0, none⟩) ws ws.length ws.length w4 (IntRow.of_blk cY28) (IntRow.of_blk c8) (Nat.le_refl _) xlw).mono ?_
      rintro e w7 ⟨rfl, hb⟩
      go_wp2_with fail
      refine ⟨(LU.trans (hb.mono (by have := sa28.lt; omega))).low, ?_⟩
      have sa29 := sa28.below hb sa28.lt
      have sb29 := sb28.below hb sb28.lt
      have sx29 := sx28.below hb sx28.lt
      have sz29 := sz28.below hb sz28.lt
      have cO29 := cO28.below hb cO28.lt
      have cX29 := cX28.below hb cX28.lt
      have cY29 := cY28.below hb cY28.lt
      have cZ29 := cZ28.below hb cZ28.lt
      have cR29 := cR28.below hb cR28.lt
      have pa29 := Low.intsE ((hb.mono (by have := sa28.lt; omega)).low) pa28
      have pw29 := Low.intsE ((hb.mono (by have := sa28.lt; omega)).low) pw28
      have pb29 := Low.intsE ((hb.mono (by have := sa28.lt; omega)).low) pb28
      clear sa28 sb28 sx28 sz28 cO28 cX28 cY28 cZ28 cR28 pa28 pw28 pb28
      clear hb LU hg8 c8
      refine kh_seq (kh_piece plainF_ok rfl ⟨_, Try.func11⟩ (by kernel_rfl) rfl fun v27 hv27 => ?_)
      have sa30 := hv27.blk sa29
      have sb30 := hv27.blk sb29
      have sx30 := hv27.blk sx29
      have sz30 := hv27.blk sz29
      have cO30 := hv27.blk cO29
      have cX30 := hv27.blk cX29
      have cY30 := hv27.blk cY29
      have cZ30 := hv27.blk cZ29
      have cR30 := hv27.blk cR29
      have pa30 := hv27.ints pa29
      have pw30 := hv27.ints pw29
      have pb30 := hv27.ints pb29
      clear sa29 sb29 sx29 sz29 cO29 cX29 cY29 cZ29 cR29 pa29 pw29 pb29
      have ca0 := sz30.cells 0
      have cb0 := sz30.cells 1
      have ca1 := sb30.cells 0
      have cb1 := sb30.cells 1
      simp at ca0 cb0 ca1 cb1
      clear ca0 cb0 ca1 cb1
      go_upto_region 21 with fail
      have Xq := Lib.hid sz30
      have Yq := Lib.hid sb30
      have Pq := Lib.hid (show IntRow v27 v27.heap.size B xb from (pb30.more (by have := sa30.lt; omega)))
      refine wp_region_facts 3 [75, 76, 77] (VSl vb xb B capb gz) (fun _ U => Below v27.heap.size v27 U) (fun w w' => Below w.heap.size w w') (by kernel_rfl) (by kernel_rfl) (by rfl) ?hI VSl_keep ?hob ?hend
      case hI => exact (Below.refl _ _).drew
      case hob =>
        simp only [List.take_succ_cons, List.take_zero, Obs, and_true]
        refine ⟨?_, ?_, ?_⟩
        · intro k' x U hkn hI hd K hK0
          have hK := hK0.out
          simp only [setAll, Act.put, List.foldl_cons, List.foldl_nil, List.setIfInBounds_toArray, List.set_cons_succ, List.set_cons_zero] at hK ⊢
          have HK := Lib.hid hK
          clear hK hK0
          rw [if_pos (by rfl)]
          clear hd
          have cx0 := (Xq.out.below hI Xq.out.lt).cells 0
          have cx1 := (Xq.out.below hI Xq.out.lt).cells 1
          simp at cx0 cx1
          go_simp
          exact HK.out _ _ hI (Below.refl _ _) ⟨rfl, fun h => by cases h⟩
        · intro k' x U hkn hI hd K hK0
          have hK := hK0.out
          simp only [setAll, Act.put, List.foldl_cons, List.foldl_nil, List.setIfInBounds_toArray, List.set_cons_succ, List.set_cons_zero] at hK ⊢
          have HK := Lib.hid hK
          clear hK hK0
          rw [if_pos (by rfl)]
          clear hd
          have cx0 := (Yq.out.below hI Yq.out.lt).cells 0
          have cx1 := (Yq.out.below hI Yq.out.lt).cells 1
          simp at cx0 cx1
          go_simp
          exact HK.out _ _ hI (Below.refl _ _) ⟨rfl, fun h => by cases h⟩
        · intro k' x U hkn hI hd K hK0
          have hK := hK0.out
          simp only [setAll, Act.put, List.foldl_cons, List.foldl_nil, List.setIfInBounds_toArray, List.set_cons_succ, List.set_cons_zero] at hK ⊢
          have HK := Lib.hid hK
          clear hK hK0
          rw [if_pos (by rfl)]
          obtain e23 : x 76 = .agg #[.int .i64 vb, .slice B xb.length capb] := hd 1 _ rfl (by kernel_rfl)
          rw [e23] at HK ⊢
          clear e23
          clear hd
          go_simp
          refine (toSlot_any vb B xb capb U (Pq.out.mem hI) lb mb nb).mono ?_
          rintro e w6 ⟨g6, rfl, hg6, hG, hb6⟩
          exact HK.out _ _ (Fr.step hI hb6) hb6 ⟨⟨g6, rfl, hG⟩, fun h => by cases h⟩
      case hend =>
        intro x U hI hV
        obtain e0 : x 75 = .agg #[.int .i64 vb, .slice (some ⟨gz, 0, none⟩) xb.length xb.length] := hV 0 _ (by omega) rfl
        obtain ⟨g9, e2, hg9⟩ : ∃ g9, x 77 = .agg #[.int .i64 vb, .slice (some ⟨g9, 0, none⟩) xb.length xb.length] ∧ IntRow U U.heap.size (some ⟨g9, 0, none⟩) xb := hV 2 _ (by omega) rfl
        clear hV
        simp only [setAll, Act.put, List.foldl_cons, List.foldl_nil, List.setIfInBounds_toArray, List.set_cons_succ, List.set_cons_zero, List.drop_succ_cons, List.drop_zero]
        rw [e0, e2]
        clear e0 e2 Xq Yq Pq
        have LU : Below W.heap.size _ _ := hI.mono (by have := sa30.lt; omega)
        have sa31 := sa30.below hI sa30.lt
        have sb31 := sb30.below hI sb30.lt
        have sx31 := sx30.below hI sx30.lt
        have sz31 := sz30.below hI sz30.lt
        have cO31 := cO30.below hI cO30.lt
        have cX31 := cX30.below hI cX30.lt
        have cY31 := cY30.below hI cY30.lt
        have cZ31 := cZ30.below hI cZ30.lt
        have cR31 := cR30.below hI cR30.lt
        have pa31 := Low.intsE ((hI.mono (by have := sa30.lt; omega)).low) pa30
        have pw31 := Low.intsE ((hI.mono (by have := sa30.lt; omega)).low) pw30
        have pb31 := Low.intsE ((hI.mono (by have := sa30.lt; omega)).low) pb30
        clear sa30 sb30 sx30 sz30 cO30 cX30 cY30 cZ30 cR30 pa30 pw30 pb30
        clear hI
        go_wp2_with fail
        refine (eqSlot_same vb _ _ xb _ _ U (IntRow.of_blk cZ31) hg9 (Nat.le_refl _) xlb).mono ?_
        rintro e w7 ⟨rfl, hb⟩
        go_wp2_with fail
        refine ⟨(LU.trans (hb.mono (by have := sa31.lt; omega))).low, ?_⟩
        have sa32 := sa31.below hb sa31.lt
        have sb32 := sb31.below hb sb31.lt
        have sx32 := sx31.below hb sx31.lt
        have sz32 := sz31.below hb sz31.lt
        have cO32 := cO31.below hb cO31.lt
        have cX32 := cX31.below hb cX31.lt
        have cY32 := cY31.below hb cY31.lt
        have cZ32 := cZ31.below hb cZ31.lt
        have cR32 := cR31.below hb cR31.lt
        have pa32 := Low.intsE ((hb.mono (by have := sa31.lt; omega)).low) pa31
        have pw32 := Low.intsE ((hb.mono (by have := sa31.lt; omega)).low) pw31
        have pb32 := Low.intsE ((hb.mono (by have := sa31.lt; omega)).low) pb31
        clear sa31 sb31 sx31 sz31 cO31 cX31 cY31 cZ31 cR31 pa31 pw31 pb31
        clear hb LU hg9
        refine kh_seq (kh_piece plainF_ok rfl ⟨_, Try.func11⟩ (by kernel_rfl) rfl fun v28 hv28 => ?_)
        have sa33 := hv28.blk sa32
        have sb33 := hv28.blk sb32
        have sx33 := hv28.blk sx32
        have sz33 := hv28.blk sz32
        have cO33 := hv28.blk cO32
        have cX33 := hv28.blk cX32
        have cY33 := hv28.blk cY32
        have cZ33 := hv28.blk cZ32
        have cR33 := hv28.blk cR32
        have pa33 := hv28.ints pa32
        have pw33 := hv28.ints pw32
        have pb33 := hv28.ints pb32
        clear sa32 sb32 sx32 sz32 cO32 cX32 cY32 cZ32 cR32 pa32 pw32 pb32
        go_wp2_with fail
        refine ⟨fun _ _ => rfl, ?_⟩
        refine kh_seq (kh_piece plainF_ok rfl ⟨_, Try.func11⟩ (by kernel_rfl) rfl fun v29 hv29 => ?_)
        have sa34 := hv29.blk sa33
        have sb34 := hv29.blk sb33
        have sx34 := hv29.blk sx33
        have sz34 := hv29.blk sz33
        have cO34 := hv29.blk cO33
        have cX34 := hv29.blk cX33
        have cY34 := hv29.blk cY33
        have cZ34 := hv29.blk cZ33
        have cR34 := hv29.blk cR33
        have pa34 := hv29.ints pa33
        have pw34 := hv29.ints pw33
        have pb34 := hv29.ints pb33
        clear sa33 sb33 sx33 sz33 cO33 cX33 cY33 cZ33 cR33 pa33 pw33 pb33
        have ca0 := sx34.cells 0
        have cb0 := sx34.cells 1
        simp at ca0 cb0
        go_wp2_with fail
        refine (markSlot1 va gx xa.length xa.length _ 1 v29 cX34 (by simp) (by omega) (by omega) (Nat.le_refl _) (by omega)).mono ?_
        rintro e w8 ⟨rfl, ⟨CX, hCX, hMX⟩, hK⟩
        clear ca0 cb0
        go_wp2_with fail
        refine ⟨Keep.lowE hK (by have := sa34.lt; omega) (by simp; omega), ?_⟩
        have sa35 := Blk.keepI sa34 cX34 hK (by decide)
        have sb35 := Blk.keepI sb34 cX34 hK (by decide)
        have sx35 := Blk.keepI sx34 cX34 hK (by decide)
        have sz35 := Blk.keepI sz34 cX34 hK (by decide)
        have cO35 := Blk.keepN cO34 hK (by omega)
        have cX35 := hCX
        have cY35 := Blk.keepN cY34 hK (by omega)
        have cZ35 := Blk.keepN cZ34 hK (by omega)
        have cR35 := Blk.keepN cR34 hK (by omega)
        have pa35 := Low.intsE (Keep.lowE hK (by have := sa34.lt; omega) (by simp; omega)) pa34
        have pw35 := Low.intsE (Keep.lowE hK (by have := sa34.lt; omega) (by simp; omega)) pw34
        have pb35 := Low.intsE (Keep.lowE hK (by have := sa34.lt; omega) (by simp; omega)) pb34
        clear sa34 sb34 sx34 sz34 cO34 cX34 cY34 cZ34 cR34 pa34 pw34 pb34
        clear hK hCX
        refine kh_seq (kh_piece plainF_ok rfl ⟨_, Try.func11⟩ (by kernel_rfl) rfl fun v30 hv30 => ?_)
        have sa36 := hv30.blk sa35
        have sb36 := hv30.blk sb35
        have sx36 := hv30.blk sx35
        have sz36 := hv30.blk sz35
        have cO36 := hv30.blk cO35
        have cX36 := hv30.blk cX35
        have cY36 := hv30.blk cY35
        have cZ36 := hv30.blk cZ35
        have cR36 := hv30.blk cR35
        have pa36 := hv30.ints pa35
        have pw36 := hv30.ints pw35
        have pb36 := hv30.ints pb35
        clear sa35 sb35 sx35 sz35 cO35 cX35 cY35 cZ35 cR35 pa35 pw35 pb35
        go_wp2_with fail
        refine (markInts1 gy ws.length ws.length _ (1 + (xa.length : Int)) v30 cY36 (by simp) (by omega) (by omega) (Nat.le_refl _) (by omega)).mono ?_
        rintro e w8 ⟨rfl, ⟨CY, hCY, hMY⟩, hK⟩
        go_wp2_with fail
        refine ⟨Keep.lowE hK (by have := sa36.lt; omega) (by simp; omega), ?_⟩
        have sa37 := Blk.keepI sa36 cY36 hK (by decide)
        have sb37 := Blk.keepI sb36 cY36 hK (by decide)
        have sx37 := Blk.keepI sx36 cY36 hK (by decide)
        have sz37 := Blk.keepI sz36 cY36 hK (by decide)
        have cO37 := Blk.keepN cO36 hK (by omega)
        have cX37 := Blk.keepN cX36 hK (by omega)
        have cY37 := hCY
        have cZ37 := Blk.keepN cZ36 hK (by omega)
        have cR37 := Blk.keepN cR36 hK (by omega)
        have pa37 := Low.intsE (Keep.lowE hK (by have := sa36.lt; omega) (by simp; omega)) pa36
        have pw37 := Low.intsE (Keep.lowE hK (by have := sa36.lt; omega) (by simp; omega)) pw36
        have pb37 := Low.intsE (Keep.lowE hK (by have := sa36.lt; omega) (by simp; omega)) pb36
        clear sa36 sb36 sx36 sz36 cO36 cX36 cY36 cZ36 cR36 pa36 pw36 pb36
        clear hK hCY
        refine kh_seq (kh_piece plainF_ok rfl ⟨_, Try.func11⟩ (by kernel_rfl) rfl fun v31 hv31 => ?_)
        have sa38 := hv31.blk sa37
        have sb38 := hv31.blk sb37
        have sx38 := hv31.blk sx37
        have sz38 := hv31.blk sz37
        have cO38 := hv31.blk cO37
        have cX38 := hv31.blk cX37
        have cY38 := hv31.blk cY37
        have cZ38 := hv31.blk cZ37
        have cR38 := hv31.blk cR37
        have pa38 := hv31.ints pa37
        have pw38 := hv31.ints pw37
        have pb38 := hv31.ints pb37
        clear sa37 sb37 sx37 sz37 cO37 cX37 cY37 cZ37 cR37 pa37 pw37 pb37
        have ca0 := sz38.cells 0
        have cb0 := sz38.cells 1
        simp at ca0 cb0
        go_wp2_with fail
        refine (markSlot1 vb gz xb.length xb.length _ (1 + (xa.length : Int) + (ws.length : Int)) v31 cZ38 (by simp) (by omega) (by omega) (Nat.le_refl _) (by omega)).mono ?_
        rintro e w8 ⟨rfl, ⟨CZ, hCZ, hMZ⟩, hK⟩
        clear ca0 cb0
        go_wp2_with fail
        refine ⟨Keep.lowE hK (by have := sa38.lt; omega) (by simp; omega), ?_⟩
        have sa39 := Blk.keepI sa38 cZ38 hK (by decide)
        have sb39 := Blk.keepI sb38 cZ38 hK (by decide)
        have sx39 := Blk.keepI sx38 cZ38 hK (by decide)
        have sz39 := Blk.keepI sz38 cZ38 hK (by decide)
        have cO39 := Blk.keepN cO38 hK (by omega)
        have cX39 := Blk.keepN cX38 hK (by omega)
        have cY39 := Blk.keepN cY38 hK (by omega)
        have cZ39 := hCZ
        have cR39 := Blk.keepN cR38 hK (by omega)
        have pa39 := Low.intsE (Keep.lowE hK (by have := sa38.lt; omega) (by simp; omega)) pa38
        have pw39 := Low.intsE (Keep.lowE hK (by have := sa38.lt; omega) (by simp; omega)) pw38
        have pb39 := Low.intsE (Keep.lowE hK (by have := sa38.lt; omega) (by simp; omega)) pb38
        clear sa38 sb38 sx38 sz38 cO38 cX38 cY38 cZ38 cR38 pa38 pw38 pb38
        clear hK hCZ
        refine kh_seq (kh_piece plainF_ok rfl ⟨_, Try.func11⟩ (by kernel_rfl) rfl fun v32 hv32 => ?_)
        have sa40 := hv32.blk sa39
        have sb40 := hv32.blk sb39
        have sx40 := hv32.blk sx39
        have sz40 := hv32.blk sz39
        have cO40 := hv32.blk cO39
        have cX40 := hv32.blk cX39
        have cY40 := hv32.blk cY39
        have cZ40 := hv32.blk cZ39
        have cR40 := hv32.blk cR39
        have pa40 := hv32.ints pa39
        have pw40 := hv32.ints pw39
        have pb40 := hv32.ints pb39
        clear sa39 sb39 sx39 sz39 cO39 cX39 cY39 cZ39 cR39 pa39 pw39 pb39
        go_wp2_with fail
        refine (eqInts_same (some ⟨R, 0, none⟩) (some ⟨go, 0, none⟩) ws ws.length c9 v32 (IntRow.of_blk cR40) (Row1.row ⟨go, Co, rfl, cO40, hCo⟩) (Nat.le_refl _) xlw).mono ?_
        rintro e w5 ⟨rfl, hb⟩
        go_wp2_with fail
        refine ⟨(hb.mono (by have := sa40.lt; omega)).low, ?_⟩
        have sa41 := sa40.below hb sa40.lt
        have sb41 := sb40.below hb sb40.lt
        have sx41 := sx40.below hb sx40.lt
        have sz41 := sz40.below hb sz40.lt
        have cO41 := cO40.below hb cO40.lt
        have cX41 := cX40.below hb cX40.lt
        have cY41 := cY40.below hb cY40.lt
        have cZ41 := cZ40.below hb cZ40.lt
        have cR41 := cR40.below hb cR40.lt
        have pa41 := Low.intsE ((hb.mono (by have := sa40.lt; omega)).low) pa40
        have pw41 := Low.intsE ((hb.mono (by have := sa40.lt; omega)).low) pw40
        have pb41 := Low.intsE ((hb.mono (by have := sa40.lt; omega)).low) pb40
        clear sa40 sb40 sx40 sz40 cO40 cX40 cY40 cZ40 cR40 pa40 pw40 pb40
        clear hb
        refine kh_seq (kh_piece plainF_ok rfl ⟨_, Try.func11⟩ (by kernel_rfl) rfl fun v33 hv33 => ?_)
        have sa42 := hv33.blk sa41
        have sb42 := hv33.blk sb41
        have sx42 := hv33.blk sx41
        have sz42 := hv33.blk sz41
        have cO42 := hv33.blk cO41
        have cX42 := hv33.blk cX41
        have cY42 := hv33.blk cY41
        have cZ42 := hv33.blk cZ41
        have cR42 := hv33.blk cR41
        have pa42 := hv33.ints pa41
        have pw42 := hv33.ints pw41
        have pb42 := hv33.ints pb41
        clear sa41 sb41 sx41 sz41 cO41 cX41 cY41 cZ41 cR41 pa41 pw41 pb41
        go_wp2_with fail
        refine ⟨fun _ _ => rfl, ?_⟩
        refine kh_seq (kh_piece plainF_ok rfl ⟨_, Try.func11⟩ (by kernel_rfl) rfl fun v34 hv34 => ?_)
        have sa43 := hv34.blk sa42
        have sb43 := hv34.blk sb42
        have sx43 := hv34.blk sx42
        have sz43 := hv34.blk sz42
        have cO43 := hv34.blk cO42
        have cX43 := hv34.blk cX42
        have cY43 := hv34.blk cY42
        have cZ43 := hv34.blk cZ42
        have cR43 := hv34.blk cR42
        have pa43 := hv34.ints pa42
        have pw43 := hv34.ints pw42
        have pb43 := hv34.ints pb42
        clear sa42 sb42 sx42 sz42 cO42 cX42 cY42 cZ42 cR42 pa42 pw42 pb42
        go_wp2_with fail
        refine (markInts1 R ws.length ws.length _ 1 v34 cR43 (by simp) (by omega) (by omega) (Nat.le_refl _) (by omega)).mono ?_
        rintro e w8 ⟨rfl, ⟨CR, hCR, hMR⟩, hK⟩
        go_wp2_with fail
        refine ⟨Keep.lowE hK (by have := sa43.lt; omega) (by simp; omega), ?_⟩
        have sa44 := Blk.keepI sa43 cR43 hK (by decide)
        have sb44 := Blk.keepI sb43 cR43 hK (by decide)
        have sx44 := Blk.keepI sx43 cR43 hK (by decide)
        have sz44 := Blk.keepI sz43 cR43 hK (by decide)
        have cO44 := Blk.keepN cO43 hK (by omega)
        have cX44 := Blk.keepN cX43 hK (by omega)
        have cY44 := Blk.keepN cY43 hK (by omega)
        have cZ44 := Blk.keepN cZ43 hK (by omega)
        have cR44 := hCR
        have pa44 := Low.intsE (Keep.lowE hK (by have := sa43.lt; omega) (by simp; omega)) pa43
        have pw44 := Low.intsE (Keep.lowE hK (by have := sa43.lt; omega) (by simp; omega)) pw43
        have pb44 := Low.intsE (Keep.lowE hK (by have := sa43.lt; omega) (by simp; omega)) pb43
        clear sa43 sb43 sx43 sz43 cO43 cX43 cY43 cZ43 cR43 pa43 pw43 pb43
        clear hK hCR
        refine kh_seq (kh_piece plainF_ok rfl ⟨_, Try.func11⟩ (by kernel_rfl) rfl fun v35 hv35 => ?_)
        have sa45 := hv35.blk sa44
        have sb45 := hv35.blk sb44
        have sx45 := hv35.blk sx44
        have sz45 := hv35.blk sz44
        have cO45 := hv35.blk cO44
        have cX45 := hv35.blk cX44
        have cY45 := hv35.blk cY44
        have cZ45 := hv35.blk cZ44
        have cR45 := hv35.blk cR44
        have pa45 := hv35.ints pa44
        have pw45 := hv35.ints pw44
        have pb45 := hv35.ints pb44
        clear sa44 sb44 sx44 sz44 cO44 cX44 cY44 cZ44 cR44 pa44 pw44 pb44
        go_wp2_with fail
        refine ⟨fun _ _ => rfl, ?_⟩
        refine kh_seq (kh_piece plainF_ok rfl ⟨_, Try.func11⟩ (by kernel_rfl) rfl fun v36 hv36 => ?_)
        have sa46 := hv36.blk sa45
        have sb46 := hv36.blk sb45
        have sx46 := hv36.blk sx45
        have sz46 := hv36.blk sz45
        have cO46 := hv36.blk cO45
        have cX46 := hv36.blk cX45
        have cY46 := hv36.blk cY45
        have cZ46 := hv36.blk cZ45
        have cR46 := hv36.blk cR45
        have pa46 := hv36.ints pa45
        have pw46 := hv36.ints pw45
        have pb46 := hv36.ints pb45
        clear sa45 sb45 sx45 sz45 cO45 cX45 cY45 cZ45 cR45 pa45 pw45 pb45
        go_wp2_with fail
        refine (heldInts1 R ws.length ws.length CR 1 v36 cR46 hMR (by omega) nw (Nat.le_refl _) xlw).mono ?_
        rintro e w8 ⟨rfl, e8⟩
        rw [e8]
        clear e8
        go_wp2_with fail
        refine ⟨fun _ _ => rfl, ?_⟩
        refine kh_seq (kh_piece plainF_ok rfl ⟨_, Try.func11⟩ (by kernel_rfl) rfl fun v37 hv37 => ?_)
        have sa47 := hv37.blk sa46
        have sb47 := hv37.blk sb46
        have sx47 := hv37.blk sx46
        have sz47 := hv37.blk sz46
        have cO47 := hv37.blk cO46
        have cX47 := hv37.blk cX46
        have cY47 := hv37.blk cY46
        have cZ47 := hv37.blk cZ46
        have cR47 := hv37.blk cR46
        have pa47 := hv37.ints pa46
        have pw47 := hv37.ints pw46
        have pb47 := hv37.ints pb46
        clear sa46 sb46 sx46 sz46 cO46 cX46 cY46 cZ46 cR46 pa46 pw46 pb46
        go_wp2_with fail
        refine ⟨fun _ _ => rfl, ?_⟩
        refine kh_seq (kh_piece plainF_ok rfl ⟨_, Try.func11⟩ (by kernel_rfl) rfl fun v38 hv38 => ?_)
        have sa48 := hv38.blk sa47
        have sb48 := hv38.blk sb47
        have sx48 := hv38.blk sx47
        have sz48 := hv38.blk sz47
        have cO48 := hv38.blk cO47
        have cX48 := hv38.blk cX47
        have cY48 := hv38.blk cY47
        have cZ48 := hv38.blk cZ47
        have cR48 := hv38.blk cR47
        have pa48 := hv38.ints pa47
        have pw48 := hv38.ints pw47
        have pb48 := hv38.ints pb47
        clear sa47 sb47 sx47 sz47 cO47 cX47 cY47 cZ47 cR47 pa47 pw47 pb47
        go_wp2_with fail
        refine ⟨fun _ _ => rfl, ?_⟩
        have hWW : W.heap.size ≤ v38.heap.size := (by have := sa48.lt; omega)
        have Yq := Lib.hid sa48
        have Zq := Lib.hid sb48
        have Pa := Lib.hid (show IntRow v38 v38.heap.size A xa from (pa48.more (by have := sa48.lt; omega)))
        have Pw := Lib.hid (show IntRow v38 v38.heap.size C ws from (pw48.more (by have := sa48.lt; omega)))
        have Pb := Lib.hid (show IntRow v38 v38.heap.size B xb from (pb48.more (by have := sa48.lt; omega)))
        refine kh_seq (kh_draw_facts [114, 115, 116, 117, 118, 119, 120, 113, 121, 122, 18, 19] (VR va A xa capa C ws capw vb B xb capb true) (by kernel_rfl) rfl (by decide) (by kernel_rfl) VR_keep0 ?hob ?hend)
        case hob =>
          refine ⟨?_, ?_, ?_, ?_, ?_, ?_, ?_, ?_, ?_, ?_, ?_, ?_, trivial⟩
          · refine obk_plain plainF_ok rfl ⟨_, Try.func11⟩ (by kernel_rfl) rfl rfl hWW rfl VR_keep0 ?_
            intro Q x U hI hd K hK0
            have hK := hK0.out
            simp only [setAll, Act.put, List.foldl_cons, List.foldl_nil, List.setIfInBounds_toArray, List.set_cons_succ, List.set_cons_zero] at hK ⊢
            have HK := Lib.hid hK
            clear hK hK0
            clear hd
            have cx0 := (Yq.out.keep0 hI).cells 0
            have cx1 := (Yq.out.keep0 hI).cells 1
            simp at cx0 cx1
            go_simp
            exact HK.out _ _ (Below.refl _ _) rfl
          · refine obk_plain plainF_ok rfl ⟨_, Try.func11⟩ (by kernel_rfl) rfl rfl hWW rfl VR_keep0 ?_
            intro Q x U hI hd K hK0
            have hK := hK0.out
            simp only [setAll, Act.put, List.foldl_cons, List.foldl_nil, List.setIfInBounds_toArray, List.set_cons_succ, List.set_cons_zero] at hK ⊢
            have HK := Lib.hid hK
            clear hK hK0
            obtain e : x 114 = .agg #[.int .i64 va, .slice A xa.length capa] := hd 0 (by kernel_rfl)
            rw [e] at HK ⊢
            clear e
            clear hd
            go_simp
            refine (toSlot_any va A xa capa U (Pa.out.keep0 hI) la ma na).mono ?_
            rintro e w6 ⟨g6, rfl, hg6, hG, hb6⟩
            exact HK.out _ _ hb6 ⟨g6, rfl, hG⟩
          · refine obk_plain plainF_ok rfl ⟨_, Try.func11⟩ (by kernel_rfl) rfl rfl hWW rfl VR_keep0 ?_
            intro Q x U hI hd K hK0
            have hK := hK0.out
            simp only [setAll, Act.put, List.foldl_cons, List.foldl_nil, List.setIfInBounds_toArray, List.set_cons_succ, List.set_cons_zero] at hK ⊢
            have HK := Lib.hid hK
            clear hK hK0
            clear hd
            go_simp
            exact HK.out _ _ (Below.refl _ _) rfl
          · refine obk_plain plainF_ok rfl ⟨_, Try.func11⟩ (by kernel_rfl) rfl rfl hWW rfl VR_keep0 ?_
            intro Q x U hI hd K hK0
            have hK := hK0.out
            simp only [setAll, Act.put, List.foldl_cons, List.foldl_nil, List.setIfInBounds_toArray, List.set_cons_succ, List.set_cons_zero] at hK ⊢
            have HK := Lib.hid hK
            clear hK hK0
            obtain e : x 116 = .slice C ws.length capw := hd 2 (by kernel_rfl)
            rw [e] at HK ⊢
            clear e
            clear hd
            go_simp
            refine (toInts_any C ws capw U (Pw.out.keep0 hI) lw mw nw).mono ?_
            rintro e w6 ⟨g6, rfl, hg6, hG, hb6⟩
            exact HK.out _ _ hb6 ⟨g6, rfl, IntRow.of_blk hG⟩
          · refine obk_plain plainF_ok rfl ⟨_, Try.func11⟩ (by kernel_rfl) rfl rfl hWW rfl VR_keep0 ?_
            intro Q x U hI hd K hK0
            have hK := hK0.out
            simp only [setAll, Act.put, List.foldl_cons, List.foldl_nil, List.setIfInBounds_toArray, List.set_cons_succ, List.set_cons_zero] at hK ⊢
            have HK := Lib.hid hK
            clear hK hK0
            clear hd
            have cx0 := (Zq.out.keep0 hI).cells 0
            have cx1 := (Zq.out.keep0 hI).cells 1
            simp at cx0 cx1
            go_simp
            exact HK.out _ _ (Below.refl _ _) rfl
          · refine obk_plain plainF_ok rfl ⟨_, Try.func11⟩ (by kernel_rfl) rfl rfl hWW rfl VR_keep0 ?_
            intro Q x U hI hd K hK0
            have hK := hK0.out
            simp only [setAll, Act.put, List.foldl_cons, List.foldl_nil, List.setIfInBounds_toArray, List.set_cons_succ, List.set_cons_zero] at hK ⊢
            have HK := Lib.hid hK
            clear hK hK0
            obtain e : x 118 = .agg #[.int .i64 vb, .slice B xb.length capb] := hd 4 (by kernel_rfl)
            rw [e] at HK ⊢
            clear e
            clear hd
            go_simp
            refine (toSlot_any vb B xb capb U (Pb.out.keep0 hI) lb mb nb).mono ?_
            rintro e w6 ⟨g6, rfl, hg6, hG, hb6⟩
            exact HK.out _ _ hb6 ⟨g6, rfl, hG⟩
          · intro S9 x U l9 hI hd hc0
            simp only [setAll, Act.put, List.foldl_cons, List.foldl_nil, List.setIfInBounds_toArray, List.set_cons_succ, List.set_cons_zero] at hc0 ⊢
            have HK := Lib.hid hc0
            clear hc0
            obtain ⟨g1, e, G1⟩ : ∃ g, x 115 = .agg #[.int .i64 va, .slice (some ⟨g, 0, none⟩) xa.length xa.length] ∧ IntRow U U.heap.size (some ⟨g, 0, none⟩) xa := hd 1 (by kernel_rfl)
            rw [e] at HK ⊢
            clear e
            obtain ⟨g3, e, G3⟩ : ∃ g, x 117 = .slice (some ⟨g, 0, none⟩) ws.length ws.length ∧ IntRow U U.heap.size (some ⟨g, 0, none⟩) ws := hd 3 (by kernel_rfl)
            rw [e] at HK ⊢
            clear e
            obtain ⟨g5, e, G5⟩ : ∃ g, x 119 = .agg #[.int .i64 vb, .slice (some ⟨g, 0, none⟩) xb.length xb.length] ∧ IntRow U U.heap.size (some ⟨g, 0, none⟩) xb := hd 5 (by kernel_rfl)
            rw [e] at HK ⊢
            clear e
            clear hd
            refine kh_call (c := Try.f30.body.getD .skip) rfl rfl (by simp [base]) rfl Try.func30 (by kernel_rfl) rfl ?_
            simp only [Try.ntmps30, List.size_toArray, List.length_cons, List.length_nil, Nat.reduceAdd, Nat.reduceSub, Array.replicate_succ, Array.replicate_zero, List.push_toArray, List.append_toArray, List.nil_append, List.cons_append, List.map_toArray, List.map_cons, List.map_nil, Array.size_map]
            walk_nrm
            refine kh_read (W0 := W) (Post := YesE W) (va := va) (vb := vb) (A := some ⟨g1, 0, none⟩) (B := some ⟨g5, 0, none⟩) (C := some ⟨g3, 0, none⟩) (xa := xa) (ws := ws) (xb := xb) (capa := xa.length) (capw := ws.length) (capb := xb.length) G1 G5 G3 (Nat.le_refl _) xla (Nat.le_refl _) xlb (Nat.le_refl _) xlw (Nat.le_trans hWW hI.1) (fun S8 w8 x8 hR => ?_)
            rw [Frame.finish_at]
            walk_nrm
            obtain ⟨R9, hR1, rfl, hrow⟩ := hR.yes HB.out
            exact HK.out S8 _ w8 ⟨hR.size, fun k hk _ => hR.low k hk⟩ (⟨_, _, _, rfl, fun _ => ⟨rfl, ⟨R9, _, rfl, hrow, fun j x hj => by simp [hj, iv]⟩, Nat.le_refl _, xlw⟩, fun h => by cases h⟩)
          · refine obk_plain plainF_ok rfl ⟨_, Try.func11⟩ (by kernel_rfl) rfl rfl hWW rfl VR_keep0 ?_
            intro Q x U hI hd K hK0
            have hK := hK0.out
            simp only [setAll, Act.put, List.foldl_cons, List.foldl_nil, List.setIfInBounds_toArray, List.set_cons_succ, List.set_cons_zero] at hK ⊢
            have HK := Lib.hid hK
            clear hK hK0
            obtain ⟨A2, n2, c2, e, hy, hn⟩ : ∃ A2 n c2, x 120 = .tuple #[.slice A2 n c2, .bool true] ∧ (true = true → n = ws.length ∧ Row1 U A2 ws ∧ ws.length ≤ c2 ∧ c2 ≤ 9223372036854775807) ∧ (true = false → n = 0 ∧ c2 = 0) := hd 6 (by kernel_rfl)
            rw [e] at HK ⊢
            clear e
            have HY2 := Lib.hid (And.intro hy hn)
            clear hd hy hn
            go_simp
            exact HK.out _ _ (Below.refl _ _) ⟨A2, n2, c2, rfl, HY2.out.1, HY2.out.2⟩
          · refine obk_plain plainF_ok rfl ⟨_, Try.func11⟩ (by kernel_rfl) rfl rfl hWW rfl VR_keep0 ?_
            intro Q x U hI hd K hK0
            have hK := hK0.out
            simp only [setAll, Act.put, List.foldl_cons, List.foldl_nil, List.setIfInBounds_toArray, List.set_cons_succ, List.set_cons_zero] at hK ⊢
            have HK := Lib.hid hK
            clear hK hK0
            obtain ⟨A2, n2, c2, e, hy, hn⟩ : ∃ A2 n c2, x 113 = .tuple #[.slice A2 n c2, .bool true] ∧ (true = true → n = ws.length ∧ Row1 U A2 ws ∧ ws.length ≤ c2 ∧ c2 ≤ 9223372036854775807) ∧ (true = false → n = 0 ∧ c2 = 0) := hd 7 (by kernel_rfl)
            rw [e] at HK ⊢
            clear e
            have HY2 := Lib.hid (And.intro hy hn)
            clear hd hy hn
            go_simp
            exact HK.out _ _ (Below.refl _ _) ⟨A2, n2, c2, rfl, HY2.out.1, HY2.out.2⟩
          · refine obk_plain plainF_ok rfl ⟨_, Try.func11⟩ (by kernel_rfl) rfl rfl hWW rfl VR_keep0 ?_
            intro Q x U hI hd K hK0
            have hK := hK0.out
            simp only [setAll, Act.put, List.foldl_cons, List.foldl_nil, List.setIfInBounds_toArray, List.set_cons_succ, List.set_cons_zero] at hK ⊢
            have HK := Lib.hid hK
            clear hK hK0
            obtain ⟨A2, n2, c2, e, hy, hn⟩ : ∃ A2 n c2, x 113 = .tuple #[.slice A2 n c2, .bool true] ∧ (true = true → n = ws.length ∧ Row1 U A2 ws ∧ ws.length ≤ c2 ∧ c2 ≤ 9223372036854775807) ∧ (true = false → n = 0 ∧ c2 = 0) := hd 7 (by kernel_rfl)
            rw [e] at HK ⊢
            clear e
            clear hd hy hn
            go_simp
            exact HK.out _ _ (Below.refl _ _) rfl
          · refine obk_plain plainF_ok rfl ⟨_, Try.func11⟩ (by kernel_rfl) rfl rfl hWW rfl VR_keep0 ?_
            intro Q x U hI hd K hK0
            have hK := hK0.out
            simp only [setAll, Act.put, List.foldl_cons, List.foldl_nil, List.setIfInBounds_toArray, List.set_cons_succ, List.set_cons_zero] at hK ⊢
            have HK := Lib.hid hK
            clear hK hK0
            obtain ⟨A2, n2, c2, e, hy, hn⟩ : ∃ A2 n c2, x 121 = .slice A2 n c2 ∧ (true = true → n = ws.length ∧ Row1 U A2 ws ∧ ws.length ≤ c2 ∧ c2 ≤ 9223372036854775807) ∧ (true = false → n = 0 ∧ c2 = 0) := hd 8 (by kernel_rfl)
            rw [e] at HK ⊢
            clear e
            have HY2 := Lib.hid (And.intro hy hn)
            clear hd hy hn
            go_simp
            exact HK.out _ _ (Below.refl _ _) ⟨A2, n2, c2, rfl, HY2.out.1, HY2.out.2⟩
          · refine obk_plain plainF_ok rfl ⟨_, Try.func11⟩ (by kernel_rfl) rfl rfl hWW rfl VR_keep0 ?_
            intro Q x U hI hd K hK0
            have hK := hK0.out
            simp only [setAll, Act.put, List.foldl_cons, List.foldl_nil, List.setIfInBounds_toArray, List.set_cons_succ, List.set_cons_zero] at hK ⊢
            have HK := Lib.hid hK
            clear hK hK0
            obtain e : x 122 = .bool true := hd 9 (by kernel_rfl)
            rw [e] at HK ⊢
            clear e
            clear hd
            go_simp
            exact HK.out _ _ (Below.refl _ _) rfl
        case hend =>
          intro S7 x U hI hV
          obtain ⟨A8, n8, c8, e0, hy8, hn8⟩ : ∃ A2 n c2, x 18 = .slice A2 n c2 ∧ (true = true → n = ws.length ∧ Row1 U A2 ws ∧ ws.length ≤ c2 ∧ c2 ≤ 9223372036854775807) ∧ (true = false → n = 0 ∧ c2 = 0) := hV 10 (by decide)
          have H8 := Lib.hid (And.intro hy8 hn8)
          clear hy8 hn8
          obtain e2 : x 19 = .bool true := hV 11 (by decide)
          clear hV
          simp only [setAll, Act.put, List.foldl_cons, List.foldl_nil, List.setIfInBounds_toArray, List.set_cons_succ, List.set_cons_zero, List.drop_succ_cons, List.drop_zero]
          rw [e0, e2]
          clear e0 e2 Yq Zq Pa Pw Pb hWW
          have sa49 := Blk.keep0 sa48 hI
          have sb49 := Blk.keep0 sb48 hI
          have sx49 := Blk.keep0 sx48 hI
          have sz49 := Blk.keep0 sz48 hI
          have cO49 := Blk.keep0 cO48 hI
          have cX49 := Blk.keep0 cX48 hI
          have cY49 := Blk.keep0 cY48 hI
          have cZ49 := Blk.keep0 cZ48 hI
          have cR49 := Blk.keep0 cR48 hI
          have pa49 := Low.intsE (Keep.lowE hI (by have := sa48.lt; omega) (by simp)) pa48
          have pw49 := Low.intsE (Keep.lowE hI (by have := sa48.lt; omega) (by simp)) pw48
          have pb49 := Low.intsE (Keep.lowE hI (by have := sa48.lt; omega) (by simp)) pb48
          clear sa48 sb48 sx48 sz48 cO48 cX48 cY48 cZ48 cR48 pa48 pw48 pb48
          clear hI
          refine kh_region_end ?_
          obtain ⟨rfl, a8, h8c⟩ := H8.out.1 (by trivial)
          clear H8
          refine kh_seq (kh_piece plainF_ok rfl ⟨_, Try.func11⟩ (by kernel_rfl) rfl fun v39 hv39 => ?_)
          have sa50 := hv39.blk sa49
          have sb50 := hv39.blk sb49
          have sx50 := hv39.blk sx49
          have sz50 := hv39.blk sz49
          have cO50 := hv39.blk cO49
          have cX50 := hv39.blk cX49
          have cY50 := hv39.blk cY49
          have cZ50 := hv39.blk cZ49
          have cR50 := hv39.blk cR49
          have pa50 := hv39.ints pa49
          have pw50 := hv39.ints pw49
          have pb50 := hv39.ints pb49
          clear sa49 sb49 sx49 sz49 cO49 cX49 cY49 cZ49 cR49 pa49 pw49 pb49
          go_wp2_with fail
          refine (eqInts_same A8 (some ⟨go, 0, none⟩) ws c8 c9 v39 (Row1.keep0 a8 ⟨by rw [hv39.heap]; exact Nat.le_refl _, fun _ _ _ => by rw [hv39.heap]⟩).row (Row1.row ⟨go, Co, rfl, cO50, hCo⟩) h8c.1 h8c.2).mono ?_
          rintro e w5 ⟨rfl, hb⟩
          go_wp2_with fail
          refine ⟨(hb.mono (by have := sa50.lt; omega)).low, ?_⟩
          have sa51 := sa50.below hb sa50.lt
          have sb51 := sb50.below hb sb50.lt
          have sx51 := sx50.below hb sx50.lt
          have sz51 := sz50.below hb sz50.lt
          have cO51 := cO50.below hb cO50.lt
          have cX51 := cX50.below hb cX50.lt
          have cY51 := cY50.below hb cY50.lt
          have cZ51 := cZ50.below hb cZ50.lt
          have cR51 := cR50.below hb cR50.lt
          have pa51 := Low.intsE ((hb.mono (by have := sa50.lt; omega)).low) pa50
          have pw51 := Low.intsE ((hb.mono (by have := sa50.lt; omega)).low) pw50
          have pb51 := Low.intsE ((hb.mono (by have := sa50.lt; omega)).low) pb50
          clear sa50 sb50 sx50 sz50 cO50 cX50 cY50 cZ50 cR50 pa50 pw50 pb50
          clear hb
          refine kh_seq (kh_piece plainF_ok rfl ⟨_, Try.func11⟩ (by kernel_rfl) rfl fun v40 hv40 => ?_)
          have sa52 := hv40.blk sa51
          have sb52 := hv40.blk sb51
          have sx52 := hv40.blk sx51
          have sz52 := hv40.blk sz51
          have cO52 := hv40.blk cO51
          have cX52 := hv40.blk cX51
          have cY52 := hv40.blk cY51
          have cZ52 := hv40.blk cZ51
          have cR52 := hv40.blk cR51
          have pa52 := hv40.ints pa51
          have pw52 := hv40.ints pw51
          have pb52 := hv40.ints pb51
          clear sa51 sb51 sx51 sz51 cO51 cX51 cY51 cZ51 cR51 pa51 pw51 pb51
          go_wp2_with fail
          refine ⟨fun _ _ => rfl, ?_⟩
          refine kh_piece plainF_ok rfl ⟨_, Try.func11⟩ (by kernel_rfl) rfl fun v41 hv41 => ?_
          have sa53 := hv41.blk sa52
          have sb53 := hv41.blk sb52
          have sx53 := hv41.blk sx52
          have sz53 := hv41.blk sz52
          have cO53 := hv41.blk cO52
          have cX53 := hv41.blk cX52
          have cY53 := hv41.blk cY52
          have cZ53 := hv41.blk cZ52
          have cR53 := hv41.blk cR52
          have pa53 := hv41.ints pa52
          have pw53 := hv41.ints pw52
          have pb53 := hv41.ints pb52
          clear sa52 sb52 sx52 sz52 cO52 cX52 cY52 cZ52 cR52 pa52 pw52 pb52
          go_wp2_with fail
          refine (heldInts1 R ws.length ws.length CR 1 v41 cR53 hMR (by omega) nw (Nat.le_refl _) xlw).mono ?_
          rintro e w8 ⟨rfl, e8⟩
          rw [e8]
          clear e8
          go_wp2_with fail
          refine ⟨fun _ _ => rfl, fun todo => ?_⟩
          exact kh_end Try.func11 rfl rfl rfl (by kernel_rfl) (x := .bool true) (fun T d => by simp [results, Try.results11, go_sem, Frame.at]) fun w hA => ⟨rfl, SinceE.of hA⟩
end Go.Proofs.Ytlcjepgmmbdkmaa
