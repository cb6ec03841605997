/-
  A ring's cells by number: newRingBuffer.
-/
import Derived.Test.YtlnhnljckceeaaaRing2
import Derived.Test.YtlnhnljckceeaaaFacts
import Derived.Laws.Rows
namespace Go.Proofs.Ytlnhnljckceeaaa
open Go.RowKit
set_option linter.unusedSimpArgs false
set_option linter.unusedVariables false

theorem Blk.setRow {w : World} {b T : Nat} {cs : Array Value} (h : Blk w b T cs) (cs' : Array Value) : Blk (w.setRow b cs') b T cs' := setRow_heap w b cs cs' T (0, 0) h
theorem Blk.setRow_far {w : World} {b T g : Nat} {cs : Array Value} (h : Blk w b T cs) (hn : g ≠ b) (cs' : Array Value) : Blk (w.setRow g cs') b T cs := by
  unfold Blk at h ⊢
  simp [World.setRow, Array.getElem?_modify, h, hn]
theorem Fr.setRow {B g : Nat} {a w : World} (h : Below B a w) (hg : B ≤ g) (cs : Array Value) : Below B a (w.setRow g cs) :=
  h.trans ⟨rfl, rfl, rfl, by simp [World.setRow], fun k hk => by
    simp only [World.setRow, Array.getElem?_modify]
    rw [if_neg (by omega)]⟩

/-- The place of a number. -/
def plc (n room : Int) : Nat := (n.tmod room).toNat
theorem plc_lt {n room : Int} (hn : 0 ≤ n) (hr : 1 ≤ room) : (plc n room : Int) < room ∧ (plc n room : Int) = n.tmod room := by
  unfold plc
  have h1 := Int.tmod_nonneg room hn
  have h2 := Int.tmod_lt_of_pos n (show 0 < room by omega)
  omega
theorem plc_ne {O room : Int} {i k : Nat} (hO : 0 ≤ O) (hr : 1 ≤ room) (hik : i < k) (hk : (k : Int) - i < room) : plc (O + i) room ≠ plc (O + k) room := by
  intro e
  have h1 := plc_lt (n := O + i) (room := room) (by omega) hr
  have h2 := plc_lt (n := O + k) (room := room) (by omega) hr
  rw [e] at h1
  have e' : (O + (i : Int)).tmod room = (O + (k : Int)).tmod room := by omega
  rw [Int.tmod_eq_emod_of_nonneg (by omega), Int.tmod_eq_emod_of_nonneg (by omega)] at e'
  have := Int.emod_emod_of_dvd (O + (k : Int)) (Int.dvd_refl room)
  have hd : (O + (k : Int) - (O + (i : Int))) % room = 0 := by
    rw [Int.sub_emod, e']; simp
  rw [show O + (k : Int) - (O + (i : Int)) = (k : Int) - i by omega, Int.emod_eq_of_lt (by omega) hk] at hd
  omega

/-- The first so many packets lie at their numbers' places. -/
structure BufTo (room O count : Int) (ps : List Pk) (k : Nat) (cs : Array Value) : Prop where
  size : cs.size = 51
  one : cs.all (·.oneCell') = true
  room_ : cs[48]? = some (.int .i64 room)
  old : cs[49]? = some (.int .i64 O)
  cnt : cs[50]? = some (.int .i64 count)
  pk : ∀ (i : Nat) (p : Pk), i < k → ps[i]? = some p → ∀ f, f < 6 → cs[plc (O + i) room * 6 + f]? = (pkc p)[f]?
def six (cs : Array Value) (q : Nat) (p : Pk) : Array Value :=
  (((((cs.setIfInBounds (q * 6) (.int .i64 p.wd)).setIfInBounds (q * 6 + 1) (.int .i64 p.tm)).setIfInBounds (q * 6 + 2) (.int .i64 p.ly)).setIfInBounds (q * 6 + 3) (.int .i64 p.sz)).setIfInBounds (q * 6 + 4) (.bool p.k)).setIfInBounds (q * 6 + 5) (.bool p.l)
theorem six_far {cs : Array Value} {q j : Nat} {p : Pk} (h : j < q * 6 ∨ q * 6 + 5 < j) : (six cs q p)[j]? = cs[j]? := by
  unfold six
  simp only [Array.getElem?_setIfInBounds]
  rw [if_neg (by omega), if_neg (by omega), if_neg (by omega), if_neg (by omega), if_neg (by omega), if_neg (by omega)]
theorem six_at {cs : Array Value} {q f : Nat} {p : Pk} (hs : q * 6 + 5 < cs.size) (hf : f < 6) : (six cs q p)[q * 6 + f]? = (pkc p)[f]? := by
  unfold six pkc
  simp only [Array.getElem?_setIfInBounds, Array.size_setIfInBounds]
  match f, hf with
  | 0, _ => rw [if_neg (by omega), if_neg (by omega), if_neg (by omega), if_neg (by omega), if_neg (by omega), if_pos (by omega), if_pos (by omega)]; rfl
  | 1, _ => rw [if_neg (by omega), if_neg (by omega), if_neg (by omega), if_neg (by omega), if_pos (by omega), if_pos (by omega)]; rfl
  | 2, _ => rw [if_neg (by omega), if_neg (by omega), if_neg (by omega), if_pos (by omega), if_pos (by omega)]; rfl
  | 3, _ => rw [if_neg (by omega), if_neg (by omega), if_pos (by omega), if_pos (by omega)]; rfl
  | 4, _ => rw [if_neg (by omega), if_pos (by omega), if_pos (by omega)]; rfl
  | 5, _ => rw [if_pos (by omega), if_pos (by omega)]; rfl
theorem all_set {cs : Array Value} {i : Nat} {v : Value} (h : cs.all (·.oneCell') = true) (hv : v.oneCell' = true) : (cs.setIfInBounds i v).all (·.oneCell') = true := by
  rw [Array.all_eq_true_iff_forall_mem] at h ⊢
  intro x hx
  rcases Array.mem_or_eq_of_mem_setIfInBounds hx with h' | h'
  · exact h x h'
  · subst h'; exact hv
theorem BufTo.set {room O count : Int} {ps : List Pk} {k : Nat} {cs : Array Value} {p : Pk} (h : BufTo room O count ps k cs) (hO : 0 ≤ O) (hr : 1 ≤ room) (hr8 : room ≤ 8) (hk : (k : Int) < room) (hp : ps[k]? = some p) :
    BufTo room O count ps (k + 1) (six cs (plc (O + k) room) p) := by
  have hq := plc_lt (n := O + k) (room := room) (by omega) hr
  refine ⟨by simp [six, h.size], ?_, ?_, ?_, ?_, ?_⟩
  · unfold six
    exact all_set (all_set (all_set (all_set (all_set (all_set h.one rfl) rfl) rfl) rfl) rfl) rfl
  · rw [six_far (by omega)]; exact h.room_
  · rw [six_far (by omega)]; exact h.old
  · rw [six_far (by omega)]; exact h.cnt
  · intro i p' hi hp' f hf
    rcases Nat.lt_or_ge i k with hik | hik
    · have hne := plc_ne hO hr hik (by omega)
      rw [six_far (by omega)]
      exact h.pk i p' hik hp' f hf
    · obtain rfl : i = k := by omega
      obtain rfl : p' = p := Option.some.inj (hp'.symm.trans hp)
      exact six_at (by rw [h.size]; omega) hf

def bufZ : Array Value := #[.int .i64 0, .int .i64 0, .int .i64 0, .int .i64 0, .bool false, .bool false, .int .i64 0, .int .i64 0, .int .i64 0, .int .i64 0, .bool false, .bool false, .int .i64 0, .int .i64 0, .int .i64 0, .int .i64 0, .bool false, .bool false, .int .i64 0, .int .i64 0, .int .i64 0, .int .i64 0, .bool false, .bool false, .int .i64 0, .int .i64 0, .int .i64 0, .int .i64 0, .bool false, .bool false, .int .i64 0, .int .i64 0, .int .i64 0, .int .i64 0, .bool false, .bool false, .int .i64 0, .int .i64 0, .int .i64 0, .int .i64 0, .bool false, .bool false, .int .i64 0, .int .i64 0, .int .i64 0, .int .i64 0, .bool false, .bool false, .int .i64 0, .int .i64 0, .int .i64 0]
def bufC (room O count : Int) : Array Value := #[.int .i64 0, .int .i64 0, .int .i64 0, .int .i64 0, .bool false, .bool false, .int .i64 0, .int .i64 0, .int .i64 0, .int .i64 0, .bool false, .bool false, .int .i64 0, .int .i64 0, .int .i64 0, .int .i64 0, .bool false, .bool false, .int .i64 0, .int .i64 0, .int .i64 0, .int .i64 0, .bool false, .bool false, .int .i64 0, .int .i64 0, .int .i64 0, .int .i64 0, .bool false, .bool false, .int .i64 0, .int .i64 0, .int .i64 0, .int .i64 0, .bool false, .bool false, .int .i64 0, .int .i64 0, .int .i64 0, .int .i64 0, .bool false, .bool false, .int .i64 0, .int .i64 0, .int .i64 0, .int .i64 0, .bool false, .bool false, .int .i64 room, .int .i64 O, .int .i64 count]
theorem bufInfo : (Try.prog.info? 72).map (·.size) = some 51 := by kernel_rfl
theorem bufZero (O room count : Int) (ps : List Pk) : BufTo room O count ps 0 (bufC room O count) := ⟨rfl, by simp [bufC, Value.oneCell'], rfl, rfl, rfl, fun i p hi => by omega⟩

set_option maxHeartbeats 2000000 in
theorem buf_any (room count : Int) (A : Option Addr) (ps : List Pk) (cap : Nat) (w : World) (hp : PkRow w w.heap.size A ps) (hl : ps.length ≤ cap) (hm : cap ≤ 9223372036854775807) (h0 : count ≤ 999999) (h1 : (ps.length : Int) ≤ count) (h2 : 1 ≤ room ∧ room ≤ 8) (h3 : (ps.length : Int) ≤ room) :
    Calls Try.prog 41 #[.agg #[.int .i64 room, .int .i64 count, .slice A ps.length cap]] w fun e w' => (∃ cs, e = .returned (.agg cs) ∧ BufTo room (count - ps.length) count ps ps.length cs) ∧ Below w.heap.size w w' := by
  obtain ⟨O, hO⟩ : ∃ O, O = count - (ps.length : Int) := ⟨_, rfl⟩
  have hw1 : IntKind.i64.wrap (count - (ps.length : Int)) = O := by rw [hO]; exact IntWalk.i64_in _ (by omega)
  rw [← hO]
  have HO := Lib.hid (show 0 ≤ O ∧ O ≤ 999999 by omega)
  have H2 := Lib.hid h2
  have H3 := Lib.hid h3
  clear hO h2 h3 h0 h1
  have B3 : Blk (((w.alloc (.cells #[.int .i64 room, .int .i64 count, .slice A ps.length cap] 25)).alloc (.cells bufZ 72)).alloc (.cells bufZ 72)) (w.heap.size + 1 + 1) 72 bufZ := Blk.new _ _ _ (by simp)
  have R3 : Blk (((w.alloc (.cells #[.int .i64 room, .int .i64 count, .slice A ps.length cap] 25)).alloc (.cells bufZ 72)).alloc (.cells bufZ 72)) (w.heap.size + 1) 72 bufZ := (Blk.new _ _ _ (by simp)).alloc _
  have X3 : Blk (((w.alloc (.cells #[.int .i64 room, .int .i64 count, .slice A ps.length cap] 25)).alloc (.cells bufZ 72)).alloc (.cells bufZ 72)) w.heap.size 25 #[.int .i64 room, .int .i64 count, .slice A ps.length cap] := ((Blk.new _ _ _ (by simp)).alloc _).alloc _
  have L3 : Below w.heap.size w (((w.alloc (.cells #[.int .i64 room, .int .i64 count, .slice A ps.length cap] 25)).alloc (.cells bufZ 72)).alloc (.cells bufZ 72)) := Fr.alloc3 (Below.refl _ _) _ _ _
  go_enter Try.func41, Try.ntmps41
  go_upto_region 1 with fail
  iterate 37 go_step
  change wpList _ _ _ _ _ (((w.alloc (.cells #[.int .i64 room, .int .i64 count, .slice A ps.length cap] 25)).alloc (.cells bufZ 72)).alloc (.cells bufZ 72))
  refine wpList_store_row ?s1 72 (.tmp 3) (.tmp 16) ?s2 (w.heap.size + 1 + 1) (bufC room O count) ?s3 ?s4 72 _ B3 bufInfo ?s5 (bufZero O room count ps).one ?s6
  case s1 => rfl
  case s2 => rfl
  case s3 => rfl
  case s4 => rfl
  case s5 => rfl
  have B4 := B3.setRow (bufC room O count)
  have R4 := R3.setRow_far (g := w.heap.size + 1 + 1) (by omega) (bufC room O count)
  have X4 := X3.setRow_far (g := w.heap.size + 1 + 1) (by omega) (bufC room O count)
  have L4 := Fr.setRow (g := w.heap.size + 1 + 1) L3 (by omega) (bufC room O count)
  generalize ((((w.alloc (.cells #[.int .i64 room, .int .i64 count, .slice A ps.length cap] 25)).alloc (.cells bufZ 72)).alloc (.cells bufZ 72)).setRow (w.heap.size + 1 + 1) (bufC room O count)) = w4 at B4 R4 X4 L4 ⊢
  have cx := X4.cells
  clear B3 R3 X3 L3 hw1
  go_wp2_with fail
  go_loopw [20] (fun c wr => ∃ (k : Nat) (cs : Array Value), k ≤ ps.length ∧ c = .int .i64 k ∧ BufTo room O count ps k cs ∧ Blk wr (w.heap.size + 1 + 1) 72 cs ∧ Blk wr (w.heap.size + 1) 72 bufZ ∧ Below w.heap.size w wr) (fun c _ => ps.length - (intOf c).toNat)
  case atStart => exact ⟨0, _, Nat.zero_le _, rfl, bufZero O room count ps, B4, R4, L4⟩
  case round =>
    obtain ⟨k, cs, hk, rfl, hbuf, hB, hR, hbel⟩ := hrel
    clear B4 R4 X4 L4 cx
    by_cases hlt : k < ps.length
    · obtain ⟨b, off, rfl, hbB, hrow⟩ := hp (by omega)
      obtain ⟨p, hpk⟩ : ∃ p, ps[k]? = some p := ⟨ps[k], List.getElem?_eq_getElem hlt⟩
      obtain ⟨c0, c1, c2, c3, c4, c5⟩ := (hrow k p hpk).keep (w' := wr) fun j => hbel.cell (p := ⟨b, j, none⟩) hbB
      have HPK := Lib.hid hpk
      have HBF := Lib.hid hbuf
      clear hpk hbuf
      have hsz2 := hbel.size
      have hbr : b < wr.heap.size := by omega
      have i0 : (0 : Int) ≤ (k : Int) := by omega
      have i1 : (k : Int) < (ps.length : Int) := by omega
      go_upto_region 5 with fail
      have P5 := Blk.new wr 31 #[.int .i64 p.wd, .int .i64 p.tm, .int .i64 p.ly, .int .i64 p.sz, .bool p.k, .bool p.l] rfl
      have B5 := hB.alloc (.cells #[.int .i64 p.wd, .int .i64 p.tm, .int .i64 p.ly, .int .i64 p.sz, .bool p.k, .bool p.l] 31)
      have R5 := hR.alloc (.cells #[.int .i64 p.wd, .int .i64 p.tm, .int .i64 p.ly, .int .i64 p.sz, .bool p.k, .bool p.l] 31)
      have L5 := Fr.alloc hbel (.cells #[.int .i64 p.wd, .int .i64 p.tm, .int .i64 p.ly, .int .i64 p.sz, .bool p.k, .bool p.l] 31)
      have h5lt := hB.lt
      generalize wr.alloc (.cells #[.int .i64 p.wd, .int .i64 p.tm, .int .i64 p.ly, .int .i64 p.sz, .bool p.k, .bool p.l] 31) = w5 at P5 B5 R5 L5 ⊢
      clear c0 c1 c2 c3 c4 c5 hB hR hbel
      obtain ⟨q, hq⟩ : ∃ q, q = plc (O + (k : Int)) room := ⟨_, rfl⟩
      have hpl := plc_lt (n := O + (k : Int)) (room := room) (by have := HO.out; omega) H2.out.1
      rw [← hq] at hpl
      have hq6 : (q : Int) < 8 := by have := H2.out; omega
      have hrem : (O + (k : Int)).tmod room = (q : Int) := hpl.2.symm
      have hws : IntKind.i64.wrap (O + (k : Int)) = O + (k : Int) := by have := HO.out; have := H3.out; have := H2.out; exact IntWalk.i64_in _ (by omega)
      have hwq : IntKind.i64.wrap (q : Int) = (q : Int) := IntWalk.i64_in _ (by omega)
      have hr0 : (room = 0) = False := by have := H2.out; simp; omega
      have hqn : (0 : Int) ≤ (q : Int) := by omega
      have HQ := Lib.hid hq
      have cb0 : cs[49]? = some (.int .i64 O) := HBF.out.old
      have cb1 : cs[48]? = some (.int .i64 room) := HBF.out.room_
      clear hq hpl
      refine wp_region_facts 10 [25, 26, 27, 28, 29, 30, 31, 32, 33, 34] (fun i v _ => [(.pointer (some ⟨w.heap.size + 1 + 1, 49, none⟩)), (.int .i64 O), (.int .i64 (k : Int)), (.int .i64 (O + (k : Int))), (.pointer (some ⟨w.heap.size + 1 + 1, 48, none⟩)), (.int .i64 room), (.int .i64 (q : Int)), (.agg #[.int .i64 p.wd, .int .i64 p.tm, .int .i64 p.ly, .int .i64 p.sz, .bool p.k, .bool p.l]), (.pointer (some ⟨w.heap.size + 1 + 1, 0, none⟩)), (.pointer (some ⟨w.heap.size + 1 + 1, q * 6, none⟩))][i]? = some v) (fun _ W => Below w5.heap.size w5 W) (fun _ _ => True) (by kernel_rfl) (by kernel_rfl) (by rfl) ?hIb (fun _ _ _ _ _ h => h) ?hobb ?hendb
      case hIb => exact (Below.refl _ _).drew
      case hobb =>
        simp only [List.take_succ_cons, List.take_zero, Obs, and_true]
        refine ⟨?_, ?_, ?_, ?_, ?_, ?_, ?_, ?_, ?_, ?_⟩
        · intro k' x W hkn hI hd K hK0
          have hK := hK0.out
          simp only [setAll, Act.put, List.foldl_cons, List.foldl_nil, List.setIfInBounds_toArray, List.set_cons_succ, List.set_cons_zero] at hK ⊢
          have HK := Lib.hid hK
          clear hK hK0
          rw [if_pos (by rfl)]
          clear hd
          go_simp
          exact HK.out _ _ hI trivial ⟨rfl, fun h => by cases h⟩
        · intro k' x W hkn hI hd K hK0
          have hK := hK0.out
          simp only [setAll, Act.put, List.foldl_cons, List.foldl_nil, List.setIfInBounds_toArray, List.set_cons_succ, List.set_cons_zero] at hK ⊢
          have HK := Lib.hid hK
          clear hK hK0
          rw [if_pos (by rfl)]
          obtain e25 : x 25 = (.pointer (some ⟨w.heap.size + 1 + 1, 49, none⟩)) := (Option.some.inj (hd 0 _ rfl (by kernel_rfl))).symm
          rw [e25] at HK ⊢
          clear e25
          clear hd
          have cx := ((B5.below hI B5.lt).cells 49).trans cb0
          go_simp
          exact HK.out _ _ hI trivial ⟨rfl, fun h => by cases h⟩
        · intro k' x W hkn hI hd K hK0
          have hK := hK0.out
          simp only [setAll, Act.put, List.foldl_cons, List.foldl_nil, List.setIfInBounds_toArray, List.set_cons_succ, List.set_cons_zero] at hK ⊢
          have HK := Lib.hid hK
          clear hK hK0
          rw [if_pos (by rfl)]
          clear hd
          go_simp
          exact HK.out _ _ hI trivial ⟨rfl, fun h => by cases h⟩
        · intro k' x W hkn hI hd K hK0
          have hK := hK0.out
          simp only [setAll, Act.put, List.foldl_cons, List.foldl_nil, List.setIfInBounds_toArray, List.set_cons_succ, List.set_cons_zero] at hK ⊢
          have HK := Lib.hid hK
          clear hK hK0
          rw [if_pos (by rfl)]
          obtain e26 : x 26 = (.int .i64 O) := (Option.some.inj (hd 1 _ rfl (by kernel_rfl))).symm
          rw [e26] at HK ⊢
          clear e26
          obtain e27 : x 27 = (.int .i64 (k : Int)) := (Option.some.inj (hd 2 _ rfl (by kernel_rfl))).symm
          rw [e27] at HK ⊢
          clear e27
          clear hd
          go_simp
          exact HK.out _ _ hI trivial ⟨rfl, fun h => by cases h⟩
        · intro k' x W hkn hI hd K hK0
          have hK := hK0.out
          simp only [setAll, Act.put, List.foldl_cons, List.foldl_nil, List.setIfInBounds_toArray, List.set_cons_succ, List.set_cons_zero] at hK ⊢
          have HK := Lib.hid hK
          clear hK hK0
          rw [if_pos (by rfl)]
          clear hd
          go_simp
          exact HK.out _ _ hI trivial ⟨rfl, fun h => by cases h⟩
        · intro k' x W hkn hI hd K hK0
          have hK := hK0.out
          simp only [setAll, Act.put, List.foldl_cons, List.foldl_nil, List.setIfInBounds_toArray, List.set_cons_succ, List.set_cons_zero] at hK ⊢
          have HK := Lib.hid hK
          clear hK hK0
          rw [if_pos (by rfl)]
          obtain e29 : x 29 = (.pointer (some ⟨w.heap.size + 1 + 1, 48, none⟩)) := (Option.some.inj (hd 4 _ rfl (by kernel_rfl))).symm
          rw [e29] at HK ⊢
          clear e29
          clear hd
          have cx := ((B5.below hI B5.lt).cells 48).trans cb1
          go_simp
          exact HK.out _ _ hI trivial ⟨rfl, fun h => by cases h⟩
        · intro k' x W hkn hI hd K hK0
          have hK := hK0.out
          simp only [setAll, Act.put, List.foldl_cons, List.foldl_nil, List.setIfInBounds_toArray, List.set_cons_succ, List.set_cons_zero] at hK ⊢
          have HK := Lib.hid hK
          clear hK hK0
          rw [if_pos (by rfl)]
          obtain e28 : x 28 = (.int .i64 (O + (k : Int))) := (Option.some.inj (hd 3 _ rfl (by kernel_rfl))).symm
          rw [e28] at HK ⊢
          clear e28
          obtain e30 : x 30 = (.int .i64 room) := (Option.some.inj (hd 5 _ rfl (by kernel_rfl))).symm
          rw [e30] at HK ⊢
          clear e30
          clear hd
          go_simp
          exact HK.out _ _ hI trivial ⟨rfl, fun h => by cases h⟩
        · intro k' x W hkn hI hd K hK0
          have hK := hK0.out
          simp only [setAll, Act.put, List.foldl_cons, List.foldl_nil, List.setIfInBounds_toArray, List.set_cons_succ, List.set_cons_zero] at hK ⊢
          have HK := Lib.hid hK
          clear hK hK0
          rw [if_pos (by rfl)]
          clear hd
          have cx := (P5.below hI P5.lt).cells
          go_simp
          exact HK.out _ _ hI trivial ⟨rfl, fun h => by cases h⟩
        · intro k' x W hkn hI hd K hK0
          have hK := hK0.out
          simp only [setAll, Act.put, List.foldl_cons, List.foldl_nil, List.setIfInBounds_toArray, List.set_cons_succ, List.set_cons_zero] at hK ⊢
          have HK := Lib.hid hK
          clear hK hK0
          rw [if_pos (by rfl)]
          clear hd
          go_simp
          exact HK.out _ _ hI trivial ⟨rfl, fun h => by cases h⟩
        · intro k' x W hkn hI hd K hK0
          have hK := hK0.out
          simp only [setAll, Act.put, List.foldl_cons, List.foldl_nil, List.setIfInBounds_toArray, List.set_cons_succ, List.set_cons_zero] at hK ⊢
          have HK := Lib.hid hK
          clear hK hK0
          rw [if_pos (by rfl)]
          obtain e33 : x 33 = (.pointer (some ⟨w.heap.size + 1 + 1, 0, none⟩)) := (Option.some.inj (hd 8 _ rfl (by kernel_rfl))).symm
          rw [e33] at HK ⊢
          clear e33
          obtain e31 : x 31 = (.int .i64 (q : Int)) := (Option.some.inj (hd 6 _ rfl (by kernel_rfl))).symm
          rw [e31] at HK ⊢
          clear e31
          clear hd
          go_simp
          exact HK.out _ _ hI trivial ⟨rfl, fun h => by cases h⟩
      case hendb =>
        intro x W hI hV
        obtain e32 : x 32 = (.agg #[.int .i64 p.wd, .int .i64 p.tm, .int .i64 p.ly, .int .i64 p.sz, .bool p.k, .bool p.l]) := (Option.some.inj (hV 7 _ (by omega) rfl)).symm
        obtain e34 : x 34 = (.pointer (some ⟨w.heap.size + 1 + 1, q * 6, none⟩)) := (Option.some.inj (hV 9 _ (by omega) rfl)).symm
        clear hV
        simp only [setAll, Act.put, List.foldl_cons, List.foldl_nil, List.setIfInBounds_toArray, List.set_cons_succ, List.set_cons_zero, List.drop_succ_cons, List.drop_zero]
        rw [e32, e34]
        clear e32 e34
        have B6 := B5.below hI B5.lt
        have R6 := R5.below hI R5.lt
        have L6 := Fr.step L5 hI
        have fx := B6.free
        have l6 := B6.lt
        have hkk : ∀ f, f < 6 → ∃ u, W.cell? ⟨w.heap.size + 1 + 1, q * 6 + f, none⟩ = some u := fun f hf => by
          rw [B6.cells]; exact ⟨_, Array.getElem?_eq_getElem (by have := HBF.out.size; omega)⟩
        obtain ⟨u0, d0⟩ := hkk 0 (by omega); obtain ⟨u1, d1⟩ := hkk 1 (by omega); obtain ⟨u2, d2⟩ := hkk 2 (by omega); obtain ⟨u3, d3⟩ := hkk 3 (by omega); obtain ⟨u4', d4⟩ := hkk 4 (by omega); obtain ⟨u5', d5⟩ := hkk 5 (by omega)
        simp only [Nat.add_zero] at d0
        have hset := HBF.out.set HO.out.1 H2.out.1 H2.out.2 (by have := H3.out; omega) HPK.out
        rw [← HQ.out] at hset
        have HS := Lib.hid hset
        clear hset hkk P5 B5 R5 L5 hI cb0 cb1
        go_wp2_with fail
        go_roundw
        case rel => exact ⟨k + 1, _, by omega, by go_num, HS.out, (((((B6.set_ _ _).set_ _ _).set_ _ _).set_ _ _).set_ _ _).set_ _ _, (((((R6.far (by simp) _).far (by simp) _).far (by simp) _).far (by simp) _).far (by simp) _).far (by simp) _, by
          repeat' (first | (with_reducible exact L6) | (with_reducible refine Below.setCell ?_ ?_ _) | (simp; omega) | (simp; done))⟩
        case measure => simp [intOf]; omega
    · have : k = ps.length := by omega
      subst this
      have hi : (Try.prog.info? 72).map (·.size) = some cs.size := by rw [hbuf.size]; exact bufInfo
      go_upto_region 7 with fail
      go_step
      refine wpList_load_row ?l1 72 (.tmp 3) ?l2 (w.heap.size + 1 + 1) ?l3 72 cs (0, 0) _ hB Try.underlying72 ?l4 hi ?l5
      case l1 => rfl
      case l2 => rfl
      case l3 => rfl
      case l4 => rfl
      refine wpList_store_row ?t1 72 (.tmp 2) (.tmp 36) ?t2 (w.heap.size + 1) cs ?t3 ?t4 72 _ hR hi ?t5 hbuf.one ?t6
      case t1 => rfl
      case t2 => rfl
      case t3 => rfl
      case t4 => rfl
      case t5 => rw [hbuf.size]; rfl
      have R7 := hR.setRow cs
      have L7 := Fr.setRow (g := w.heap.size + 1) hbel (by omega) cs
      generalize wr.setRow (w.heap.size + 1) cs = w7 at R7 L7 ⊢
      clear hB hR hbel
      go_wp2_with fail
      refine bodyPost_ret (v := .agg cs) (results_cell_row rfl _ _ (w.heap.size + 1) 72 cs (0, 0) _ rfl R7 Try.underlying72 rfl hi) rfl ?_
      exact ⟨⟨cs, rfl, hbuf⟩, L7⟩

end Go.Proofs.Ytlnhnljckceeaaa
