/-
  The copy of a list of packets, the comparison of two equal ones, and the count of what is left.
-/
import Derived.Test.YtjdpagjcbhkonaaPks
import Derived.Laws.MakeOwn
namespace Go.Proofs.Ytjdpagjcbhkonaa
open Go.RowKit
set_option linter.unusedSimpArgs false
set_option linter.unusedVariables false

theorem pkInfo : (Try.prog.info? 31).map (fun i => (i.zero, i.size, i.bytes)) = some (some (.agg #[.int .i64 0, .int .i64 0, .int .i64 0, .int .i64 0, .bool false, .bool false]), 6, 40) := by kernel_rfl

/-- The first so many packets stand in the array. -/
def Filled (cs : Array Value) (ps : List Pk) (k : Nat) : Prop := cs.size = ps.length * 6 ∧ ∀ j, j < k * 6 → cs[j]? = (pkcs ps)[j]?
theorem Filled.set {cs : Array Value} {ps : List Pk} {k : Nat} {p : Pk} (h : Filled cs ps k) (hp : ps[k]? = some p) :
    Filled ((((((cs.setIfInBounds (k * 6) (.int .i64 p.wd)).setIfInBounds (k * 6 + 1) (.int .i64 p.tm)).setIfInBounds (k * 6 + 2) (.int .i64 p.ly)).setIfInBounds (k * 6 + 3) (.int .i64 p.sz)).setIfInBounds (k * 6 + 4) (.bool p.k)).setIfInBounds (k * 6 + 5) (.bool p.l)) ps (k + 1) := by
  have hk : k < ps.length := by
    rcases Nat.lt_or_ge k ps.length with h' | h'
    · exact h'
    · rw [List.getElem?_eq_none h'] at hp; cases hp
  have hsz := h.1
  refine ⟨by simpa using hsz, fun j hj => ?_⟩
  have g : ∀ f, f < 6 → (pkcs ps)[k * 6 + f]? = (pkc p)[f]? := fun f hf => pkcs_get hp hf
  have g0 := g 0 (by omega); have g1 := g 1 (by omega); have g2 := g 2 (by omega); have g3 := g 3 (by omega); have g4 := g 4 (by omega); have g5 := g 5 (by omega)
  simp only [pkc, Nat.add_zero, List.getElem?_cons_zero, List.getElem?_cons_succ] at g0 g1 g2 g3 g4 g5
  simp only [Array.getElem?_setIfInBounds, Array.size_setIfInBounds]
  by_cases j5 : k * 6 + 5 = j
  · subst j5; rw [if_pos rfl, if_pos (by omega), g5]
  rw [if_neg j5]
  by_cases j4 : k * 6 + 4 = j
  · subst j4; rw [if_pos rfl, if_pos (by omega), g4]
  rw [if_neg j4]
  by_cases j3 : k * 6 + 3 = j
  · subst j3; rw [if_pos rfl, if_pos (by omega), g3]
  rw [if_neg j3]
  by_cases j2 : k * 6 + 2 = j
  · subst j2; rw [if_pos rfl, if_pos (by omega), g2]
  rw [if_neg j2]
  by_cases j1 : k * 6 + 1 = j
  · subst j1; rw [if_pos rfl, if_pos (by omega), g1]
  rw [if_neg j1]
  by_cases j0 : k * 6 = j
  · subst j0; rw [if_pos rfl, if_pos (by omega), g0]
  rw [if_neg j0]
  exact h.2 j (by omega)
theorem Filled.all {cs : Array Value} {ps : List Pk} (h : Filled cs ps ps.length) : cs = (pkcs ps).toArray := by
  apply Array.ext_getElem?
  intro i
  by_cases hi : i < ps.length * 6
  · rw [h.2 i hi]; simp
  · rw [Array.getElem?_eq_none (by have := h.1; omega), Array.getElem?_eq_none (by simp [pkcs_length]; omega)]

theorem toPacket_mem (wd tm ly sz : Int) (k l : Bool) (w : World) :
    Calls Try.prog 29 #[.agg #[.int .i64 wd, .int .i64 tm, .int .i64 ly, .int .i64 sz, .bool k, .bool l]] w fun e w' =>
      e = .returned (.agg #[.int .i64 wd, .int .i64 tm, .int .i64 ly, .int .i64 sz, .bool k, .bool l]) ∧ Below w.heap.size w w' :=
  (toPacket_any wd tm ly sz k l w).mono fun _ _ ⟨h, o1, o2, o3, hw⟩ => ⟨h, hw ▸ Fr.alloc3 (Below.refl _ _) _ _ _⟩

/-- What the copy of a list leaves: a slice of its own. -/
def Copied (ps : List Pk) (w : World) (e : Ending) (w' : World) : Prop :=
  ∃ g, e = .returned (.slice (some ⟨g, 0, none⟩) ps.length ps.length) ∧ w.heap.size ≤ g ∧ Blk w' g 31 (pkcs ps).toArray ∧ Below w.heap.size w w'

set_option maxHeartbeats 1000000 in
theorem toPks_any (A : Option Addr) (ps : List Pk) (cap : Nat) (w : World) (hp : PkRow w w.heap.size A ps) (hl : ps.length ≤ cap) (hm : cap ≤ 9223372036854775807) (hn : ps.length ≤ 1048576) :
    Calls Try.prog 15 #[.slice A ps.length cap] w (Copied ps w) := by
  obtain ⟨i0, hi0, hz0, hz1, hz2⟩ := info_parts pkInfo
  have hmk : ∀ W : World, (Instr.makeSlice 23 (.int .i64 (ps.length : Int)) (.int .i64 (ps.length : Int))).run Try.prog W = .ok (.slice (some ⟨W.heap.size, 0, none⟩) ps.length ps.length) (W.alloc (.cells (madeCells #[.int .i64 0, .int .i64 0, .int .i64 0, .int .i64 0, .bool false, .bool false] (ps.length * 6)) 31)) := fun W => by
    have := run_make (P := Try.prog) W 23 31 i0 _ Try.underlying23 hi0 hz0 .i64 .i64 (ps.length : Int) (ps.length : Int) (by omega) (by omega) (by rw [hz2]; omega) (by omega)
    rw [hz1] at this
    simpa [Value.cells] using this
  have hfill0 : Filled (madeCells #[.int .i64 0, .int .i64 0, .int .i64 0, .int .i64 0, .bool false, .bool false] (ps.length * 6)) ps 0 := ⟨size_madeCells _ _, fun j hj => by omega⟩
  generalize madeCells #[.int .i64 0, .int .i64 0, .int .i64 0, .int .i64 0, .bool false, .bool false] (ps.length * 6) = cs0 at hmk hfill0
  clear hi0 hz0 hz1 hz2
  go_enter Try.func15, Try.ntmps15
  go_wp2_with fail
  go_loopw [4] (fun c wr => ∃ (k : Nat) (cs : Array Value), k ≤ ps.length ∧ c = .int .i64 k ∧ Filled cs ps k ∧ Blk wr w.heap.size 31 cs ∧ Below w.heap.size w wr) (fun c _ => ps.length - (intOf c).toNat)
  case atStart => exact ⟨0, cs0, Nat.zero_le _, rfl, hfill0, Blk.new _ _ _ rfl, Fr.alloc (Below.refl _ _) _⟩
  case round =>
    obtain ⟨k, cs, hk, rfl, hfill, hB, hbel⟩ := hrel
    clear hmk hfill0
    by_cases hlt : k < ps.length
    · obtain ⟨b, off, rfl, hbB, hrow⟩ := hp (by omega)
      obtain ⟨p, hpk⟩ : ∃ p, ps[k]? = some p := ⟨ps[k], List.getElem?_eq_getElem hlt⟩
      obtain ⟨c0, c1, c2, c3, c4, c5⟩ := (hrow k p hpk).keep (w' := wr) fun j => hbel.cell (p := ⟨b, j, none⟩) hbB
      have HPK := Lib.hid hpk
      have HF := Lib.hid hfill
      have hsz := hfill.1
      clear hpk hfill
      have hsz2 := hbel.size
      have hbr : b < wr.heap.size := by omega
      have i0 : (0 : Int) ≤ (k : Int) := by omega
      have i1 : (k : Int) < (ps.length : Int) := by omega
      go_wp2_with fail
      refine (toPacket_mem _ _ _ _ _ _ _).mono ?_
      rintro e w1 ⟨rfl, hb1⟩
      have hB1 := hB.below hb1 hB.lt
      have hbel1 := Fr.step hbel hb1
      have hcs := hB1.cells
      have hfr := hB1.free
      have hkk : ∀ f, f < 6 → ∃ u, w1.cell? ⟨w.heap.size, k * 6 + f, none⟩ = some u := fun f hf => by
        rw [hcs]; exact ⟨_, Array.getElem?_eq_getElem (by omega)⟩
      obtain ⟨u0, d0⟩ := hkk 0 (by omega); obtain ⟨u1, d1⟩ := hkk 1 (by omega); obtain ⟨u2, d2⟩ := hkk 2 (by omega); obtain ⟨u3, d3⟩ := hkk 3 (by omega); obtain ⟨u4, d4⟩ := hkk 4 (by omega); obtain ⟨u5, d5⟩ := hkk 5 (by omega)
      simp only [Nat.add_zero] at d0
      clear hcs hsz hkk c0 c1 c2 c3 c4 c5 hb1 hB hbel
      go_wp2_with fail

      go_roundw
      case rel => exact ⟨k + 1, _, by omega, by go_num, HF.out.set HPK.out, (((((hB1.set_ _ _).set_ _ _).set_ _ _).set_ _ _).set_ _ _).set_ _ _, by
        repeat' (first | (with_reducible exact hbel1) | (with_reducible refine Below.setCell ?_ ?_ _) | (simp; done))⟩
      case measure => simp [intOf]; omega
    · have : k = ps.length := by omega
      subst this
      go_wp2_with fail
      go_ret
      exact ⟨_, rfl, Nat.le_refl _, hfill.all ▸ hB, hbel⟩

/-- The comparison, field by field, of a packet with itself. -/
theorem eqPk_same (wd tm ly sz : Int) (k l : Bool) (w : World) :
    Calls Try.prog 31 #[.agg #[.int .i64 wd, .int .i64 tm, .int .i64 ly, .int .i64 sz, .bool k, .bool l], .agg #[.int .i64 wd, .int .i64 tm, .int .i64 ly, .int .i64 sz, .bool k, .bool l]] w fun e' w' =>
      e' = .returned (.bool true) ∧ Below w.heap.size w w' := by
  go_enter Try.func31, Try.ntmps31
  go_wp2
  go_ret
  exact ⟨rfl, Fr.alloc2 (Below.refl _ _) _ _⟩

set_option maxHeartbeats 1000000 in
theorem eqPks_same (A A' : Option Addr) (ps : List Pk) (cap cap' : Nat) (w : World) (hp : PkRow w w.heap.size A ps) (hp' : PkRow w w.heap.size A' ps) (hl : ps.length ≤ cap) (hm : cap ≤ 9223372036854775807) :
    Calls Try.prog 17 #[.slice A ps.length cap, .slice A' ps.length cap'] w fun e w' => e = .returned (.bool true) ∧ Below w.heap.size w w' := by
  go_enter Try.func17, Try.ntmps17
  go_wp2_with fail
  go_loopw [5] (fun c wr => ∃ k : Nat, k ≤ ps.length ∧ c = .int .i64 k ∧ Below w.heap.size w wr) (fun c _ => ps.length - (intOf c).toNat)
  case atStart => exact ⟨0, Nat.zero_le _, rfl, Below.refl _ _⟩
  case round =>
    obtain ⟨k, hk, rfl, hbel⟩ := hrel
    by_cases hlt : k < ps.length
    · obtain ⟨b, off, rfl, hbB, hrow⟩ := hp (by omega)
      obtain ⟨b', off', rfl, hbB', hrow'⟩ := hp' (by omega)
      obtain ⟨p, hpk⟩ : ∃ p, ps[k]? = some p := ⟨ps[k], List.getElem?_eq_getElem hlt⟩
      obtain ⟨c0, c1, c2, c3, c4, c5⟩ := (hrow k p hpk).keep (w' := wr) fun j => hbel.cell (p := ⟨b, j, none⟩) hbB
      obtain ⟨d0, d1, d2, d3, d4, d5⟩ := (hrow' k p hpk).keep (w' := wr) fun j => hbel.cell (p := ⟨b', j, none⟩) hbB'
      clear hpk
      have hsz := hbel.size
      have hbr1 : b + 1 ≤ wr.heap.size := by omega
      have hbr2 : b' + 1 ≤ wr.heap.size := by omega
      have i0 : (0 : Int) ≤ (k : Int) := by omega
      have i1 : (k : Int) < (ps.length : Int) := by omega
      go_wp2_with fail
      refine wp_region_in (Mem wr) (by kernel_rfl) (by kernel_rfl) (Mem.drew wr) ?_
      intro hne
      repeat (go_big_quiet_step ((go_at_call 31; exact Calls.in_mem _ (eqPk_same _ _ _ _ _ _ _))))
      refine wpQuiet_nil ?_
      rintro ⟨w1, ok1⟩
      have B1 := Fr.step hbel ok1
      clear hne
      go_wp2_with fail
      go_roundw
      case rel => exact ⟨k + 1, by omega, by go_num, B1⟩
      case measure => simp [intOf]; omega
    · have : k = ps.length := by omega
      subst this
      go_wp2_with fail
      go_ret
      exact ⟨rfl, hbel⟩

theorem szPks_any (A : Option Addr) (len cap : Nat) (w : World) (hl : len ≤ cap) (hm : cap ≤ 9223372036854775807) :
    Calls Try.prog 14 #[.slice A len cap, .int .i64 1048576] w fun e w' => e = .returned (.int .i64 (if 1048576 < (len : Int) then -1 else 1048576 - len)) ∧ w = w' := by
  by_cases h : 1048576 < (len : Int)
  · have h' : 1048576 - (len : Int) < 0 := by omega
    go_enter Try.func14, Try.ntmps14
    go_wp2_with fail
    go_ret
    exact ⟨rfl, rfl⟩
  · have h' : ¬ 1048576 - (len : Int) < 0 := by omega
    go_enter Try.func14, Try.ntmps14
    go_wp2_with fail
    go_ret
    exact ⟨rfl, rfl⟩

end Go.Proofs.Ytjdpagjcbhkonaa
