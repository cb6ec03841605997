/-
  Copies of slots, and their comparison.
-/
import Derived.Test.YtlcjepgmmbdkmaaInts
namespace Go.Proofs.Ytlcjepgmmbdkmaa
open Go.RowKit
set_option linter.unusedSimpArgs false
set_option linter.unusedVariables false

theorem intInfo : (Try.prog.info? 3).map (fun i => (i.zero, i.size, i.bytes)) = some (some (.int .i64 0), 1, 8) := by kernel_rfl
/-- What the copy of a list leaves: a slice of its own. -/
def CopiedI (xs : List Int) (w : World) (e : Ending) (w' : World) : Prop :=
  ∃ g, e = .returned (.slice (some ⟨g, 0, none⟩) xs.length xs.length) ∧ w.heap.size ≤ g ∧ Blk w' g 3 (xs.map iv).toArray ∧ Below w.heap.size w w'
theorem ints_parts {i : Option TypeInfo} {z : Option Value} {s b : Nat} (h : i.map (fun i => (i.zero, i.size, i.bytes)) = some (z, s, b)) : ∃ j, i = some j ∧ j.zero = z ∧ j.size = s ∧ j.bytes = b := by
  cases i with
  | none => cases h
  | some j => simp at h; exact ⟨j, rfl, h.1, h.2.1, h.2.2⟩
set_option maxHeartbeats 1000000 in
theorem toInts_any (A : Option Addr) (xs : List Int) (cap : Nat) (w : World) (hp : IntRow w w.heap.size A xs) (hl : xs.length ≤ cap) (hm : cap ≤ 9223372036854775807) (hn : xs.length ≤ 1048576) :
    Calls Try.prog 33 #[.slice A xs.length cap] w (CopiedI xs w) := by
  obtain ⟨i0, hi0, hz0, hz1, hz2⟩ := ints_parts intInfo
  have hmk : ∀ W : World, (Instr.makeSlice 22 (.int .i64 (xs.length : Int)) (.int .i64 (xs.length : Int))).run Try.prog W = .ok (.slice (some ⟨W.heap.size, 0, none⟩) xs.length xs.length) (W.alloc (.cells (madeCells #[.int .i64 0] (xs.length * 1)) 3)) := fun W => by
    have := run_make (P := Try.prog) W 22 3 i0 _ Try.underlying22 hi0 hz0 .i64 .i64 (xs.length : Int) (xs.length : Int) (by omega) (by omega) (by rw [hz2]; omega) (by omega)
    rw [hz1] at this
    simpa [Value.cells] using this
  have hfill0 : (madeCells #[.int .i64 0] (xs.length * 1)).size = xs.length := by rw [size_madeCells]; omega
  generalize madeCells #[.int .i64 0] (xs.length * 1) = cs0 at hmk hfill0
  clear hi0 hz0 hz1 hz2
  go_enter Try.func33, Try.ntmps33
  go_wp2_with fail
  go_loopw [4] (fun c wr => ∃ (k : Nat) (cs : Array Value), k ≤ xs.length ∧ c = .int .i64 k ∧ (cs.size = xs.length ∧ ∀ j, j < k → cs[j]? = (xs.map iv)[j]?) ∧ Blk wr w.heap.size 3 cs ∧ Below w.heap.size w wr) (fun c _ => xs.length - (intOf c).toNat)
  case atStart => exact ⟨0, cs0, Nat.zero_le _, rfl, ⟨hfill0, fun j hj => by omega⟩, Blk.new _ _ _ rfl, Fr.alloc (Below.refl _ _) _⟩
  case round =>
    obtain ⟨k, cs, hk, rfl, ⟨hsz, hfill⟩, hB, hbel⟩ := hrel
    clear hmk hfill0
    by_cases hlt : k < xs.length
    · obtain ⟨b, off, rfl, hbB, hrow⟩ := hp (by omega)
      obtain ⟨x, hx⟩ : ∃ x, xs[k]? = some x := ⟨xs[k], List.getElem?_eq_getElem hlt⟩
      have c0 := (hbel.cell (p := ⟨b, off + k, none⟩) hbB).trans (hrow k x hx)
      have HX := Lib.hid hx
      have HF := Lib.hid hfill
      clear hx hfill hrow
      have i0 : (0 : Int) ≤ (k : Int) := by omega
      have i1 : (k : Int) < (xs.length : Int) := by omega
      have hcs := hB.cells
      have hfr := hB.free
      obtain ⟨u0, d0⟩ : ∃ u, wr.cell? ⟨w.heap.size, k, none⟩ = some u := by rw [hcs]; exact ⟨_, Array.getElem?_eq_getElem (by omega)⟩
      have HS := Lib.hid hsz
      clear hcs hsz
      go_wp2_with fail
      go_roundw
      case rel => exact ⟨k + 1, _, by omega, by go_num, ⟨by simpa using HS.out, fun j hj => by
        rw [Array.getElem?_setIfInBounds]
        by_cases h : k = j
        · subst h; rw [if_pos rfl, if_pos (by have := HS.out; omega), List.getElem?_map, HX.out]; rfl
        · rw [if_neg h]; exact HF.out j (by omega)⟩, hB.set_ _ _, by
        repeat' (first | (with_reducible exact hbel) | (with_reducible refine Below.setCell ?_ ?_ _) | (simp; done))⟩
      case measure => simp [intOf]; omega
    · have hkl : k = xs.length := by omega
      subst hkl
      go_wp2_with fail
      go_ret
      have e : cs = (xs.map iv).toArray := by
        apply Array.ext_getElem?
        intro i
        by_cases hi : i < xs.length
        · rw [hfill i hi]; simp
        · rw [Array.getElem?_eq_none (by omega), Array.getElem?_eq_none (by simp; omega)]
      exact ⟨_, rfl, Nat.le_refl _, e ▸ hB, hbel⟩

set_option maxHeartbeats 1000000 in
theorem eqInts_same (A A' : Option Addr) (xs : List Int) (cap cap' : Nat) (w : World) (hp : IntRow w w.heap.size A xs) (hp' : IntRow w w.heap.size A' xs) (hl : xs.length ≤ cap) (hm : cap ≤ 9223372036854775807) :
    Calls Try.prog 34 #[.slice A xs.length cap, .slice A' xs.length cap'] w fun e w' => e = .returned (.bool true) ∧ Below w.heap.size w w' := by
  go_enter Try.func34, Try.ntmps34
  go_wp2_with fail
  go_loopw [5] (fun c wr => ∃ k : Nat, k ≤ xs.length ∧ c = .int .i64 k ∧ Below w.heap.size w wr) (fun c _ => xs.length - (intOf c).toNat)
  case atStart => exact ⟨0, Nat.zero_le _, rfl, Below.refl _ _⟩
  case round =>
    obtain ⟨k, hk, rfl, hbel⟩ := hrel
    by_cases hlt : k < xs.length
    · obtain ⟨b, off, rfl, hbB, hrow⟩ := hp (by omega)
      obtain ⟨b', off', rfl, hbB', hrow'⟩ := hp' (by omega)
      obtain ⟨x, hx⟩ : ∃ x, xs[k]? = some x := ⟨xs[k], List.getElem?_eq_getElem hlt⟩
      have c0 := (hbel.cell (p := ⟨b, off + k, none⟩) hbB).trans (hrow k x hx)
      have d0 := (hbel.cell (p := ⟨b', off' + k, none⟩) hbB').trans (hrow' k x hx)
      clear hx
      have hsz := hbel.size
      have hbr1 : b + 1 ≤ wr.heap.size := by omega
      have hbr2 : b' + 1 ≤ wr.heap.size := by omega
      have i0 : (0 : Int) ≤ (k : Int) := by omega
      have i1 : (k : Int) < (xs.length : Int) := by omega
      go_wp2_with fail
      refine wp_region_in (Mem wr) (by kernel_rfl) (by kernel_rfl) (Mem.drew wr) ?_
      intro hne
      repeat (go_big_quiet_step ((fail)))
      refine wpQuiet_nil ?_
      rintro ⟨w1, ok1⟩
      have B1 := Fr.step hbel ok1
      clear hne
      go_wp2_with fail
      go_roundw
      case rel => exact ⟨k + 1, by omega, by go_num, B1⟩
      case measure => simp [intOf]; omega
    · have hkl : k = xs.length := by omega
      subst hkl
      go_wp2_with fail
      go_ret
      exact ⟨rfl, hbel⟩

theorem szInts_any (A : Option Addr) (len cap : Nat) (w : World) (hl : len ≤ cap) (hm : cap ≤ 9223372036854775807) :
    Calls Try.prog 37 #[.slice A len cap, .int .i64 1048576] w fun e w' => e = .returned (.int .i64 (if 1048576 < (len : Int) then -1 else 1048576 - len)) ∧ w' = w := by
  by_cases h : 1048576 < (len : Int)
  · have h' : 1048576 - (len : Int) < 0 := by omega
    go_enter Try.func37, Try.ntmps37
    go_wp2_with fail
    go_ret
    exact ⟨rfl, rfl⟩
  · have h' : ¬ 1048576 - (len : Int) < 0 := by omega
    go_enter Try.func37, Try.ntmps37
    go_wp2_with fail
    go_ret
    exact ⟨rfl, rfl⟩
theorem szSlot_any (ver : Int) (A : Option Addr) (xs : List Int) (cap : Nat) (w : World) (hl : xs.length ≤ cap) (hm : cap ≤ 9223372036854775807) :
    Calls Try.prog 13 #[.agg #[.int .i64 ver, .slice A xs.length cap], .int .i64 1048576] w fun e w' => e = .returned (.int .i64 (if 1048576 < (xs.length : Int) then -1 else 1048576 - xs.length)) ∧ Below w.heap.size w w' := by
  by_cases h : 1048576 < (xs.length : Int)
  · rw [if_pos h]
    go_enter Try.func13, Try.ntmps13
    go_wp2_with (go_at_call 37; refine (szInts_any _ _ _ _ hl hm).mono ?_; rintro e w' ⟨rfl, rfl⟩; rw [if_pos h])
    go_ret
    exact ⟨rfl, Fr.alloc (Below.refl _ _) _⟩
  · rw [if_neg h]
    have h' : ¬ 1048576 - (xs.length : Int) < 0 := by omega
    go_enter Try.func13, Try.ntmps13
    go_wp2_with (go_at_call 37; refine (szInts_any _ _ _ _ hl hm).mono ?_; rintro e w' ⟨rfl, rfl⟩; rw [if_neg h])
    go_ret
    exact ⟨rfl, Fr.alloc (Below.refl _ _) _⟩
def CopiedS (ver : Int) (xs : List Int) (w : World) (e : Ending) (w' : World) : Prop :=
  ∃ g, e = .returned (.agg #[.int .i64 ver, .slice (some ⟨g, 0, none⟩) xs.length xs.length]) ∧ w.heap.size ≤ g ∧ IntRow w' w'.heap.size (some ⟨g, 0, none⟩) xs ∧ Below w.heap.size w w'
set_option maxHeartbeats 1000000 in
theorem toSlot_any (ver : Int) (A : Option Addr) (xs : List Int) (cap : Nat) (w : World) (hp : IntRow w w.heap.size A xs) (hl : xs.length ≤ cap) (hm : cap ≤ 9223372036854775807) (hn : xs.length ≤ 1048576) :
    Calls Try.prog 15 #[.agg #[.int .i64 ver, .slice A xs.length cap]] w (CopiedS ver xs w) := by
  have HN := Lib.hid hn
  clear hn
  go_enter Try.func15, Try.ntmps15
  go_wp2_with fail
  refine (toInts_any A xs cap _ (hp.mem ?_) hl hm HN.out).mono ?_
  · repeat' (first | (with_reducible exact Below.refl _ _) | (with_reducible refine Fr.alloc ?_ _) | (with_reducible refine Below.setCell ?_ ?_ _) | (simp; done))
  rintro e w1 ⟨g, rfl, hg, hB, hb⟩
  have B2 : Blk w1 (w.heap.size + 1) 26 #[.int .i64 0, .slice none 0 0] :=
    ((Blk.new _ _ _ (by simp)).alloc _).below hb (by simp [go_sem])
  have B3 : Blk w1 (w.heap.size + 1 + 1) 26 #[.int .i64 ver, .slice none 0 0] :=
    (Blk.new _ _ _ (by simp)).below hb (by simp [go_sem])
  have hbel : Below w.heap.size w w1 := Fr.step (by repeat' (first | (with_reducible exact Below.refl _ _) | (with_reducible refine Fr.alloc ?_ _))) hb
  have hg1 : w.heap.size ≤ g ∧ w.heap.size + 1 ≠ g ∧ w.heap.size + 1 + 1 ≠ g := by simp [go_sem] at hg; omega
  have l3 := B3.lt
  clear hb hg
  have a0 := B2.cells 0; have a1 := B2.cells 1; have f2 := B2.free
  have d0 := B3.cells 0; have d1 := B3.cells 1; have f3 := B3.free
  simp at a0 a1 d0 d1
  go_wp2_with fail
  refine bodyPost_ret (by simp [results, Try.results15, go_sem, a0, a1]; try rfl) rfl ?_
  refine ⟨g, rfl, hg1.1, ?_, ?_⟩
  · refine IntRow.more (IntRow.of_blk (Blk.far (Blk.far (Blk.far hB ?_ _) ?_ _) ?_ _)) (by simp)
    · exact fun e => hg1.2.2 e.symm
    · exact fun e => hg1.2.1 e.symm
    · exact fun e => hg1.2.1 e.symm
  · repeat' (first | (with_reducible exact hbel) | (with_reducible refine Below.setCell ?_ ?_ _) | (simp; omega) | (simp; done))

set_option maxHeartbeats 1000000 in
theorem eqSlot_same (ver : Int) (A A' : Option Addr) (xs : List Int) (cap cap' : Nat) (w : World) (hp : IntRow w w.heap.size A xs) (hp' : IntRow w w.heap.size A' xs) (hl : xs.length ≤ cap) (hm : cap ≤ 9223372036854775807) :
    Calls Try.prog 17 #[.agg #[.int .i64 ver, .slice A xs.length cap], .agg #[.int .i64 ver, .slice A' xs.length cap']] w fun e w' => e = .returned (.bool true) ∧ Below w.heap.size w w' := by
  go_enter Try.func17, Try.ntmps17
  go_wp2_with fail
  have L : Below w.heap.size w ((w.alloc (.cells #[.int .i64 ver, .slice A xs.length cap] 26)).alloc (.cells #[.int .i64 ver, .slice A' xs.length cap'] 26)) := Fr.alloc2 (Below.refl _ _) _ _
  have P1 := hp.mem L
  have P2 := hp'.mem L
  refine (eqInts_same A A' xs cap cap' _ P1 P2 hl hm).mono ?_
  rintro e w1 ⟨rfl, hb⟩
  have L1 := Fr.step L hb
  clear P1 P2 hb L
  go_wp2_with fail
  go_ret
  exact ⟨rfl, L1⟩

end Go.Proofs.Ytlcjepgmmbdkmaa
