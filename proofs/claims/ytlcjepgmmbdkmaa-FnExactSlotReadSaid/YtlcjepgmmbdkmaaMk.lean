/-
  Marks in a list of numbers: how they are written, and how they are read again; copies of slots as whole blocks.
-/
import Derived.Test.YtlcjepgmmbdkmaaSlotCopy
import Derived.Test.YtlcjepgmmbdkmaaSw
namespace Go.Proofs.Ytlcjepgmmbdkmaa
open Go.RowKit
set_option linter.unusedSimpArgs false
set_option linter.unusedVariables false

def CopiedB (ver : Int) (xs : List Int) (w : World) (e : Ending) (w' : World) : Prop :=
  ∃ g, e = .returned (.agg #[.int .i64 ver, .slice (some ⟨g, 0, none⟩) xs.length xs.length]) ∧ w.heap.size ≤ g ∧ Blk w' g 3 (xs.map iv).toArray ∧ Below w.heap.size w w'
set_option maxHeartbeats 1000000 in
theorem toSlot_blk (ver : Int) (A : Option Addr) (xs : List Int) (cap : Nat) (w : World) (hp : IntRow w w.heap.size A xs) (hl : xs.length ≤ cap) (hm : cap ≤ 9223372036854775807) (hn : xs.length ≤ 1048576) :
    Calls Try.prog 15 #[.agg #[.int .i64 ver, .slice A xs.length cap]] w (CopiedB ver xs w) := by
  have HN := Lib.hid hn
  clear hn
  go_enter Try.func15, Try.ntmps15
  go_wp2_with fail
  refine (toInts_any A xs cap _ (hp.mem ?_) hl hm HN.out).mono ?_
  · repeat' (first | (with_reducible exact Below.refl _ _) | (with_reducible refine Fr.alloc ?_ _) | (with_reducible refine Below.setCell ?_ ?_ _) | (simp; done))
  rintro e w1 ⟨g, rfl, hg, hB, hb⟩
  have B2 : Blk w1 (w.heap.size + 1) 26 #[.int .i64 0, .slice none 0 0] :=
    ((Blk.new _ _ _ (by simp)).alloc _).below hb (by simp [go_sem])
  have B3 : Blk w1 (w.heap.size + 1 + 1) 26 #[.int .i64 ver, .slice none 0 0] :=
    (Blk.new _ _ _ (by simp)).below hb (by simp [go_sem])
  have hbel : Below w.heap.size w w1 := Fr.step (by repeat' (first | (with_reducible exact Below.refl _ _) | (with_reducible refine Fr.alloc ?_ _))) hb
  have hg1 : w.heap.size ≤ g ∧ w.heap.size + 1 ≠ g ∧ w.heap.size + 1 + 1 ≠ g := by simp [go_sem] at hg; omega
  have l3 := B3.lt
  clear hb hg
  have a0 := B2.cells 0; have a1 := B2.cells 1; have f2 := B2.free
  have d0 := B3.cells 0; have d1 := B3.cells 1; have f3 := B3.free
  simp at a0 a1 d0 d1
  go_wp2_with fail
  refine bodyPost_ret (by simp [results, Try.results15, go_sem, a0, a1]; try rfl) rfl ?_
  refine ⟨g, rfl, hg1.1, ?_, ?_⟩
  · refine Blk.far (Blk.far (Blk.far hB ?_ _) ?_ _) ?_ _
    · exact fun e => hg1.2.2 e.symm
    · exact fun e => hg1.2.1 e.symm
    · exact fun e => hg1.2.1 e.symm
  · repeat' (first | (with_reducible exact hbel) | (with_reducible refine Below.setCell ?_ ?_ _) | (simp; omega) | (simp; done))


/-- n marks stand in these cells. -/
def Marks (C : Array Value) (n : Nat) (m : Int) : Prop := ∀ j, j < n → C[j]? = some (Value.int .i64 (m + (j : Int)))
set_option maxHeartbeats 2000000 in
theorem markInts1 (b n cap : Nat) (C : Array Value) (m : Int) (w : World) (h : Blk w b 3 C) (hn : n ≤ C.size) (hm : 0 ≤ m ∧ m ≤ 4000000) (hn1 : n ≤ 1048576) (hc : n ≤ cap) (hc1 : cap ≤ 9223372036854775807) :
    Calls Try.prog 35 #[.slice (some ⟨b, 0, none⟩) n cap, .int .i64 m] w fun e w' => e = .returned (.int .i64 (m + (n : Int))) ∧ (∃ C', Blk w' b 3 C' ∧ Marks C' n m) ∧ Keep [b] w w' := by
  go_enter Try.func35, Try.ntmps35
  go_wp2_with fail
  go_loopw [1, 5] (fun c1 c5 wr => ∃ (k : Nat) (D : Array Value), k ≤ n ∧ c1 = .int .i64 (m + (k : Int)) ∧ c5 = .int .i64 k ∧ D.size = C.size ∧ Blk wr b 3 D ∧ Marks D k m ∧ Keep [b] w wr) (fun _ c _ => n - (intOf c).toNat)
  case atStart => exact ⟨0, C, Nat.zero_le _, by simp, rfl, rfl, h, fun j hj => by omega, Keep.refl⟩
  case round =>
    clear h
    obtain ⟨k, D, hk, rfl, rfl, hD, hB, hM, hK⟩ := hrel
    by_cases hlt : k < n
    · obtain ⟨M, hMM⟩ : ∃ M : Int, M = m + (k : Int) := ⟨_, rfl⟩
      have w1 : IntKind.i64.wrap (M + 1) = M + 1 := IntWalk.i64_in _ (by omega)
      have hM1 : M + 1 = m + ((k + 1 : Nat) : Int) := by omega
      have kw : IntKind.i64.wrap ((k : Int) + 1) = ((k + 1 : Nat) : Int) := by rw [IntWalk.i64_in _ (by omega)]; omega
      rw [← hMM]
      have hcs := hB.cells
      have hfr := hB.free
      obtain ⟨u0, d0⟩ : ∃ u, wr.cell? ⟨b, k, none⟩ = some u := by rw [hcs]; exact ⟨_, Array.getElem?_eq_getElem (by omega)⟩
      have i0 : (0 : Int) ≤ (k : Int) := by omega
      have i1 : (k : Int) < (n : Int) := by omega
      have HQ := Lib.hid (And.intro hB (And.intro hM (And.intro hK (And.intro hD (And.intro hM1 hMM)))))
      clear hcs hB hM hK hD hM1 hMM
      go_wp2_with fail
      go_roundw
      case rel => exact ⟨k + 1, _, by omega, by rw [HQ.out.2.2.2.2.1], rfl, by simpa using HQ.out.2.2.2.1, HQ.out.1.set_ _ _, fun j hj => by
        rw [Array.getElem?_setIfInBounds]
        by_cases h : k = j
        · subst h; rw [if_pos rfl, if_pos (by have := HQ.out.2.2.2.1; omega), HQ.out.2.2.2.2.2]
        · rw [if_neg h]; exact HQ.out.2.1 j (by omega), HQ.out.2.2.1.trans (Keep.set _ _ (.head _))⟩
      case measure => simp [intOf]; omega
    · have hkn : k = n := by omega
      subst hkn
      go_wp2_with fail
      go_ret
      exact ⟨rfl, ⟨D, hB, hM⟩, hK⟩
theorem markInts0 (A : Option Addr) (cap : Nat) (m : Int) (w : World) :
    Calls Try.prog 35 #[.slice A 0 cap, .int .i64 m] w fun e w' => e = .returned (.int .i64 m) ∧ w' = w := by
  go_enter Try.func35, Try.ntmps35
  go_wp2_with fail
  go_loopw [1, 5] (fun c1 c5 wr => c1 = .int .i64 m ∧ c5 = .int .i64 0 ∧ wr = w) (fun _ _ _ => 0)
  case atStart => exact ⟨rfl, rfl, rfl⟩
  case round =>
    obtain ⟨rfl, rfl, rfl⟩ := hrel
    go_wp2_with fail
    go_ret
    exact ⟨rfl, rfl⟩
set_option maxHeartbeats 2000000 in
theorem heldInts1 (b n cap : Nat) (C : Array Value) (m : Int) (w : World) (h : Blk w b 3 C) (hM : Marks C n m) (hm : 0 ≤ m ∧ m ≤ 4000000) (hn1 : n ≤ 1048576) (hc : n ≤ cap) (hc1 : cap ≤ 9223372036854775807) :
    Calls Try.prog 36 #[.slice (some ⟨b, 0, none⟩) n cap, .int .i64 m] w fun e w' => e = .returned (.int .i64 (m + (n : Int))) ∧ w' = w := by
  have HM := Lib.hid hM
  clear hM
  go_enter Try.func36, Try.ntmps36
  go_wp2_with fail
  go_loopw [1, 5] (fun c1 c5 wr => ∃ (k : Nat), k ≤ n ∧ c1 = .int .i64 (m + (k : Int)) ∧ c5 = .int .i64 k ∧ wr = w) (fun _ c _ => n - (intOf c).toNat)
  case atStart => exact ⟨0, Nat.zero_le _, by simp, rfl, rfl⟩
  case round =>
    obtain ⟨k, hk, rfl, rfl, rfl⟩ := hrel
    by_cases hlt : k < n
    · have hcell : wr.cell? ⟨b, k, none⟩ = some (.int .i64 (m + (k : Int))) := by rw [h.cells]; exact HM.out k hlt
      obtain ⟨M, hMM⟩ : ∃ M : Int, M = m + (k : Int) := ⟨_, rfl⟩
      have w1 : IntKind.i64.wrap (M + 1) = M + 1 := IntWalk.i64_in _ (by omega)
      have hM1 : M + 1 = m + ((k + 1 : Nat) : Int) := by omega
      have kw : IntKind.i64.wrap ((k : Int) + 1) = ((k + 1 : Nat) : Int) := by rw [IntWalk.i64_in _ (by omega)]; omega
      rw [← hMM] at hcell ⊢
      have hne : (M != M) = false := by simp
      have i0 : (0 : Int) ≤ (k : Int) := by omega
      have i1 : (k : Int) < (n : Int) := by omega
      have HQ := Lib.hid hM1
      clear hM1 hMM
      go_wp2_with fail
      go_roundw
      case rel => exact ⟨k + 1, by omega, by rw [HQ.out], rfl, by trivial⟩
      case measure => simp [intOf]; omega
    · have hkn : k = n := by omega
      subst hkn
      go_wp2_with fail
      go_ret
      exact ⟨rfl, rfl⟩
theorem heldInts0 (A : Option Addr) (cap : Nat) (m : Int) (w : World) :
    Calls Try.prog 36 #[.slice A 0 cap, .int .i64 m] w fun e w' => e = .returned (.int .i64 m) ∧ w' = w := by
  go_enter Try.func36, Try.ntmps36
  go_wp2_with fail
  go_loopw [1, 5] (fun c1 c5 wr => c1 = .int .i64 m ∧ c5 = .int .i64 0 ∧ wr = w) (fun _ _ _ => 0)
  case atStart => exact ⟨rfl, rfl, rfl⟩
  case round =>
    obtain ⟨rfl, rfl, rfl⟩ := hrel
    go_wp2_with fail
    go_ret
    exact ⟨rfl, rfl⟩
set_option maxHeartbeats 1000000 in
theorem markSlot1 (ver : Int) (b n cap : Nat) (C : Array Value) (m : Int) (w : World) (h : Blk w b 3 C) (hn : n ≤ C.size) (hm : 0 ≤ m ∧ m ≤ 4000000) (hn1 : n ≤ 1048576) (hc : n ≤ cap) (hc1 : cap ≤ 9223372036854775807) :
    Calls Try.prog 18 #[.agg #[.int .i64 ver, .slice (some ⟨b, 0, none⟩) n cap], .int .i64 m] w fun e w' => e = .returned (.int .i64 (m + (n : Int))) ∧ (∃ C', Blk w' b 3 C' ∧ Marks C' n m) ∧ Keep [b] w w' := by
  have H1 := h.alloc (.cells #[.int .i64 ver, .slice (some ⟨b, 0, none⟩) n cap] 26)
  go_enter Try.func18, Try.ntmps18
  go_wp2_with fail
  refine (markInts1 b n cap C m _ H1 hn hm hn1 hc hc1).mono ?_
  rintro e w1 ⟨rfl, hC, hK⟩
  have K1 : Keep [b] w w1 := (Keep.alloc _).trans hK
  clear H1 hK
  go_wp2_with fail
  go_ret
  exact ⟨rfl, hC, K1⟩
theorem markSlot0 (ver : Int) (A : Option Addr) (cap : Nat) (m : Int) (w : World) :
    Calls Try.prog 18 #[.agg #[.int .i64 ver, .slice A 0 cap], .int .i64 m] w fun e w' => e = .returned (.int .i64 m) ∧ Below w.heap.size w w' := by
  go_enter Try.func18, Try.ntmps18
  go_wp2_with fail
  refine (markInts0 A cap m _).mono ?_
  rintro e w1 ⟨rfl, rfl⟩
  go_wp2_with fail
  go_ret
  exact ⟨rfl, Fr.alloc (Below.refl _ _) _⟩
set_option maxHeartbeats 1000000 in
theorem heldSlot1 (ver : Int) (b n cap : Nat) (C : Array Value) (m : Int) (w : World) (h : Blk w b 3 C) (hM : Marks C n m) (hm : 0 ≤ m ∧ m ≤ 4000000) (hn1 : n ≤ 1048576) (hc : n ≤ cap) (hc1 : cap ≤ 9223372036854775807) :
    Calls Try.prog 19 #[.agg #[.int .i64 ver, .slice (some ⟨b, 0, none⟩) n cap], .int .i64 m] w fun e w' => e = .returned (.int .i64 (m + (n : Int))) ∧ Below w.heap.size w w' := by
  have H1 := h.alloc (.cells #[.int .i64 ver, .slice (some ⟨b, 0, none⟩) n cap] 26)
  have hpos : ¬ (m + (n : Int) < 0) := by omega
  go_enter Try.func19, Try.ntmps19
  go_wp2_with fail
  refine (heldInts1 b n cap C m _ H1 hM hm hn1 hc hc1).mono ?_
  rintro e w1 ⟨rfl, rfl⟩
  clear H1
  go_wp2_with fail
  go_ret
  exact ⟨rfl, Fr.alloc (Below.refl _ _) _⟩
theorem heldSlot0 (ver : Int) (A : Option Addr) (cap : Nat) (m : Int) (w : World) (hm : 0 ≤ m) :
    Calls Try.prog 19 #[.agg #[.int .i64 ver, .slice A 0 cap], .int .i64 m] w fun e w' => e = .returned (.int .i64 m) ∧ Below w.heap.size w w' := by
  have hpos : ¬ (m < 0) := by omega
  go_enter Try.func19, Try.ntmps19
  go_wp2_with fail
  refine (heldInts0 A cap m _).mono ?_
  rintro e w1 ⟨rfl, rfl⟩
  go_wp2_with fail
  go_ret
  exact ⟨rfl, Fr.alloc (Below.refl _ _) _⟩

end Go.Proofs.Ytlcjepgmmbdkmaa
