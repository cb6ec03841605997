/-
  SlotBegin and SlotEnd of the reference; comparisons of equal slots.
-/
import Derived.Test.YtlcjepgmmbdkmaaL5
namespace Go.Proofs.Ytlcjepgmmbdkmaa
open Go.RowKit
set_option linter.unusedSimpArgs false
set_option linter.unusedVariables false

def writtenB (ver : Int) : Bool := ver.tmod 2 == 1
def beginB (ver : Int) (xs : List Int) : Bool := slotB ver xs && (!writtenB ver && inB (ver + 1) 0 999999)
def endB (ver : Int) (xs : List Int) : Bool := slotB ver xs && (writtenB ver && inB (ver + 1) 0 999999)
theorem slotB_cases {ver : Int} {xs : List Int} (h : slotB ver xs = true) : (0 ≤ ver ∧ ver ≤ 999999) ∧ 1 ≤ xs.length ∧ xs.length ≤ 6 := by
  unfold slotB wordsB inB at h
  simp at h
  omega
theorem slotB_next {ver : Int} {xs : List Int} (h : slotB ver xs = true) : slotB (ver + 1) xs = inB (ver + 1) 0 999999 := by
  unfold slotB at h ⊢
  simp only [Bool.and_eq_true] at h
  rw [h.2, Bool.and_true]
theorem odd_of {ver : Int} (h : 0 ≤ ver) : (ver % 2 == 1) = writtenB ver := by
  unfold writtenB
  rw [Int.tmod_eq_emod_of_nonneg h]
theorem even_of {ver : Int} (h : 0 ≤ ver) : (ver % 2 == 0) = !writtenB ver := by
  unfold writtenB
  rw [Int.tmod_eq_emod_of_nonneg h]
  rcases Int.emod_two_eq ver with h | h <;> rw [h] <;> rfl

set_option maxRecDepth 100000 in
set_option maxHeartbeats 4000000 in
theorem specBegin (ver : Int) (A : Option Addr) (xs : List Int) (cap : Nat) (w : World) (hp : IntRow w w.heap.size A xs) (hl : xs.length ≤ cap) (hm : cap ≤ 9223372036854775807) :
    Calls Try.prog 20 #[.agg #[.int .i64 ver, .slice A xs.length cap]] w (SpecRes (beginB ver xs) (ver + 1) xs w) := by
  have P0 := (hp.alloc (.cells #[.int .i64 ver, .slice A xs.length cap] 26)).alloc (.cells #[.int .i64 0, .slice none 0 0] 26)
  have X0 := (Blk.new w 26 #[.int .i64 ver, .slice A xs.length cap] rfl).alloc (.cells #[.int .i64 0, .slice none 0 0] 26)
  have X1 := Blk.new (b := w.heap.size + 1) (w.alloc (.cells #[.int .i64 ver, .slice A xs.length cap] 26)) 26 #[.int .i64 0, .slice none 0 0] (by simp)
  have L0 : Below w.heap.size w ((w.alloc (.cells #[.int .i64 ver, .slice A xs.length cap] 26)).alloc (.cells #[.int .i64 0, .slice none 0 0] 26)) := Fr.alloc2 (Below.refl _ _) _ _
  go_enter Try.func20, Try.ntmps20
  go_wp2_with fail
  obtain ⟨u, hu⟩ : ∃ u, u = (w.alloc (.cells #[.int .i64 ver, .slice A xs.length cap] 26)).alloc (.cells #[.int .i64 0, .slice none 0 0] 26) := ⟨_, rfl⟩
  rw [← hu] at P0 X0 X1 L0 ⊢
  clear hu hp
  obtain ⟨N, hN⟩ : ∃ N, N = w.heap.size := ⟨_, rfl⟩
  rw [← hN] at X0 X1 L0 ⊢
  have HN := Lib.hid hN
  clear hN
  refine (slotSpec ver A xs cap u P0 hl hm).mono ?_
  rintro e w1 ⟨rfl, hb⟩
  have P1 := P0.mem hb
  have X2 := X0.below hb X0.lt
  have X3 := X1.below hb X1.lt
  have L1 : Below N w w1 := L0.trans (hb.mono (by have := X1.lt; omega))
  clear P0 X0 X1 L0 hb
  clear u
  have c0 := X2.cells 0
  have c1 := X2.cells 1
  have d0 := X3.cells 0
  have d1 := X3.cells 1
  have df := X3.free
  simp at c0 c1 d0 d1
  cases h1 : slotB ver xs
  · have H := Lib.hid (show beginB ver xs = false by unfold beginB; rw [h1]; rfl)
    clear h1
    go_wp2_with fail
    refine bodyPost_ret (by simp [results, Try.results20, go_sem, d0, d1]; try rfl) rfl ?_
    rw [H.out]
    exact ⟨_, none, 0, rfl, by rw [← HN.out]; exact Below.setCell (Below.setCell L1 (by simp) _) (by simp) _, fun h => (by cases h), fun _ => rfl⟩
  obtain ⟨⟨v0, v1⟩, n1, n6⟩ := slotB_cases h1
  cases h2 : writtenB ver
  · have hw : (ver % 2 == 1) = false := by rw [odd_of v0, h2]
    have H := Lib.hid (show beginB ver xs = slotB (ver + 1) xs by unfold beginB; rw [h1, h2, slotB_next h1]; rfl)
    clear h1 h2
    go_wp2_with fail
    refine (next_any ver A xs cap w1 P1 hl hm ⟨v0, v1⟩ ⟨n1, n6⟩).mono ?_
    rintro e w2 ⟨v, A', c', rfl, hb2, hy, hn⟩
    have X4 := X3.below hb2 X3.lt
    have L2 : Below N w w2 := L1.trans (hb2.mono (by have := X3.lt; omega))
    clear c0 c1 d0 d1 df X2 P1 L1 X3
    have d0 := X4.cells 0
    have d1 := X4.cells 1
    have df := X4.free
    simp at d0 d1
    cases hq : slotB (ver + 1) xs
    · obtain rfl := hn hq
      have HQ := Lib.hid hq
      clear hy hn hq
      go_wp2_with fail
      refine bodyPost_ret (by simp [results, Try.results20, go_sem, d0, d1]; try rfl) rfl ?_
      rw [H.out, HQ.out]
      exact ⟨_, none, 0, rfl, by rw [← HN.out]; exact Below.setCell (Below.setCell L2 (by simp) _) (by simp) _, fun h => (by cases h), fun _ => rfl⟩
    · obtain ⟨rfl, hr, h3, h4⟩ := hy hq
      have HQ := Lib.hid hq
      clear hn hq
      go_wp2_with fail
      refine bodyPost_ret (by simp [results, Try.results20, go_sem, d0, d1]; try rfl) rfl ?_
      rw [H.out, HQ.out]
      exact ⟨_, A', c', rfl, by rw [← HN.out]; exact Below.setCell (Below.setCell L2 (by simp) _) (by simp) _, fun _ => ⟨rfl, (hr.set X4 _).set (X4.set_ 0 _) _, h3, h4⟩, fun h => (by cases h)⟩
  · have hw : (ver % 2 == 1) = true := by rw [odd_of v0, h2]
    have H := Lib.hid (show beginB ver xs = false by unfold beginB; rw [h1, h2]; rfl)
    clear h1 h2
    go_wp2_with fail
    refine bodyPost_ret (by simp [results, Try.results20, go_sem, d0, d1]; try rfl) rfl ?_
    rw [H.out]
    exact ⟨_, none, 0, rfl, by rw [← HN.out]; exact Below.setCell (Below.setCell L1 (by simp) _) (by simp) _, fun h => (by cases h), fun _ => rfl⟩

set_option maxRecDepth 100000 in
set_option maxHeartbeats 4000000 in
theorem specEnd (ver : Int) (A : Option Addr) (xs : List Int) (cap : Nat) (w : World) (hp : IntRow w w.heap.size A xs) (hl : xs.length ≤ cap) (hm : cap ≤ 9223372036854775807) :
    Calls Try.prog 22 #[.agg #[.int .i64 ver, .slice A xs.length cap]] w (SpecRes (endB ver xs) (ver + 1) xs w) := by
  have P0 := (hp.alloc (.cells #[.int .i64 ver, .slice A xs.length cap] 26)).alloc (.cells #[.int .i64 0, .slice none 0 0] 26)
  have X0 := (Blk.new w 26 #[.int .i64 ver, .slice A xs.length cap] rfl).alloc (.cells #[.int .i64 0, .slice none 0 0] 26)
  have X1 := Blk.new (b := w.heap.size + 1) (w.alloc (.cells #[.int .i64 ver, .slice A xs.length cap] 26)) 26 #[.int .i64 0, .slice none 0 0] (by simp)
  have L0 : Below w.heap.size w ((w.alloc (.cells #[.int .i64 ver, .slice A xs.length cap] 26)).alloc (.cells #[.int .i64 0, .slice none 0 0] 26)) := Fr.alloc2 (Below.refl _ _) _ _
  go_enter Try.func22, Try.ntmps22
  go_wp2_with fail
  obtain ⟨u, hu⟩ : ∃ u, u = (w.alloc (.cells #[.int .i64 ver, .slice A xs.length cap] 26)).alloc (.cells #[.int .i64 0, .slice none 0 0] 26) := ⟨_, rfl⟩
  rw [← hu] at P0 X0 X1 L0 ⊢
  clear hu hp
  obtain ⟨N, hN⟩ : ∃ N, N = w.heap.size := ⟨_, rfl⟩
  rw [← hN] at X0 X1 L0 ⊢
  have HN := Lib.hid hN
  clear hN
  refine (slotSpec ver A xs cap u P0 hl hm).mono ?_
  rintro e w1 ⟨rfl, hb⟩
  have P1 := P0.mem hb
  have X2 := X0.below hb X0.lt
  have X3 := X1.below hb X1.lt
  have L1 : Below N w w1 := L0.trans (hb.mono (by have := X1.lt; omega))
  clear P0 X0 X1 L0 hb
  clear u
  have c0 := X2.cells 0
  have c1 := X2.cells 1
  have d0 := X3.cells 0
  have d1 := X3.cells 1
  have df := X3.free
  simp at c0 c1 d0 d1
  cases h1 : slotB ver xs
  · have H := Lib.hid (show endB ver xs = false by unfold endB; rw [h1]; rfl)
    clear h1
    go_wp2_with fail
    refine bodyPost_ret (by simp [results, Try.results22, go_sem, d0, d1]; try rfl) rfl ?_
    rw [H.out]
    exact ⟨_, none, 0, rfl, by rw [← HN.out]; exact Below.setCell (Below.setCell L1 (by simp) _) (by simp) _, fun h => (by cases h), fun _ => rfl⟩
  obtain ⟨⟨v0, v1⟩, n1, n6⟩ := slotB_cases h1
  cases h2 : writtenB ver
  · have hw : (ver % 2 == 0) = true := by rw [even_of v0, h2]; rfl
    have H := Lib.hid (show endB ver xs = false by unfold endB; rw [h1, h2]; rfl)
    clear h1 h2
    go_wp2_with fail
    refine bodyPost_ret (by simp [results, Try.results22, go_sem, d0, d1]; try rfl) rfl ?_
    rw [H.out]
    exact ⟨_, none, 0, rfl, by rw [← HN.out]; exact Below.setCell (Below.setCell L1 (by simp) _) (by simp) _, fun h => (by cases h), fun _ => rfl⟩
  · have hw : (ver % 2 == 0) = false := by rw [even_of v0, h2]; rfl
    have H := Lib.hid (show endB ver xs = slotB (ver + 1) xs by unfold endB; rw [h1, h2, slotB_next h1]; rfl)
    clear h1 h2
    go_wp2_with fail
    refine (next_any ver A xs cap w1 P1 hl hm ⟨v0, v1⟩ ⟨n1, n6⟩).mono ?_
    rintro e w2 ⟨v, A', c', rfl, hb2, hy, hn⟩
    have X4 := X3.below hb2 X3.lt
    have L2 : Below N w w2 := L1.trans (hb2.mono (by have := X3.lt; omega))
    clear c0 c1 d0 d1 df X2 P1 L1 X3
    have d0 := X4.cells 0
    have d1 := X4.cells 1
    have df := X4.free
    simp at d0 d1
    cases hq : slotB (ver + 1) xs
    · obtain rfl := hn hq
      have HQ := Lib.hid hq
      clear hy hn hq
      go_wp2_with fail
      refine bodyPost_ret (by simp [results, Try.results22, go_sem, d0, d1]; try rfl) rfl ?_
      rw [H.out, HQ.out]
      exact ⟨_, none, 0, rfl, by rw [← HN.out]; exact Below.setCell (Below.setCell L2 (by simp) _) (by simp) _, fun h => (by cases h), fun _ => rfl⟩
    · obtain ⟨rfl, hr, h3, h4⟩ := hy hq
      have HQ := Lib.hid hq
      clear hn hq
      go_wp2_with fail
      refine bodyPost_ret (by simp [results, Try.results22, go_sem, d0, d1]; try rfl) rfl ?_
      rw [H.out, HQ.out]
      exact ⟨_, A', c', rfl, by rw [← HN.out]; exact Below.setCell (Below.setCell L2 (by simp) _) (by simp) _, fun _ => ⟨rfl, (hr.set X4 _).set (X4.set_ 0 _) _, h3, h4⟩, fun h => (by cases h)⟩

end Go.Proofs.Ytlcjepgmmbdkmaa
