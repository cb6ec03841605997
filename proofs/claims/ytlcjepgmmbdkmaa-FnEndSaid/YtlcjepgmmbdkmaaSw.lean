/-
  SlotWrite and SlotRead of the reference.
-/
import Derived.Test.YtlcjepgmmbdkmaaSbe
import Derived.Deep.Upon
import Derived.Deep.AppendLies
namespace Go.Proofs.Ytlcjepgmmbdkmaa
open Go.RowKit
set_option linter.unusedSimpArgs false
set_option linter.unusedVariables false

/-- All blocks but these stand. -/
def Keep (L : List Nat) (w w' : World) : Prop := w.heap.size ≤ w'.heap.size ∧ ∀ k, k < w.heap.size → k ∉ L → w'.heap[k]? = w.heap[k]?
section
variable {w w' w'' wx : World} {L L' : List Nat} {g : Nat}
theorem Keep.refl : Keep L w w := ⟨Nat.le_refl _, fun _ _ _ => rfl⟩
theorem Keep.trans (h : Keep L w w') (k : Keep L w' w'') : Keep L w w'' := ⟨Nat.le_trans h.1 k.1, fun i hi hL => (k.2 i (Nat.lt_of_lt_of_le hi h.1) hL).trans (h.2 i hi hL)⟩
theorem Keep.goes (h : Goes g w w') (hg : g ∈ L) : Keep L w w' := ⟨h.size, fun k hk hL => h.block k hk (fun e => hL (by injection e with e; subst e; exact hg))⟩
theorem Keep.alloc (o : Obj) : Keep L w (w.alloc o) := ⟨by simp, fun k hk _ => by rw [Below.heap_alloc _ _ _ (by omega)]⟩
theorem Keep.set (p : Addr) (u : Value) (h : p.block ∈ L) : Keep L w (w.setCell p u) := ⟨by simp, fun k hk hL => Below.heap_setCell w p u k (fun e => hL (e ▸ h))⟩
theorem Keep.below (h : Below w.heap.size w w') : Keep L w w' := ⟨h.size, fun k hk _ => h.block k hk⟩
theorem Keep.drew : Keep L w w.drew := ⟨Nat.le_refl _, fun _ _ _ => rfl⟩
end
/-- A row of its own, or none. -/
def RowE (w : World) (A : Option Addr) (xs : List Int) : Prop := xs = [] ∨ Row1 w A xs
theorem RowE.mem {w w' : World} {A : Option Addr} {xs : List Int} (h : RowE w A xs) (hb : Below w.heap.size w w') : RowE w' A xs := h.imp id fun h => h.mem hb
theorem RowE.row {w : World} {A : Option Addr} {xs : List Int} (h : RowE w A xs) : IntRow w w.heap.size A xs := by
  rcases h with rfl | h
  · exact IntRow.nil _ _ _
  · exact h.row
theorem RowE.set {w : World} {A : Option Addr} {xs : List Int} (h : RowE w A xs) {b i : Nat} {c : Array Value} (hb : Blk w b 26 c) (u : Value) : RowE (w.setCell ⟨b, i, none⟩ u) A xs := h.imp id fun h => h.set hb u
theorem Row1.e {w : World} {A : Option Addr} {xs : List Int} (h : Row1 w A xs) : RowE w A xs := .inr h
/-- A word is written into a row of its own. -/
theorem Row1.put {w : World} {g : Nat} {C : Array Value} {xs : List Int} {k : Nat} {x : Int} (hB : Blk w g 3 C) (hc : ∀ (j : Nat) (x : Int), xs[j]? = some x → C[j]? = some (Value.int .i64 x)) (hk : k < xs.length) : Row1 (w.setCell ⟨g, k, none⟩ (.int .i64 x)) (some ⟨g, 0, none⟩) (xs.set k x) := by
  refine ⟨g, _, rfl, hB.set_ k _, fun j y hj => ?_⟩
  have hkC : k < C.size := by
    have := hc k xs[k] (List.getElem?_eq_getElem hk)
    exact (Array.getElem?_eq_some_iff.1 this).1
  rw [Array.getElem?_setIfInBounds]
  by_cases h : k = j
  · subst h
    rw [if_pos rfl, if_pos hkC]
    rw [List.getElem?_set, if_pos rfl, if_pos hk] at hj
    injection hj with hj
    rw [hj]
  · rw [if_neg h]
    rw [List.getElem?_set, if_neg h] at hj
    exact hc j y hj

theorem run_append_any (w : World) (ty : TypeId) (b : Nat) (A : Option Addr) (B c : Nat) (xs : List Int) (hr : IntRow w B A xs) (hlen : xs.length ≤ 1000) :
    ∃ A' cap' w', (Builtin.append_ #[22, 22] ty #[.slice (some ⟨b, 0, none⟩) 0 0, .slice A xs.length c]).run Try.prog w = .ok (.slice A' xs.length cap') w' ∧ RowE w' A' xs ∧ (∀ g o, A' = some ⟨g, o, none⟩ → g = b ∨ w.heap.size ≤ g) ∧ xs.length ≤ cap' ∧ cap' ≤ maxLen ∧ Below w.heap.size w w' := by
  obtain ⟨i0, hi, hz0, hz1, hz2⟩ := ints_parts intInfo
  by_cases h0 : xs = []
  · subst h0
    have hs : Src Try.prog i0.size 22 (.slice A 0 c) 0 [] w := by
      cases A with
      | none => exact Src.ofNil w Try.underlying22 c
      | some a => exact Src.ofSlice w Try.underlying22 a 0 c [] (by simp) (by simp) (by simp)
    exact ⟨_, _, _, run_append_nothing w 22 22 ty 3 i0 Try.underlying22 hi (some ⟨b, 0, none⟩) 0 0 (Nat.le_refl _) _ hs, .inl rfl, fun g o e => by injection e with e; injection e with e1 _; exact .inl e1.symm, Nat.le_refl _, Nat.zero_le _, Below.refl _ _⟩
  · have hpos : 0 < xs.length := by
      rcases Nat.eq_zero_or_pos xs.length with h | h
      · exact absurd (List.eq_nil_of_length_eq_zero h) h0
      · exact h
    obtain ⟨b', off, rfl, _, hc⟩ := hr hpos
    have hl : (xs.map iv).length = xs.length * i0.size := by rw [hz1]; simp
    have hrun := run_append_grow (P := Try.prog) w 22 ty 3 i0 _ Try.underlying22 hi hz0 ⟨b, 0, none⟩ 0 0 [] (by simp) (by simp) ⟨b', off, none⟩ xs.length c (xs.map iv) hl (fun j u hu => by
      rw [List.getElem?_map] at hu
      obtain ⟨y, hy, rfl⟩ := Option.map_eq_some_iff.1 hu
      cases j with
      | zero => simpa [Addr.add, iv] using hc 0 y hy
      | succ j => simpa [Addr.add, iv] using hc (j + 1) y hy) (by omega) (by omega) (growslice_fits (by omega) (by rw [hz2]; omega))
    have hge := grownCap_ge w (0 + xs.length) 0 3
    rw [Nat.zero_add] at hrun hge
    refine ⟨_, _, _, hrun, .inr ?_, fun g o e => by injection e with e; injection e with e1 _; exact .inr (Nat.le_of_eq e1), hge, grownCap_le_maxLen w _ 0 3 (by unfold maxLen; omega), ⟨rfl, rfl, rfl, by simp, fun k hk => heap_alloc_old w.drew _ hk⟩⟩
    refine ⟨w.heap.size, _, rfl, Blk.new w.drew _ _ rfl, fun j x hj => ?_⟩
    have hj' : j < xs.length := (List.getElem?_eq_some_iff.1 hj).1
    rw [Array.getElem?_append_left (by simp; omega), Array.getElem?_append_right (by simp)]
    simp [hj, iv]
/-- append onto an empty list, as one operation. -/
theorem wp_append_any {w : World} {o : Oper} {a : Act} {K : Act → World → Prop} {Q : Exit → Act → World → Prop} (s x : Operand) (ho : o.op = .call { callee := .builtin .append, args := #[s, x], argTypes := #[22, 22] })
    (b : Nat) (hs : a.eval s = .slice (some ⟨b, 0, none⟩) 0 0) (A : Option Addr) (B : Nat) (c : Nat) (xs : List Int) (hx : a.eval x = .slice A xs.length c) (hr : IntRow w B A xs) (hlen : xs.length ≤ 1000)
    (h : ∀ A' cap' w', RowE w' A' xs → (∀ g o, A' = some ⟨g, o, none⟩ → g = b ∨ w.heap.size ≤ g) → xs.length ≤ cap' → cap' ≤ maxLen → Below w.heap.size w w' → K (a.put o.dst (.slice A' xs.length cap')) w') : Oper.wp Try.prog o a w K Q := by
  obtain ⟨A', cap', w', hrun, h1, h5, h2, h3, h4⟩ := run_append_any w o.type b A B c xs hr hlen
  unfold Oper.wp execOp
  simp only [ho, resolve, invoke, builtin, Sem.run_bind, Sem.run_pure, Result.andThen_ok, List.map_toArray, List.map_cons, List.map_nil, hs, hx, hrun]
  exact h A' cap' w' h1 h5 h2 h3 h4

theorem wpList_append_any {ops : Array Oper} {rest : List Oper} {w : World} {o : Oper} {a : Act} {Q : Exit → Act → World → Prop} (hgd : o.guard = none) (s x : Operand) (ho : o.op = .call { callee := .builtin .append, args := #[s, x], argTypes := #[22, 22] })
    (b : Nat) (hs : a.eval s = .slice (some ⟨b, 0, none⟩) 0 0) (A : Option Addr) (B : Nat) (c : Nat) (xs : List Int) (hx : a.eval x = .slice A xs.length c) (hr : IntRow w B A xs) (hlen : xs.length ≤ 1000)
    (h : ∀ A' cap' w', RowE w' A' xs → (∀ g o, A' = some ⟨g, o, none⟩ → g = b ∨ w.heap.size ≤ g) → xs.length ≤ cap' → cap' ≤ maxLen → Below w.heap.size w w' → wpList Try.prog ops Q rest (a.put o.dst (.slice A' xs.length cap')) w') : wpList Try.prog ops Q (o :: rest) a w :=
  wpList_plain hgd fun _ hK => wp_append_any s x ho b hs A B c xs hx hr hlen fun A' cap' w' h1 h2 h3 h4 h5 => hK _ _ (h A' cap' w' h1 h2 h3 h4 h5)

def writeB (ver : Int) (xs : List Int) (a word : Int) : Bool := slotB ver xs && (inB word 0 999999 && (decide (0 ≤ a) && (decide (a < (xs.length : Int)) && writtenB ver)))
def readB (va : Int) (xa : List Int) (ws : List Int) (vb : Int) (xb : List Int) : Bool := slotB va xa && (slotB vb xb && (wordsB ws && (va == vb && !writtenB va)))
theorem wordsB_cases {xs : List Int} (h : wordsB xs = true) : 1 ≤ xs.length ∧ xs.length ≤ 6 := by
  unfold wordsB inB at h
  simp at h
  omega

/-- What the head of a region leaves that copies a slot: its box is D. -/
def VCp (D : Nat) (ver : Int) (A : Option Addr) (xs : List Int) (cap Z : Nat) (i : Nat) (v : Value) (w : World) : Prop := match i with
  | 0 => v = .pointer (some ⟨D, 0, none⟩)
  | 1 => v = .int .i64 ver
  | 2 => ∃ b, v = .slice (some ⟨b, 0, none⟩) 0 0 ∧ Z ≤ b
  | 3 => v = .pointer (some ⟨D, 1, none⟩)
  | 4 => v = .slice A xs.length cap
  | 5 => ∃ A' cap', v = .slice A' xs.length cap' ∧ RowE w A' xs ∧ (∀ g o, A' = some ⟨g, o, none⟩ → Z ≤ g) ∧ xs.length ≤ cap' ∧ cap' ≤ maxLen
  | 6 => ∃ A' cap', v = .agg #[.int .i64 ver, .slice A' xs.length cap'] ∧ RowE w A' xs ∧ (∀ g o, A' = some ⟨g, o, none⟩ → Z ≤ g) ∧ xs.length ≤ cap' ∧ cap' ≤ maxLen
  | 7 => ∃ b, v = .pointer (some ⟨b, 0, none⟩) ∧ Z ≤ b ∧ Blk w b 26 #[.int .i64 0, .slice none 0 0]
  | _ => True
theorem VCp_keep {D : Nat} {ver : Int} {A : Option Addr} {xs : List Int} {cap Z : Nat} : ∀ (i : Nat) (v : Value) (w w' : World), Below w.heap.size w w' → VCp D ver A xs cap Z i v w → VCp D ver A xs cap Z i v w'
  | 0, _, _, _, _, h => h
  | 1, _, _, _, _, h => h
  | 2, _, _, _, _, h => h
  | 3, _, _, _, _, h => h
  | 4, _, _, _, _, h => h
  | 5, _, _, _, hb, ⟨A', c', e, h, h2⟩ => ⟨A', c', e, h.mem hb, h2⟩
  | 6, _, _, _, hb, ⟨A', c', e, h, h2⟩ => ⟨A', c', e, h.mem hb, h2⟩
  | 7, _, _, _, hb, ⟨b, e, hn, h⟩ => ⟨b, e, hn, h.below hb h.lt⟩
  | _ + 8, _, _, _, _, h => h

set_option maxRecDepth 100000 in
set_option maxHeartbeats 8000000 in
theorem specWrite (ver at_ word : Int) (A : Option Addr) (xs : List Int) (cap : Nat) (w : World) (hp : IntRow w w.heap.size A xs) (hl : xs.length ≤ cap) (hm : cap ≤ 9223372036854775807) :
    Calls Try.prog 14 #[.agg #[.int .i64 ver, .slice A xs.length cap], .int .i64 at_, .int .i64 word] w (SpecRes (writeB ver xs at_ word) ver (xs.set at_.toNat word) w) := by
  have P0 := (hp.alloc (.cells #[.int .i64 ver, .slice A xs.length cap] 26)).alloc (.cells #[.int .i64 0, .slice none 0 0] 26)
  have X0 := (Blk.new w 26 #[.int .i64 ver, .slice A xs.length cap] rfl).alloc (.cells #[.int .i64 0, .slice none 0 0] 26)
  have X1 := Blk.new (b := w.heap.size + 1) (w.alloc (.cells #[.int .i64 ver, .slice A xs.length cap] 26)) 26 #[.int .i64 0, .slice none 0 0] (by simp)
  have L0 : Below w.heap.size w ((w.alloc (.cells #[.int .i64 ver, .slice A xs.length cap] 26)).alloc (.cells #[.int .i64 0, .slice none 0 0] 26)) := Fr.alloc2 (Below.refl _ _) _ _
  go_enter Try.func14, Try.ntmps14
  go_wp2_with fail
  obtain ⟨u, hu⟩ : ∃ u, u = (w.alloc (.cells #[.int .i64 ver, .slice A xs.length cap] 26)).alloc (.cells #[.int .i64 0, .slice none 0 0] 26) := ⟨_, rfl⟩
  rw [← hu] at P0 X0 X1 L0 ⊢
  clear hu hp
  obtain ⟨N, hN⟩ : ∃ N, N = w.heap.size := ⟨_, rfl⟩
  rw [← hN] at X0 X1 L0 ⊢
  have HN := Lib.hid hN
  clear hN
  refine (slotSpec ver A xs cap u P0 hl hm).mono ?_
  rintro e w1 ⟨rfl, hb⟩
  have P1 := P0.mem hb
  have X2 := X0.below hb X0.lt
  have X3 := X1.below hb X1.lt
  have L1 : Below N w w1 := L0.trans (hb.mono (by have := X1.lt; omega))
  clear P0 X0 X1 L0 hb
  clear u
  have c0 := X2.cells 0
  have c1 := X2.cells 1
  have d0 := X3.cells 0
  have d1 := X3.cells 1
  have df := X3.free
  simp at c0 c1 d0 d1
  cases h1 : slotB ver xs
  · have H := Lib.hid (show writeB ver xs at_ word = false by unfold writeB; rw [h1]; rfl)
    clear h1
    go_wp2_with fail
    refine bodyPost_ret (by simp [results, Try.results14, go_sem, d0, d1]; try rfl) rfl ?_
    rw [H.out]
    exact ⟨_, none, 0, rfl, by rw [← HN.out]; exact Below.setCell (Below.setCell L1 (by simp) _) (by simp) _, fun h => (by cases h), fun _ => rfl⟩
  obtain ⟨⟨v0, v1⟩, n1, n6⟩ := slotB_cases h1
  have hwl : IntKind.i64.wrap ((xs.length : Int) - 1) = (xs.length : Int) - 1 := IntWalk.i64_in _ (by omega)
  cases h2 : writtenB ver
  · have hw : (ver % 2 == 0) = true := by rw [even_of v0, h2]; rfl
    have H := Lib.hid (show writeB ver xs at_ word = false by unfold writeB; rw [h1, h2]; simp)
    clear h1 h2
    go_wp2_with fail
    refine bodyPost_ret (by simp [results, Try.results14, go_sem, d0, d1]; try rfl) rfl ?_
    rw [H.out]
    exact ⟨_, none, 0, rfl, by rw [← HN.out]; exact Below.setCell (Below.setCell L1 (by simp) _) (by simp) _, fun h => (by cases h), fun _ => rfl⟩
  have hw : (ver % 2 == 0) = false := by rw [even_of v0, h2]; rfl
  cases ha : inB at_ 0 ((xs.length : Int) - 1)
  · have H := Lib.hid (show writeB ver xs at_ word = false by
      unfold writeB
      rw [h1, h2]
      have : ¬ (0 ≤ at_ ∧ at_ < (xs.length : Int)) := fun h => by
        have := (inB_iff).2 (show 0 ≤ at_ ∧ at_ ≤ (xs.length : Int) - 1 by omega)
        rw [this] at ha; cases ha
      simp
      omega)
    have HA := Lib.hid ha
    have HD := HA
    clear h1 h2 ha
    go_wp2_with (first | (go_at_call 39; refine (l6In_any _ _ _ _).mono ?_; rintro e w' ⟨rfl, rfl⟩; first | rw [HA.out] | rw [HD.out]))
    refine bodyPost_ret (by simp [results, Try.results14, go_sem, d0, d1]; try rfl) rfl ?_
    rw [H.out]
    exact ⟨_, none, 0, rfl, by rw [← HN.out]; exact Below.setCell (Below.setCell L1 (by simp) _) (by simp) _, fun h => (by cases h), fun _ => rfl⟩
  have hin := (inB_iff).1 ha
  cases hd : inB word 0 999999
  · have H := Lib.hid (show writeB ver xs at_ word = false by unfold writeB; rw [h1, h2, hd]; simp)
    have HA := Lib.hid ha
    have HD := Lib.hid hd
    clear h1 h2 ha hd hin
    go_wp2_with (first | (go_at_call 39; refine (l6In_any _ _ _ _).mono ?_; rintro e w' ⟨rfl, rfl⟩; first | rw [HA.out] | rw [HD.out]))
    refine bodyPost_ret (by simp [results, Try.results14, go_sem, d0, d1]; try rfl) rfl ?_
    rw [H.out]
    exact ⟨_, none, 0, rfl, by rw [← HN.out]; exact Below.setCell (Below.setCell L1 (by simp) _) (by simp) _, fun h => (by cases h), fun _ => rfl⟩
  have H := Lib.hid (show writeB ver xs at_ word = true by
    unfold writeB
    rw [h1, h2, hd]
    simp
    omega)
  have HA := Lib.hid ha
  have HD := Lib.hid hd
  clear h1 h2 ha hd
  go_wp2_with (first | (go_at_call 39; refine (l6In_any _ _ _ _).mono ?_; rintro e w' ⟨rfl, rfl⟩; first | rw [HA.out] | rw [HD.out]))
  obtain ⟨k, rfl⟩ : ∃ k : Nat, at_ = (k : Int) := ⟨at_.toNat, by omega⟩
  have hk : k < xs.length := by omega
  rw [show (k : Int).toNat = k from rfl]
  have BX := Lib.hid X2
  have BZ := Lib.hid X3
  have PP := Lib.hid P1
  have H6 := Lib.hid n6
  have HL := Lib.hid L1
  have HK1 := Lib.hid hk
  clear c0 c1 d0 d1 df hwl hw hin n1 v0 v1 hl hm P1 L1 HA HD X2 X3 n6 hk
  go_upto_region 3 with fail
  refine wp_region_facts 8 [33, 34, 35, 36, 37, 38, 39, 8] (VCp N ver A xs cap (N + 2)) (fun _ W => Below w1.heap.size w1 W) (fun w w' => Below w.heap.size w w') (by kernel_rfl) (by kernel_rfl) (by rfl) ?hI VCp_keep ?hob ?hend
  case hI => exact (Below.refl _ _).drew
  case hob =>
    simp only [List.take_succ_cons, List.take_zero, Obs, and_true]
    refine ⟨?_, ?_, ?_, ?_, ?_, ?_, ?_, ?_⟩
    · intro k' x W hkn hI hd K hK0
      have hK := hK0.out
      simp only [setAll, Act.put, List.foldl_cons, List.foldl_nil, List.setIfInBounds_toArray, List.set_cons_succ, List.set_cons_zero] at hK ⊢
      have HK := Lib.hid hK
      clear hK hK0
      rw [if_pos (by rfl)]
      clear hd
      go_simp
      exact HK.out _ _ hI (Below.refl _ _) ⟨rfl, fun h => by cases h⟩
    · intro k' x W hkn hI hd K hK0
      have hK := hK0.out
      simp only [setAll, Act.put, List.foldl_cons, List.foldl_nil, List.setIfInBounds_toArray, List.set_cons_succ, List.set_cons_zero] at hK ⊢
      have HK := Lib.hid hK
      clear hK hK0
      rw [if_pos (by rfl)]
      obtain e : x 33 = .pointer (some ⟨N, 0, none⟩) := hd 0 _ rfl (by kernel_rfl)
      rw [e] at HK ⊢
      clear e
      clear hd
      have cx0 := (BX.out.below hI BX.out.lt).cells 0
      have cx1 := (BX.out.below hI BX.out.lt).cells 1
      simp at cx0 cx1
      go_simp
      exact HK.out _ _ hI (Below.refl _ _) ⟨rfl, fun h => by cases h⟩
    · intro k' x W hkn hI hd K hK0
      have hK := hK0.out
      simp only [setAll, Act.put, List.foldl_cons, List.foldl_nil, List.setIfInBounds_toArray, List.set_cons_succ, List.set_cons_zero] at hK ⊢
      have HK := Lib.hid hK
      clear hK hK0
      rw [if_pos (by rfl)]
      clear hd
      go_simp
      exact HK.out _ _ (Fr.alloc hI _) (Fr.alloc (Below.refl _ _) _) ⟨⟨_, rfl, by have := hI.size; have := BZ.out.lt; omega⟩, fun h => by cases h⟩
    · intro k' x W hkn hI hd K hK0
      have hK := hK0.out
      simp only [setAll, Act.put, List.foldl_cons, List.foldl_nil, List.setIfInBounds_toArray, List.set_cons_succ, List.set_cons_zero] at hK ⊢
      have HK := Lib.hid hK
      clear hK hK0
      rw [if_pos (by rfl)]
      clear hd
      go_simp
      exact HK.out _ _ hI (Below.refl _ _) ⟨rfl, fun h => by cases h⟩
    · intro k' x W hkn hI hd K hK0
      have hK := hK0.out
      simp only [setAll, Act.put, List.foldl_cons, List.foldl_nil, List.setIfInBounds_toArray, List.set_cons_succ, List.set_cons_zero] at hK ⊢
      have HK := Lib.hid hK
      clear hK hK0
      rw [if_pos (by rfl)]
      obtain e : x 36 = .pointer (some ⟨N, 1, none⟩) := hd 3 _ rfl (by kernel_rfl)
      rw [e] at HK ⊢
      clear e
      clear hd
      have cx0 := (BX.out.below hI BX.out.lt).cells 0
      have cx1 := (BX.out.below hI BX.out.lt).cells 1
      simp at cx0 cx1
      go_simp
      exact HK.out _ _ hI (Below.refl _ _) ⟨rfl, fun h => by cases h⟩
    · intro k' x W hkn hI hd K hK0
      have hK := hK0.out
      simp only [setAll, Act.put, List.foldl_cons, List.foldl_nil, List.setIfInBounds_toArray, List.set_cons_succ, List.set_cons_zero] at hK ⊢
      have HK := Lib.hid hK
      clear hK hK0
      rw [if_pos (by rfl)]
      obtain ⟨b, e, hbz⟩ : ∃ b, x 35 = .slice (some ⟨b, 0, none⟩) 0 0 ∧ (N + 2) ≤ b := hd 2 _ rfl (by kernel_rfl)
      rw [e] at HK ⊢
      clear e
      obtain e : x 37 = .slice A xs.length cap := hd 4 _ rfl (by kernel_rfl)
      rw [e] at HK ⊢
      clear e
      clear hd
      refine wp_append_any _ _ rfl b rfl A W.heap.size cap xs rfl (PP.out.mem hI) (by have := H6.out; omega) fun A' c' w' h1 h5 h2 h3 h4 => HK.out _ _ (Fr.step hI h4) h4 ⟨⟨A', c', rfl, h1, fun g o e => (h5 g o e).elim (fun h => by omega) (fun h => by have := hI.size; have := BZ.out.lt; omega), h2, h3⟩, fun h => by cases h⟩
    · intro k' x W hkn hI hd K hK0
      have hK := hK0.out
      simp only [setAll, Act.put, List.foldl_cons, List.foldl_nil, List.setIfInBounds_toArray, List.set_cons_succ, List.set_cons_zero] at hK ⊢
      have HK := Lib.hid hK
      clear hK hK0
      rw [if_pos (by rfl)]
      obtain e : x 34 = .int .i64 ver := hd 1 _ rfl (by kernel_rfl)
      rw [e] at HK ⊢
      clear e
      obtain ⟨A', c', e, r6, h6⟩ : ∃ A' cap', x 38 = .slice A' xs.length cap' ∧ RowE W A' xs ∧ (∀ g o, A' = some ⟨g, o, none⟩ → (N + 2) ≤ g) ∧ xs.length ≤ cap' ∧ cap' ≤ maxLen := hd 5 _ rfl (by kernel_rfl)
      rw [e] at HK ⊢
      clear e
      clear hd
      go_simp
      exact HK.out _ _ hI (Below.refl _ _) ⟨⟨A', c', rfl, r6, h6⟩, fun h => by cases h⟩
    · intro k' x W hkn hI hd K hK0
      have hK := hK0.out
      simp only [setAll, Act.put, List.foldl_cons, List.foldl_nil, List.setIfInBounds_toArray, List.set_cons_succ, List.set_cons_zero] at hK ⊢
      have HK := Lib.hid hK
      clear hK hK0
      rw [if_pos (by rfl)]
      clear hd
      go_simp
      exact HK.out _ _ (Fr.alloc hI _) (Fr.alloc (Below.refl _ _) _) ⟨⟨W.heap.size, rfl, by have := hI.size; have := BZ.out.lt; omega, Blk.new _ _ _ rfl⟩, fun h => by cases h⟩
  case hend =>
    intro x W hI hV
    obtain ⟨A', c', e6, r7, hA7, h7⟩ : ∃ A' cap', x 39 = .agg #[.int .i64 ver, .slice A' xs.length cap'] ∧ RowE W A' xs ∧ (∀ g o, A' = some ⟨g, o, none⟩ → (N + 2) ≤ g) ∧ xs.length ≤ cap' ∧ cap' ≤ maxLen := hV 6 _ (by omega) rfl
    obtain ⟨b, e7, hb, hB⟩ : ∃ b, x 8 = .pointer (some ⟨b, 0, none⟩) ∧ (N + 2) ≤ b ∧ Blk W b 26 #[.int .i64 0, .slice none 0 0] := hV 7 _ (by omega) rfl
    clear hV
    simp only [setAll, Act.put, List.foldl_cons, List.foldl_nil, List.setIfInBounds_toArray, List.set_cons_succ, List.set_cons_zero, List.drop_succ_cons, List.drop_zero]
    rw [e6, e7]
    clear e6 e7
    have cb0 := hB.cells 0
    have cb1 := hB.cells 1
    have fb := hB.free
    simp at cb0 cb1
    go_wp2_with fail
    have hk := HK1.out
    obtain ⟨g, C, rfl, hG, hC⟩ := r7.resolve_left (fun e => by rw [e] at hk; simp at hk)
    have uW : Blk W (N + 1) 26 #[.int .i64 0, .slice none 0 0] := BZ.out.below hI BZ.out.lt
    have hgb : g ≠ b := fun e => by
      subst e
      have : (some (Obj.cells C 3) : Option Obj) = some (.cells _ 26) := hG.symm.trans hB
      simp at this
    have hgn : g ≠ N + 1 := fun e => by
      subst e
      have : (some (Obj.cells C 3) : Option Obj) = some (.cells _ 26) := hG.symm.trans uW
      simp at this
    obtain ⟨W2, hW2⟩ : ∃ W2, W2 = (W.setCell ⟨b, 0, none⟩ (.int .i64 ver)).setCell ⟨b, 1, none⟩ (.slice (some ⟨g, 0, none⟩) xs.length c') := ⟨_, rfl⟩
    rw [← hW2]
    have gW2 : Blk W2 g 3 C := by rw [hW2]; exact (hG.far (by simpa using hgb) _).far (by simpa using hgb) _
    have bW2 : Blk W2 b 26 #[.int .i64 ver, .slice (some ⟨g, 0, none⟩) xs.length c'] := by rw [hW2]; exact (hB.set_ 0 _).set_ 1 _
    have nW2 : Blk W2 (N + 1) 26 #[.int .i64 0, .slice none 0 0] := by rw [hW2]; exact (uW.far (by simp; omega) _).far (by simp; omega) _
    have L2 : Below N w W2 := by
      rw [hW2]
      have : Below N w W := HL.out.trans (hI.mono (by have := BZ.out.lt; omega))
      exact Below.setCell (Below.setCell this (by simp; omega) _) (by simp; omega) _
    have L3 := Lib.hid L2
    have h71 := h7.1
    have h72 := h7.2
    unfold maxLen at h72
    have h73 : c' ≤ 9223372036854775807 := by omega
    have h74 : xs.length ≤ 9223372036854775807 := by omega
    have gN : N + 2 ≤ g := hA7 g 0 rfl
    have c0 := bW2.cells 0
    have c1 := bW2.cells 1
    have d0 := nW2.cells 0
    have d1 := nW2.cells 1
    have df := nW2.free
    have gf := gW2.free
    have hkC : k < C.size := by
      have := hC k xs[k] (List.getElem?_eq_getElem hk)
      exact (Array.getElem?_eq_some_iff.1 this).1
    obtain ⟨y, hy⟩ : ∃ y, W2.cell? ⟨g, k, none⟩ = some y := by rw [gW2.cells]; exact ⟨_, Array.getElem?_eq_getElem hkC⟩
    simp at c0 c1 d0 d1
    have i0 : (0 : Int) ≤ (k : Int) := by omega
    have i1 : (k : Int) < (xs.length : Int) := by omega
    have m1 : N + 1 ≠ b := by omega
    have HB := Lib.hid (And.intro hgb (And.intro hgn (And.intro hb gN)))
    have HG := Lib.hid (And.intro gW2 (And.intro bW2 nW2))
    have HC := Lib.hid hC
    clear hW2 hB fb cb0 cb1 uW hG hC hI r7 hA7 h7 L2 hkC gN BX BZ PP H6 HL
    go_wp2_with fail
    rw [run_indexAt_slice (h := Try.underlying22), if_pos ⟨i0, i1⟩]
    go_simp
    go_wp2_with fail
    obtain ⟨q1, q2, q3, q4⟩ := HB.out
    obtain ⟨gW2, bW2, nW2⟩ := HG.out
    have hput := Row1.put (x := word) gW2 HC.out hk
    have nP : Blk (W2.setCell ⟨g, k, none⟩ (.int .i64 word)) (N + 1) 26 #[.int .i64 0, .slice none 0 0] := nW2.far (by simp; omega) _
    have nQ := nP
    have e0 := (nP.set_ 0 (.int .i64 ver)).set_ 1 (.slice (some ⟨g, 0, none⟩) xs.length c') |>.cells
    have e00 := e0 0
    have e01 := e0 1
    simp at e00 e01
    clear e0
    refine bodyPost_ret (by simp [results, Try.results14, go_sem, d0, d1]; try rfl) rfl ?_
    rw [H.out]
    exact ⟨_, some ⟨g, 0, none⟩, c', rfl, by rw [← HN.out]; exact Below.setCell (Below.setCell (Below.setCell L3.out (by simp; omega) _) (by simp) _) (by simp) _, fun _ => ⟨by simp, (hput.set nP _).set (nP.set_ 0 _) _, by simpa using h71, h72⟩, fun h => (by cases h)⟩

/-- What a reading of a slot hands back, in the reference. -/
def SpecResR (b : Bool) (ws : List Int) (w : World) (e : Ending) (w' : World) : Prop :=
  ∃ v A cap, e = .returned (.tuple #[v, .bool b]) ∧ Below w.heap.size w w' ∧ (b = true → v = .slice A ws.length cap ∧ Row1 w' A ws ∧ ws.length ≤ cap ∧ cap ≤ 9223372036854775807) ∧ (b = false → ∃ g, v = .slice (some ⟨g, 0, none⟩) 0 0)

set_option maxRecDepth 100000 in
set_option maxHeartbeats 8000000 in
theorem specRead (va vb : Int) (A B C : Option Addr) (xa ws xb : List Int) (capa capw capb : Nat) (w : World) (hp : IntRow w w.heap.size A xa) (hq : IntRow w w.heap.size B xb) (hr : IntRow w w.heap.size C ws) (la : xa.length ≤ capa) (ma : capa ≤ 9223372036854775807) (lb : xb.length ≤ capb) (mb : capb ≤ 9223372036854775807) (lw : ws.length ≤ capw) (mw : capw ≤ 9223372036854775807) :
    Calls Try.prog 31 #[.agg #[.int .i64 va, .slice A xa.length capa], .slice C ws.length capw, .agg #[.int .i64 vb, .slice B xb.length capb]] w (SpecResR (readB va xa ws vb xb) ws w) := by
  have p2 := (hp.alloc (.cells #[.int .i64 va, .slice A xa.length capa] 26)).alloc (.cells #[.int .i64 vb, .slice B xb.length capb] 26)
  have q2 := (hq.alloc (.cells #[.int .i64 va, .slice A xa.length capa] 26)).alloc (.cells #[.int .i64 vb, .slice B xb.length capb] 26)
  have r2 := (hr.alloc (.cells #[.int .i64 va, .slice A xa.length capa] 26)).alloc (.cells #[.int .i64 vb, .slice B xb.length capb] 26)
  have X0 := (Blk.new w 26 #[.int .i64 va, .slice A xa.length capa] rfl).alloc (.cells #[.int .i64 vb, .slice B xb.length capb] 26)
  have X1 := Blk.new (b := w.heap.size + 1) (w.alloc (.cells #[.int .i64 va, .slice A xa.length capa] 26)) 26 #[.int .i64 vb, .slice B xb.length capb] (by simp)
  have L0 : Below w.heap.size w ((w.alloc (.cells #[.int .i64 va, .slice A xa.length capa] 26)).alloc (.cells #[.int .i64 vb, .slice B xb.length capb] 26)) := Fr.alloc2 (Below.refl _ _) _ _
  go_enter Try.func31, Try.ntmps31
  go_wp2_with fail
  obtain ⟨u, hu⟩ : ∃ u, u = (w.alloc (.cells #[.int .i64 va, .slice A xa.length capa] 26)).alloc (.cells #[.int .i64 vb, .slice B xb.length capb] 26) := ⟨_, rfl⟩
  rw [← hu] at p2 q2 r2 X0 X1 L0 ⊢
  clear hu hp hq hr
  obtain ⟨N, hN⟩ : ∃ N, N = w.heap.size := ⟨_, rfl⟩
  rw [← hN] at X0 X1 ⊢
  have HN := Lib.hid hN
  clear hN
  have c1 := X0.cells 0
  have c2 := X0.cells 1
  have c3 := X1.cells 0
  have c4 := X1.cells 1
  simp at c1 c2 c3 c4
  have s1 : N + 1 ≤ u.heap.size := X0.lt
  have s2 : N + 1 + 1 ≤ u.heap.size := X1.lt
  have s3 : N < u.heap.size := X0.lt
  have s4 : N + 1 < u.heap.size := X1.lt
  cases h1 : slotB va xa
  · have H := Lib.hid (show readB va xa ws vb xb = false by unfold readB; rw [h1]; rfl)
    have H1 := Lib.hid h1
    clear h1
    go_wp2_with (first | (go_at_call 38; with_reducible refine (slotSpec va A xa capa _ p2 la ma).mono ?_; rintro e w' ⟨rfl, hb⟩; obtain ⟨dl, dk, rfl⟩ := more_of hb; clear hb; rw [H1.out]) | (go_at_call 38; with_reducible refine (slotSpec vb B xb capb _ (q2.mem more_below) lb mb).mono ?_; rintro e w' ⟨rfl, hb⟩; obtain ⟨dl2, dk2, rfl⟩ := more_of hb; clear hb; rw [H2.out]) | (go_at_call 48; with_reducible refine (wordsSpec C ws capw _ (r2.mem more_below) lw mw).mono ?_; rintro e w' ⟨rfl, rfl⟩; rw [H3.out]))
    refine bodyPost_ret (by simp [results, Try.results31, go_sem]; try rfl) rfl ?_
    rw [H.out]
    refine ⟨_, none, 0, rfl, ?_, fun h => (by cases h), fun _ => ⟨_, rfl⟩⟩
    repeat' (first | (with_reducible exact L0) | (with_reducible exact Below.refl _ _) | (with_reducible refine Fr.more ?_ _ _) | (with_reducible refine Fr.alloc ?_ _) | (simp; done) | (simp; omega))
  obtain ⟨⟨v0, v1⟩, -, -⟩ := slotB_cases h1
  cases h2 : slotB vb xb
  · have H := Lib.hid (show readB va xa ws vb xb = false by unfold readB; rw [h1, h2]; rfl)
    have H1 := Lib.hid h1
    have H2 := Lib.hid h2
    clear h1 h2
    go_wp2_with (first | (go_at_call 38; with_reducible refine (slotSpec va A xa capa _ p2 la ma).mono ?_; rintro e w' ⟨rfl, hb⟩; obtain ⟨dl, dk, rfl⟩ := more_of hb; clear hb; rw [H1.out]) | (go_at_call 38; with_reducible refine (slotSpec vb B xb capb _ (q2.mem more_below) lb mb).mono ?_; rintro e w' ⟨rfl, hb⟩; obtain ⟨dl2, dk2, rfl⟩ := more_of hb; clear hb; rw [H2.out]) | (go_at_call 48; with_reducible refine (wordsSpec C ws capw _ (r2.mem more_below) lw mw).mono ?_; rintro e w' ⟨rfl, rfl⟩; rw [H3.out]))
    refine bodyPost_ret (by simp [results, Try.results31, go_sem]; try rfl) rfl ?_
    rw [H.out]
    refine ⟨_, none, 0, rfl, ?_, fun h => (by cases h), fun _ => ⟨_, rfl⟩⟩
    repeat' (first | (with_reducible exact L0) | (with_reducible exact Below.refl _ _) | (with_reducible refine Fr.more ?_ _ _) | (with_reducible refine Fr.alloc ?_ _) | (simp; done) | (simp; omega))
  cases h3 : wordsB ws
  · have H := Lib.hid (show readB va xa ws vb xb = false by unfold readB; rw [h1, h2, h3]; rfl)
    have H1 := Lib.hid h1
    have H2 := Lib.hid h2
    have H3 := Lib.hid h3
    clear h1 h2 h3
    go_wp2_with (first | (go_at_call 38; with_reducible refine (slotSpec va A xa capa _ p2 la ma).mono ?_; rintro e w' ⟨rfl, hb⟩; obtain ⟨dl, dk, rfl⟩ := more_of hb; clear hb; rw [H1.out]) | (go_at_call 38; with_reducible refine (slotSpec vb B xb capb _ (q2.mem more_below) lb mb).mono ?_; rintro e w' ⟨rfl, hb⟩; obtain ⟨dl2, dk2, rfl⟩ := more_of hb; clear hb; rw [H2.out]) | (go_at_call 48; with_reducible refine (wordsSpec C ws capw _ (r2.mem more_below) lw mw).mono ?_; rintro e w' ⟨rfl, rfl⟩; rw [H3.out]))
    refine bodyPost_ret (by simp [results, Try.results31, go_sem]; try rfl) rfl ?_
    rw [H.out]
    refine ⟨_, none, 0, rfl, ?_, fun h => (by cases h), fun _ => ⟨_, rfl⟩⟩
    repeat' (first | (with_reducible exact L0) | (with_reducible exact Below.refl _ _) | (with_reducible refine Fr.more ?_ _ _) | (with_reducible refine Fr.alloc ?_ _) | (simp; done) | (simp; omega))
  obtain ⟨n1, n6⟩ := wordsB_cases h3
  by_cases hvv : ¬ va = vb
  · have hne : (va == vb) = false := by simpa using hvv
    have H := Lib.hid (show readB va xa ws vb xb = false by unfold readB; rw [h1, h2, h3, hne]; rfl)
    have H1 := Lib.hid h1
    have H2 := Lib.hid h2
    have H3 := Lib.hid h3
    clear h1 h2 h3
    go_wp2_with (first | (go_at_call 38; with_reducible refine (slotSpec va A xa capa _ p2 la ma).mono ?_; rintro e w' ⟨rfl, hb⟩; obtain ⟨dl, dk, rfl⟩ := more_of hb; clear hb; rw [H1.out]) | (go_at_call 38; with_reducible refine (slotSpec vb B xb capb _ (q2.mem more_below) lb mb).mono ?_; rintro e w' ⟨rfl, hb⟩; obtain ⟨dl2, dk2, rfl⟩ := more_of hb; clear hb; rw [H2.out]) | (go_at_call 48; with_reducible refine (wordsSpec C ws capw _ (r2.mem more_below) lw mw).mono ?_; rintro e w' ⟨rfl, rfl⟩; rw [H3.out]))
    refine bodyPost_ret (by simp [results, Try.results31, go_sem]; try rfl) rfl ?_
    rw [H.out]
    refine ⟨_, none, 0, rfl, ?_, fun h => (by cases h), fun _ => ⟨_, rfl⟩⟩
    repeat' (first | (with_reducible exact L0) | (with_reducible exact Below.refl _ _) | (with_reducible refine Fr.more ?_ _ _) | (with_reducible refine Fr.alloc ?_ _) | (simp; done) | (simp; omega))
  obtain rfl : va = vb := Decidable.not_not.1 hvv
  clear hvv
  have H1 := Lib.hid h1
  have H2 := Lib.hid h2
  have H3 := Lib.hid h3
  clear h1 h2 h3
  by_cases h4 : writtenB va = true
  · have H := Lib.hid (show readB va xa ws va xb = false by unfold readB; rw [H1.out, H2.out, H3.out, h4]; simp)
    have hw : (va % 2 == 1) = true := by rw [odd_of v0, h4]
    clear h4
    go_wp2_with (first | (go_at_call 38; with_reducible refine (slotSpec va A xa capa _ p2 la ma).mono ?_; rintro e w' ⟨rfl, hb⟩; obtain ⟨dl, dk, rfl⟩ := more_of hb; clear hb; rw [H1.out]) | (go_at_call 38; with_reducible refine (slotSpec va B xb capb _ (q2.mem more_below) lb mb).mono ?_; rintro e w' ⟨rfl, hb⟩; obtain ⟨dl2, dk2, rfl⟩ := more_of hb; clear hb; rw [H2.out]) | (go_at_call 48; with_reducible refine (wordsSpec C ws capw _ (r2.mem more_below) lw mw).mono ?_; rintro e w' ⟨rfl, rfl⟩; rw [H3.out]))
    refine bodyPost_ret (by simp [results, Try.results31, go_sem]; try rfl) rfl ?_
    rw [H.out]
    refine ⟨_, none, 0, rfl, ?_, fun h => (by cases h), fun _ => ⟨_, rfl⟩⟩
    repeat' (first | (with_reducible exact L0) | (with_reducible exact Below.refl _ _) | (with_reducible refine Fr.more ?_ _ _) | (with_reducible refine Fr.alloc ?_ _) | (simp; done) | (simp; omega))
  replace h4 : writtenB va = false := by simpa using h4
  have H := Lib.hid (show readB va xa ws va xb = true by unfold readB; rw [H1.out, H2.out, H3.out, h4]; simp)
  have hw : (va % 2 == 1) = false := by rw [odd_of v0, h4]
  clear h4
  go_upto_region 3 with (first | (go_at_call 38; with_reducible refine (slotSpec va A xa capa _ p2 la ma).mono ?_; rintro e w' ⟨rfl, hb⟩; obtain ⟨dl, dk, rfl⟩ := more_of hb; clear hb; rw [H1.out]) | (go_at_call 38; with_reducible refine (slotSpec va B xb capb _ (q2.mem more_below) lb mb).mono ?_; rintro e w' ⟨rfl, hb⟩; obtain ⟨dl2, dk2, rfl⟩ := more_of hb; clear hb; rw [H2.out]) | (go_at_call 48; with_reducible refine (wordsSpec C ws capw _ (r2.mem more_below) lw mw).mono ?_; rintro e w' ⟨rfl, rfl⟩; rw [H3.out]))
  obtain ⟨W, hW⟩ : ∃ W, W = more u (dl ++ dl2) dk2 := ⟨_, rfl⟩
  rw [← hW]
  have rW : IntRow W W.heap.size C ws := by rw [hW]; exact r2.mem more_below
  have LW : Below N w W := by rw [hW, HN.out]; exact Fr.more L0 _ _
  clear hW p2 q2 r2 X0 X1 L0 c1 c2 c3 c4 s1 s2 s3 s4 H1 H2 H3 la ma lb mb hw v0 v1 dl dl2 dk dk2
  clear u
  go_wp2_with (at_builtin; refine wpList_append_any rfl (.tmp 35) (.tmp 36) rfl W.heap.size rfl C _ capw ws rfl (rW.alloc (.cells #[] 3)) (by omega) ?_; intro A' c' w' h1 h5 h2 h3 h4)
  refine bodyPost_ret (by simp [results, Try.results31, go_sem]; try rfl) rfl ?_
  rw [H.out]
  unfold maxLen at h3
  exact ⟨_, A', c', rfl, by rw [← HN.out]; exact Below.trans LW ((Fr.step (Fr.alloc (Below.refl _ _) _) h4).mono (by rw [HN.out]; have := LW.size; omega)), fun _ => ⟨rfl, h1.resolve_left (fun e => by rw [e] at n1; simp at n1), h2, by omega⟩, fun h => (by cases h)⟩

end Go.Proofs.Ytlcjepgmmbdkmaa
