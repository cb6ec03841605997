/-
  The reference's changes of a slot.
-/
import Derived.Test.YtlcjepgmmbdkmaaSlotCopy
import Derived.Test.YtlcjepgmmbdkmaaFacts
import Derived.Maps.AppendAt
namespace Go.Proofs.Ytlcjepgmmbdkmaa
open Go.RowKit
set_option linter.unusedSimpArgs false
set_option linter.unusedVariables false

/-- A row of its own, of numbers. -/
def Row1 (w : World) (A : Option Addr) (xs : List Int) : Prop := ∃ (g : Nat) (C : Array Value), A = some ⟨g, 0, none⟩ ∧ Blk w g 3 C ∧ ∀ (j : Nat) (x : Int), xs[j]? = some x → C[j]? = some (Value.int .i64 x)
theorem Row1.mem {w w' : World} {A : Option Addr} {xs : List Int} (h : Row1 w A xs) (hb : Below w.heap.size w w') : Row1 w' A xs := by
  obtain ⟨g, C, e, hB, hc⟩ := h
  exact ⟨g, C, e, hB.below hb hB.lt, hc⟩
theorem Row1.row {w : World} {A : Option Addr} {xs : List Int} (h : Row1 w A xs) : IntRow w w.heap.size A xs := by
  obtain ⟨g, C, rfl, hB, hc⟩ := h
  exact fun _ => ⟨g, 0, rfl, hB.lt, fun j x hj => by rw [hB.cells, Nat.zero_add]; exact hc j x hj⟩
theorem Row1.set {w : World} {A : Option Addr} {xs : List Int} (h : Row1 w A xs) {b i : Nat} {c : Array Value} (hb : Blk w b 26 c) (u : Value) : Row1 (w.setCell ⟨b, i, none⟩ u) A xs := by
  obtain ⟨g, C, e, hB, hc⟩ := h
  refine ⟨g, C, e, hB.far (fun hg => ?_) _, hc⟩
  have hg' : g = b := hg
  subst hg'
  have : (some (Obj.cells C 3) : Option Obj) = some (.cells c 26) := hB.symm.trans hb
  simp at this
theorem run_append_ints (w : World) (ty : TypeId) (i : TypeInfo) (hi : Try.prog.info? 3 = some i) (hz : i.zero = some (.int .i64 0)) (hsize : i.size = 1) (hby : i.bytes = 8) (b : Nat) (a : Addr) (c : Nat) (xs : List Int) (hr : ∀ j u, (xs.map iv)[j]? = some u → w.cell? (a.add j) = some u) (hpos : 0 < xs.length) (hlen : xs.length ≤ 1000) :
    ∃ A' cap' w', (Builtin.append_ #[22, 22] ty #[.slice (some ⟨b, 0, none⟩) 0 0, .slice (some a) xs.length c]).run Try.prog w = .ok (.slice A' xs.length cap') w' ∧ Row1 w' A' xs ∧ xs.length ≤ cap' ∧ cap' ≤ maxLen ∧ Below w.heap.size w w' := by
  have hl : (xs.map iv).length = xs.length * i.size := by rw [hsize]; simp
  have hrun := run_append_grow (P := Try.prog) w 22 ty 3 i _ Try.underlying22 hi hz ⟨b, 0, none⟩ 0 0 [] (by simp) (by simp) a xs.length c (xs.map iv) hl hr (by omega) (by omega) (growslice_fits (by omega) (by rw [hby]; omega))
  have hge := grownCap_ge w (0 + xs.length) 0 3
  rw [Nat.zero_add] at hrun hge
  refine ⟨_, _, _, hrun, ?_, hge, grownCap_le_maxLen w _ 0 3 (by unfold maxLen; omega), ⟨rfl, rfl, rfl, by simp, fun k hk => heap_alloc_old w.drew _ hk⟩⟩
  refine ⟨w.heap.size, _, rfl, Blk.new w.drew _ _ rfl, fun j x hj => ?_⟩
  have hj' : j < xs.length := (List.getElem?_eq_some_iff.1 hj).1
  rw [Array.getElem?_append_left (by simp; omega), Array.getElem?_append_right (by simp)]
  simp [hj, iv]

theorem wp_append_ints {w : World} {o : Oper} {a : Act} {K : Act → World → Prop} {Q : Exit → Act → World → Prop} (s x : Operand) (ho : o.op = .call { callee := .builtin .append, args := #[s, x], argTypes := #[22, 22] })
    (b : Nat) (hs : a.eval s = .slice (some ⟨b, 0, none⟩) 0 0) (A : Option Addr) (B : Nat) (c : Nat) (xs : List Int) (hx : a.eval x = .slice A xs.length c) (hr : IntRow w B A xs) (hpos : 0 < xs.length) (hlen : xs.length ≤ 1000)
    (h : ∀ A' cap' w', Row1 w' A' xs → xs.length ≤ cap' → cap' ≤ maxLen → Below w.heap.size w w' → K (a.put o.dst (.slice A' xs.length cap')) w') : Oper.wp Try.prog o a w K Q := by
  obtain ⟨i0, hi, hz0, hz1, hz2⟩ := ints_parts intInfo
  obtain ⟨b', off, rfl, _, hc⟩ := hr hpos
  obtain ⟨A', cap', w', hrun, h1, h2, h3, h4⟩ := run_append_ints w o.type i0 hi hz0 hz1 hz2 b ⟨b', off, none⟩ c xs (fun j u hu => by
    rw [List.getElem?_map] at hu
    obtain ⟨y, hy, rfl⟩ := Option.map_eq_some_iff.1 hu
    cases j with
    | zero => simpa [Addr.add, iv] using hc 0 y hy
    | succ j => simpa [Addr.add, iv] using hc (j + 1) y hy) hpos hlen
  unfold Oper.wp execOp
  simp only [ho, resolve, invoke, builtin, Sem.run_bind, Sem.run_pure, Result.andThen_ok, List.map_toArray, List.map_cons, List.map_nil, hs, hx, hrun]
  exact h A' cap' w' h1 h2 h3 h4

/-- What a change of a slot hands back, in the reference. -/
def SpecRes (B : Bool) (ver' : Int) (xs : List Int) (w : World) (e : Ending) (w' : World) : Prop :=
  ∃ v A cap, e = .returned (.tuple #[v, .bool B]) ∧ Below w.heap.size w w' ∧ (B = true → v = .agg #[.int .i64 ver', .slice A xs.length cap] ∧ Row1 w' A xs ∧ xs.length ≤ cap ∧ cap ≤ 9223372036854775807) ∧ (B = false → v = .agg #[.int .i64 0, .slice none 0 0])

/-- What the head of l5Next's region leaves. -/
def VNx (N : Nat) (ver : Int) (A : Option Addr) (xs : List Int) (cap : Nat) (i : Nat) (v : Value) (w : World) : Prop := match i with
  | 0 => v = .pointer (some ⟨N, 0, none⟩)
  | 1 => v = .int .i64 ver
  | 2 => v = .int .i64 (ver + 1)
  | 3 => ∃ b, v = .slice (some ⟨b, 0, none⟩) 0 0
  | 4 => v = .pointer (some ⟨N, 1, none⟩)
  | 5 => v = .slice A xs.length cap
  | 6 => ∃ A' cap', v = .slice A' xs.length cap' ∧ Row1 w A' xs ∧ xs.length ≤ cap' ∧ cap' ≤ maxLen
  | 7 => ∃ A' cap', v = .agg #[.int .i64 (ver + 1), .slice A' xs.length cap'] ∧ Row1 w A' xs ∧ xs.length ≤ cap' ∧ cap' ≤ maxLen
  | 8 => ∃ b, v = .pointer (some ⟨b, 0, none⟩) ∧ N + 1 < b ∧ Blk w b 26 #[.int .i64 0, .slice none 0 0]
  | _ => True
theorem VNx_keep {N : Nat} {ver : Int} {A : Option Addr} {xs : List Int} {cap : Nat} : ∀ (i : Nat) (v : Value) (w w' : World), Below w.heap.size w w' → VNx N ver A xs cap i v w → VNx N ver A xs cap i v w'
  | 0, _, _, _, _, h => h
  | 1, _, _, _, _, h => h
  | 2, _, _, _, _, h => h
  | 3, _, _, _, _, h => h
  | 4, _, _, _, _, h => h
  | 5, _, _, _, _, h => h
  | 6, _, _, _, hb, ⟨A', c', e, h, h2⟩ => ⟨A', c', e, h.mem hb, h2⟩
  | 7, _, _, _, hb, ⟨A', c', e, h, h2⟩ => ⟨A', c', e, h.mem hb, h2⟩
  | 8, _, _, _, hb, ⟨b, e, hn, h⟩ => ⟨b, e, hn, h.below hb h.lt⟩
  | _ + 9, _, _, _, _, h => h

set_option maxRecDepth 100000 in
set_option maxHeartbeats 4000000 in
theorem next_any (ver : Int) (A : Option Addr) (xs : List Int) (cap : Nat) (w : World) (hp : IntRow w w.heap.size A xs) (hl : xs.length ≤ cap) (hm : cap ≤ 9223372036854775807) (hv : 0 ≤ ver ∧ ver ≤ 999999) (hn : 1 ≤ xs.length ∧ xs.length ≤ 6) :
    Calls Try.prog 43 #[.agg #[.int .i64 ver, .slice A xs.length cap]] w (SpecRes (slotB (ver + 1) xs) (ver + 1) xs w) := by
  have hwr : IntKind.i64.wrap (ver + 1) = ver + 1 := IntWalk.i64_in _ (by omega)
  have P0 := (hp.alloc (.cells #[.int .i64 ver, .slice A xs.length cap] 26)).alloc (.cells #[.int .i64 0, .slice none 0 0] 26)
  have X0 := (Blk.new w 26 #[.int .i64 ver, .slice A xs.length cap] rfl).alloc (.cells #[.int .i64 0, .slice none 0 0] 26)
  have X1 := Blk.new (b := w.heap.size + 1) (w.alloc (.cells #[.int .i64 ver, .slice A xs.length cap] 26)) 26 #[.int .i64 0, .slice none 0 0] (by simp)
  have L0 : Below w.heap.size w ((w.alloc (.cells #[.int .i64 ver, .slice A xs.length cap] 26)).alloc (.cells #[.int .i64 0, .slice none 0 0] 26)) := Fr.alloc2 (Below.refl _ _) _ _
  go_enter Try.func43, Try.ntmps43
  go_wp2_with fail
  obtain ⟨u, hu⟩ : ∃ u, u = (w.alloc (.cells #[.int .i64 ver, .slice A xs.length cap] 26)).alloc (.cells #[.int .i64 0, .slice none 0 0] 26) := ⟨_, rfl⟩
  rw [← hu] at P0 X0 X1 L0 ⊢
  have zu : u.heap.size = w.heap.size + 2 := by rw [hu]; simp
  clear hu hp
  obtain ⟨N, hN⟩ : ∃ N, N = w.heap.size := ⟨_, rfl⟩
  rw [← hN] at X0 X1 zu L0 ⊢
  have B1 := Lib.hid X0
  have B2 := Lib.hid X1
  have PP := Lib.hid P0
  have HN := Lib.hid hN
  have HZ := Lib.hid zu
  have HV := Lib.hid hv
  have HL := Lib.hid hn
  have HC := Lib.hid (And.intro hl hm)
  clear X0 X1 P0 hN zu hv hn hl hm
  go_upto_region 1 with fail
  refine wp_region_facts 9 [5, 6, 7, 8, 9, 10, 11, 12, 4] (VNx N ver A xs cap) (fun _ W => Below u.heap.size u W) (fun w w' => Below w.heap.size w w') (by kernel_rfl) (by kernel_rfl) (by rfl) ?hI VNx_keep ?hob ?hend
  case hI => exact (Below.refl _ _).drew
  case hob =>
    simp only [List.take_succ_cons, List.take_zero, Obs, and_true]
    refine ⟨?_, ?_, ?_, ?_, ?_, ?_, ?_, ?_, ?_⟩
    · intro k' x W hkn hI hd K hK0
      have hK := hK0.out
      simp only [setAll, Act.put, List.foldl_cons, List.foldl_nil, List.setIfInBounds_toArray, List.set_cons_succ, List.set_cons_zero] at hK ⊢
      have HK := Lib.hid hK
      clear hK hK0
      rw [if_pos (by rfl)]
      clear hd
      go_simp
      exact HK.out _ _ hI (Below.refl _ _) ⟨rfl, fun h => by cases h⟩
    · intro k' x W hkn hI hd K hK0
      have hK := hK0.out
      simp only [setAll, Act.put, List.foldl_cons, List.foldl_nil, List.setIfInBounds_toArray, List.set_cons_succ, List.set_cons_zero] at hK ⊢
      have HK := Lib.hid hK
      clear hK hK0
      rw [if_pos (by rfl)]
      obtain e : x 5 = .pointer (some ⟨N, 0, none⟩) := hd 0 _ rfl (by kernel_rfl)
      rw [e] at HK ⊢
      clear e
      clear hd
      have cx0 := (B1.out.below hI B1.out.lt).cells 0
      have cx1 := (B1.out.below hI B1.out.lt).cells 1
      simp at cx0 cx1
      go_simp
      exact HK.out _ _ hI (Below.refl _ _) ⟨rfl, fun h => by cases h⟩
    · intro k' x W hkn hI hd K hK0
      have hK := hK0.out
      simp only [setAll, Act.put, List.foldl_cons, List.foldl_nil, List.setIfInBounds_toArray, List.set_cons_succ, List.set_cons_zero] at hK ⊢
      have HK := Lib.hid hK
      clear hK hK0
      rw [if_pos (by rfl)]
      obtain e : x 6 = .int .i64 ver := hd 1 _ rfl (by kernel_rfl)
      rw [e] at HK ⊢
      clear e
      clear hd
      go_simp
      exact HK.out _ _ hI (Below.refl _ _) ⟨rfl, fun h => by cases h⟩
    · intro k' x W hkn hI hd K hK0
      have hK := hK0.out
      simp only [setAll, Act.put, List.foldl_cons, List.foldl_nil, List.setIfInBounds_toArray, List.set_cons_succ, List.set_cons_zero] at hK ⊢
      have HK := Lib.hid hK
      clear hK hK0
      rw [if_pos (by rfl)]
      clear hd
      go_simp
      exact HK.out _ _ (Fr.alloc hI _) (Fr.alloc (Below.refl _ _) _) ⟨⟨_, rfl⟩, fun h => by cases h⟩
    · intro k' x W hkn hI hd K hK0
      have hK := hK0.out
      simp only [setAll, Act.put, List.foldl_cons, List.foldl_nil, List.setIfInBounds_toArray, List.set_cons_succ, List.set_cons_zero] at hK ⊢
      have HK := Lib.hid hK
      clear hK hK0
      rw [if_pos (by rfl)]
      clear hd
      go_simp
      exact HK.out _ _ hI (Below.refl _ _) ⟨rfl, fun h => by cases h⟩
    · intro k' x W hkn hI hd K hK0
      have hK := hK0.out
      simp only [setAll, Act.put, List.foldl_cons, List.foldl_nil, List.setIfInBounds_toArray, List.set_cons_succ, List.set_cons_zero] at hK ⊢
      have HK := Lib.hid hK
      clear hK hK0
      rw [if_pos (by rfl)]
      obtain e : x 9 = .pointer (some ⟨N, 1, none⟩) := hd 4 _ rfl (by kernel_rfl)
      rw [e] at HK ⊢
      clear e
      clear hd
      have cx0 := (B1.out.below hI B1.out.lt).cells 0
      have cx1 := (B1.out.below hI B1.out.lt).cells 1
      simp at cx0 cx1
      go_simp
      exact HK.out _ _ hI (Below.refl _ _) ⟨rfl, fun h => by cases h⟩
    · intro k' x W hkn hI hd K hK0
      have hK := hK0.out
      simp only [setAll, Act.put, List.foldl_cons, List.foldl_nil, List.setIfInBounds_toArray, List.set_cons_succ, List.set_cons_zero] at hK ⊢
      have HK := Lib.hid hK
      clear hK hK0
      rw [if_pos (by rfl)]
      obtain ⟨b, e⟩ : ∃ b, x 8 = .slice (some ⟨b, 0, none⟩) 0 0 := hd 3 _ rfl (by kernel_rfl)
      rw [e] at HK ⊢
      clear e
      obtain e : x 10 = .slice A xs.length cap := hd 5 _ rfl (by kernel_rfl)
      rw [e] at HK ⊢
      clear e
      clear hd
      refine wp_append_ints _ _ rfl b rfl A W.heap.size cap xs rfl (PP.out.mem hI) (by have := HL.out; omega) (by have := HL.out; omega) fun A' c' w' h1 h2 h3 h4 => HK.out _ _ (Fr.step hI h4) h4 ⟨⟨A', c', rfl, h1, h2, h3⟩, fun h => by cases h⟩
    · intro k' x W hkn hI hd K hK0
      have hK := hK0.out
      simp only [setAll, Act.put, List.foldl_cons, List.foldl_nil, List.setIfInBounds_toArray, List.set_cons_succ, List.set_cons_zero] at hK ⊢
      have HK := Lib.hid hK
      clear hK hK0
      rw [if_pos (by rfl)]
      obtain e : x 7 = .int .i64 (ver + 1) := hd 2 _ rfl (by kernel_rfl)
      rw [e] at HK ⊢
      clear e
      obtain ⟨A', c', e, r6, h6⟩ : ∃ A' cap', x 11 = .slice A' xs.length cap' ∧ Row1 W A' xs ∧ xs.length ≤ cap' ∧ cap' ≤ maxLen := hd 6 _ rfl (by kernel_rfl)
      rw [e] at HK ⊢
      clear e
      clear hd
      go_simp
      exact HK.out _ _ hI (Below.refl _ _) ⟨⟨A', c', rfl, r6, h6⟩, fun h => by cases h⟩
    · intro k' x W hkn hI hd K hK0
      have hK := hK0.out
      simp only [setAll, Act.put, List.foldl_cons, List.foldl_nil, List.setIfInBounds_toArray, List.set_cons_succ, List.set_cons_zero] at hK ⊢
      have HK := Lib.hid hK
      clear hK hK0
      rw [if_pos (by rfl)]
      clear hd
      go_simp
      exact HK.out _ _ (Fr.alloc hI _) (Fr.alloc (Below.refl _ _) _) ⟨⟨W.heap.size, rfl, by have := hI.size; have := HZ.out; omega, Blk.new _ _ _ rfl⟩, fun h => by cases h⟩
  case hend =>
    intro x W hI hV
    obtain ⟨A', c', e7, r7, h7⟩ : ∃ A' cap', x 12 = .agg #[.int .i64 (ver + 1), .slice A' xs.length cap'] ∧ Row1 W A' xs ∧ xs.length ≤ cap' ∧ cap' ≤ maxLen := hV 7 _ (by omega) rfl
    obtain ⟨b, e8, hb, hB⟩ : ∃ b, x 4 = .pointer (some ⟨b, 0, none⟩) ∧ N + 1 < b ∧ Blk W b 26 #[.int .i64 0, .slice none 0 0] := hV 8 _ (by omega) rfl
    clear hV
    simp only [setAll, Act.put, List.foldl_cons, List.foldl_nil, List.setIfInBounds_toArray, List.set_cons_succ, List.set_cons_zero, List.drop_succ_cons, List.drop_zero]
    rw [e7, e8]
    clear e7 e8
    have hC := HC.out
    have hV2 := HV.out
    have cb := hB.cells
    have fb := hB.free
    have cb0 := cb 0
    have cb1 := cb 1
    simp at cb0 cb1
    clear cb
    go_wp2_with fail
    obtain ⟨W2, hW2⟩ : ∃ W2, W2 = (W.setCell ⟨b, 0, none⟩ (.int .i64 (ver + 1))).setCell ⟨b, 1, none⟩ (.slice A' xs.length c') := ⟨_, rfl⟩
    rw [← hW2]
    have rW2 : Row1 W2 A' xs := by rw [hW2]; exact (r7.set hB _).set (hB.set_ 0 _) _
    have bW2 : Blk W2 b 26 #[.int .i64 (ver + 1), .slice A' xs.length c'] := by rw [hW2]; exact (hB.set_ 0 _).set_ 1 _
    have uW : Blk W (N + 1) 26 #[.int .i64 0, .slice none 0 0] := B2.out.below hI (by have := HZ.out; omega)
    have nW2 : Blk W2 (N + 1) 26 #[.int .i64 0, .slice none 0 0] := by rw [hW2]; exact (uW.far (by simp; omega) _).far (by simp; omega) _
    have L2 : Below N w W2 := by
      rw [hW2]
      have : Below N w W := L0.trans (hI.mono (by have := HZ.out; omega))
      exact Below.setCell (Below.setCell this (by simp; omega) _) (by simp; omega) _
    have hh7 := h7.2
    unfold maxLen at hh7
    have h71 := h7.1
    have zN : N + 1 < W2.heap.size := nW2.lt
    have zb : b < W2.heap.size := bW2.lt
    clear hW2 hB fb cb0 cb1 uW r7 hI h7 hC hV2 B1 B2 PP HL HC HV HZ L0 hwr
    clear u
    refine (slotSpec (ver + 1) A' xs c' W2 rW2.row h71 hh7).mono ?_
    rintro e w3 ⟨rfl, hb3⟩
    have r3 := rW2.mem hb3
    have b3 := bW2.below hb3 zb
    have n3 := nW2.below hb3 zN
    have L3 : Below N w w3 := L2.trans (hb3.mono (by omega))
    clear rW2 bW2 nW2 L2 hb3 zN zb
    have c0 := b3.cells 0
    have c1 := b3.cells 1
    have d0 := n3.cells 0
    have d1 := n3.cells 1
    have df := n3.free
    simp at c0 c1 d0 d1
    cases hB : slotB (ver + 1) xs
    · go_wp2_with fail
      refine bodyPost_ret (by simp [results, Try.results43, go_sem, d0, d1]; try rfl) rfl ?_
      rw [hB]
      exact ⟨_, none, 0, rfl, by rw [← HN.out]; exact Below.setCell (Below.setCell L3 (by simp) _) (by simp) _, fun h => (by cases h), fun _ => rfl⟩
    · go_wp2_with fail
      refine bodyPost_ret (by simp [results, Try.results43, go_sem, d0, d1]; try rfl) rfl ?_
      rw [hB]
      exact ⟨_, A', c', rfl, by rw [← HN.out]; exact Below.setCell (Below.setCell L3 (by simp) _) (by simp) _, fun _ => ⟨rfl, (r3.set n3 _).set (n3.set_ 0 _) _, h71, hh7⟩, fun h => (by cases h)⟩

end Go.Proofs.Ytlcjepgmmbdkmaa
