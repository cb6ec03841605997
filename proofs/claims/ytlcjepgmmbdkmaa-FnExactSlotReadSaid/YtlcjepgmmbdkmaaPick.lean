/-
  The reader of a code: l6Open makes one, pick draws a number from 0 to n-1 and goes one byte on.
-/
import Derived.Test.YtlcjepgmmbdkmaaWords
namespace Go.Proofs.Ytlcjepgmmbdkmaa
open Go.RowKit
set_option linter.unusedSimpArgs false
set_option linter.unusedVariables false

theorem xor_nonneg (a b : Int) (h1 : 0 ≤ a) (h2 : 0 ≤ b) (ha : a < 9223372036854775808) (hb : b < 9223372036854775808) : 0 ≤ bits .xor .i64 a b ∧ bits .xor .i64 a b < 9223372036854775808 := by
  obtain ⟨x, rfl⟩ := Int.eq_ofNat_of_zero_le h1
  obtain ⟨y, rfl⟩ := Int.eq_ofNat_of_zero_le h2
  have e : ∀ n : Nat, n < 9223372036854775808 → (BitVec.ofInt 64 (n : Int)).toNat = n := fun n hn => by
    rw [BitVec.ofInt_natCast, BitVec.toNat_ofNat]; exact Nat.mod_eq_of_lt (by omega)
  have hx : x ^^^ y < 2 ^ 63 := Nat.xor_lt_two_pow (by omega) (by omega)
  have hr : bits .xor .i64 (x : Int) (y : Int) = ((x ^^^ y : Nat) : Int) := by
    show IntKind.i64.wrap ((BitVec.ofInt 64 (x : Int) ^^^ BitVec.ofInt 64 (y : Int)).toNat : Int) = _
    rw [BitVec.toNat_xor, e x (by omega), e y (by omega), IntKind.wrap_i64]
    omega
  rw [hr]
  omega

/-- A number from 0 to n-1, or 0. -/
def Drawn (n v : Int) : Prop := 0 ≤ v ∧ (v < n ∨ v = 0)
theorem Drawn.zero (n : Int) : Drawn n 0 := ⟨Int.le_refl 0, .inr rfl⟩

theorem drawn_tmod {x n : Int} (hx : 0 ≤ x) (hn : 1 ≤ n) : Drawn n (x.tmod n) := by
  rw [Int.tmod_eq_emod_of_nonneg hx]
  exact ⟨Int.emod_nonneg _ (by omega), .inl (Int.emod_lt_of_pos _ (by omega))⟩

/-- What pick leaves. -/
def Picked (B g N : Nat) (n : Int) (w : World) (e : Ending) (w' : World) : Prop :=
  ∃ v, e = .returned (.int .i64 v) ∧ Drawn n v ∧ Rd w' B g (N + 1) ∧ Goes g w w' ∧ w'.heap.size = w.heap.size

theorem picked_mk {B g N T : Nat} {n v : Int} {w : World} {A : Option Addr} {len cap p : Nat} (hT : T = 77) (hg : w.heap[g]? = some (.cells #[.slice A len cap, .int .i64 (p : Int)] T (0, 0))) (hl : len ≤ 2000) (hB : B ≤ g) (hp : p ≤ N)
    (hc : Code w B A len) (hv : Drawn n v) (k : Nat) : Picked B g N n w (.returned (.int .i64 v)) ((w.setCell ⟨g, 1, none⟩ (.int .i64 ((p : Int) + 1))).drewN k) := by
  subst hT
  refine ⟨v, rfl, hv, ⟨hB, A, len, cap, p + 1, ?_, hl, by omega, hc.keep fun b o hb => ?_⟩, ((Goes.refl g w).setCell (.inl rfl) _).drewN k, by simp [World.setCell]⟩
  · simp [World.setCell, Array.getElem?_modify, hg]
  · exact World.cell?_of_block (a := ⟨b, o, none⟩) (Below.heap_setCell w ⟨g, 1, none⟩ _ b (by simp; omega))

set_option maxHeartbeats 400000 in
theorem pick_any (B g N : Nat) (n : Int) (w : World) (hr : Rd w B g N) (hN : N ≤ 1000000000000) (hn0 : -9223372036854775808 ≤ n) (hn1 : n ≤ 9223372036854775807) :
    Calls Try.prog 47 #[.pointer (some ⟨g, 0, none⟩), .int .i64 n] w (Picked B g N n w) := by
  obtain ⟨hB, A, len, cap, p, hg, hl, hp, hc⟩ := hr
  have hc0 : w.cell? ⟨g, 0, none⟩ = some (.slice A len cap) := by simp [World.cell?, hg]
  have hc1 : w.cell? ⟨g, 1, none⟩ = some (.int .i64 (p : Int)) := by simp [World.cell?, hg]
  have hf : w.frozen? ⟨g, 1, none⟩ = false := by simp [World.frozen?, hg]
  have HM := Lib.hid (fun v (hv : Drawn n v) => picked_mk rfl hg hl hB hp hc hv 0)
  have HM1 := Lib.hid (fun v (hv : Drawn n v) k => picked_mk rfl hg hl hB hp hc hv k)
  by_cases h1 : n < 1
  · clear hg
    go_enter Try.func47, Try.ntmps47
    go_wp2
    go_ret
    exact HM.out _ (Drawn.zero n)
  · by_cases h0 : len = 0
    · subst h0
      clear hg
      go_enter Try.func47, Try.ntmps47
      go_wp2
      go_ret
      exact HM.out _ (Drawn.zero n)
    · obtain ⟨b, off, f, rfl, hbB, hf8, hcell⟩ := hc (by omega)
      have hlz : ((len : Int) == 0) = false := by simp; omega
      by_cases hpl : p < len
      · have hcp : w.cell? ⟨b, off + p, none⟩ = some (.int .u8 (f p)) := hcell p hpl
        have hfp := hf8 p
        obtain ⟨u, hu⟩ : ∃ u, u = f p := ⟨_, rfl⟩
        rw [← hu] at hcp hfp
        clear hcell hg hf8 hu hc
        have hbg : b ≠ g := by omega
        go_enter Try.func47, Try.ntmps47
        go_wp2
        go_ret
        exact HM.out _ ⟨Int.emod_nonneg _ (by omega), .inl (Int.emod_lt_of_pos _ (by omega))⟩
      · have hlc : ¬ (p : Int) < (len : Int) := by omega
        have q1 : p % len < len := Nat.mod_lt _ (by omega)
        have q2 : (p * 7 + 3) % len < len := Nat.mod_lt _ (by omega)
        have g1 : w.cell? ⟨b, off + p % len, none⟩ = some (.int .u8 (f (p % len))) := hcell _ q1
        have g2 : w.cell? ⟨b, off + (p * 7 + 3) % len, none⟩ = some (.int .u8 (f ((p * 7 + 3) % len))) := hcell _ q2
        have b1 := hf8 (p % len)
        have b2 := hf8 ((p * 7 + 3) % len)
        have i1 : (p : Int) % (len : Int) < (len : Int) := Int.emod_lt_of_pos _ (by omega)
        have i2 : ((p : Int) * 7 + 3) % (len : Int) < (len : Int) := Int.emod_lt_of_pos _ (by omega)
        have hbg : b ≠ g := by omega
        have d0 : 0 ≤ (p : Int) / (len : Int) := Int.ediv_nonneg (by omega) (by omega)
        have d1 : (p : Int) / (len : Int) ≤ 1000000000000 := Int.le_trans (Int.ediv_le_self _ (by omega)) (by omega)
        have n1 : 0 ≤ (p : Int) % (len : Int) := Int.emod_nonneg _ (by omega)
        have n2 : 0 ≤ ((p : Int) * 7 + 3) % (len : Int) := Int.emod_nonneg _ (by omega)
        have t1 : (p : Int).tmod (len : Int) = (p : Int) % (len : Int) := Int.tmod_eq_emod_of_nonneg (by omega)
        have t2 : ((p : Int) * 7 + 3).tmod (len : Int) = ((p : Int) * 7 + 3) % (len : Int) := Int.tmod_eq_emod_of_nonneg (by omega)
        have a1 : ((p : Int) % (len : Int)).toNat = p % len := by omega
        have a2 : (((p : Int) * 7 + 3) % (len : Int)).toNat = (p * 7 + 3) % len := by
          have e : ((p : Int) * 7 + 3) % (len : Int) = (((p * 7 + 3) % len : Nat) : Int) := by simp
          rw [e]; rfl
        have w1 : IntKind.i64.wrap ((p : Int) * 7) = (p : Int) * 7 := IntWalk.i64_in _ (by omega)
        have w2 : IntKind.i64.wrap ((p : Int) * 7 + 3) = (p : Int) * 7 + 3 := IntWalk.i64_in _ (by omega)
        clear hcell hg hf8 hc
        go_enter Try.func47, Try.ntmps47
        go_wp2
        go_quiet (fail)
        clear w1 w2 t1 t2 a1 a2
        go_wp2
        go_ret
        refine HM1.out _ (drawn_tmod ?_ (by omega)) nq
        generalize (p : Int) / (len : Int) = q at *
        generalize f (p % len) = u1 at *
        generalize f ((p * 7 + 3) % len) = u2 at *
        refine (xor_nonneg _ _ ?_ ?_ ?_ ?_).1 <;> omega

/-- What l6Open leaves: a reader that has not begun, in a new block. -/
def Opened (B : Nat) (w : World) (e : Ending) (w' : World) : Prop :=
  e = .returned (.pointer (some ⟨w.heap.size, 0, none⟩)) ∧ Rd w' B w.heap.size 0 ∧ Below w.heap.size w w' ∧ w'.heap.size = w.heap.size + 1

theorem opened_mk {B len cap : Nat} {A : Option Addr} {w : World} {T : TypeId} (hT : T = 77) (hB : B ≤ w.heap.size) (hl : len ≤ 2000) (hc : Code w B A len) :
    Opened B w (.returned (.pointer (some ⟨w.heap.size, 0, none⟩))) (w.alloc (.cells #[.slice A len cap, .int .i64 0] T)) := by
  subst hT
  refine ⟨rfl, ⟨hB, A, len, cap, 0, by simpa using heap_alloc_new w _, hl, Nat.le_refl _, hc.keep fun b o hb => World.cell?_alloc_lt w _ ⟨b, o, none⟩ (by simp; omega)⟩, (Below.refl _ _).alloc (Nat.le_refl _) _, by simp⟩

set_option maxHeartbeats 400000 in
theorem open_any (B : Nat) (A : Option Addr) (len cap : Nat) (w : World) (hB : B ≤ w.heap.size) (hl : len ≤ cap) (hm : cap ≤ maxLen) (hc : Code w B A len) :
    Calls Try.prog 45 #[.slice A len cap] w (Opened B w) := by
  unfold maxLen at hm
  by_cases h : (2000 : Int) < (len : Int)
  · have hA : ∃ b off, A = some ⟨b, off, none⟩ := by
      obtain ⟨b, off, f, e, _⟩ := hc (by omega)
      exact ⟨b, off, e⟩
    obtain ⟨b, off, rfl⟩ := hA
    have h2 : Code w B (some ⟨b, off, none⟩) 2000 := fun _ => by
      obtain ⟨b', off', f, e, hb, hf, hcell⟩ := hc (by omega)
      exact ⟨b', off', f, e, hb, hf, fun i hi => hcell i (by omega)⟩
    have HM := Lib.hid (opened_mk (cap := cap) rfl hB (Nat.le_refl 2000) h2)
    clear h2 hc
    go_enter Try.func45, Try.ntmps45
    go_wp2
    go_ret
    exact HM.out
  · have HM := Lib.hid (opened_mk (cap := cap) rfl hB (by omega) hc)
    clear hc
    go_enter Try.func45, Try.ntmps45
    go_wp2
    go_ret
    exact HM.out

/-- A number out of a list that was written out, as it lies in its block. -/
theorem lit_int (l : List Int) (lo hi : Int) (h : ∀ x ∈ l, lo ≤ x ∧ x ≤ hi) (v : Int) (h0 : 0 ≤ v) (h1 : v < l.length) :
    ∃ u, (l.map (Value.int .i64)).toArray[v.toNat]? = some (.int .i64 u) ∧ lo ≤ u ∧ u ≤ hi := by
  have hv : v.toNat < l.length := by omega
  refine ⟨l[v.toNat], by simp [hv], h _ (List.getElem_mem hv)⟩

/-- The same behind a draw: the list was written out in a new block, the reader went on. -/
theorem lit_goes {l : List Int} {lo hi : Int} {g b T : Nat} {w w' : World} (h : ∀ x ∈ l, lo ≤ x ∧ x ≤ hi) (v : Int) (h0 : 0 ≤ v) (h1 : v < l.length)
    (hg : Goes g (w.alloc (.cells (l.map (Value.int .i64)).toArray T)) w') (hb : b = w.heap.size) (hgb : g < b) : ∃ u, w'.cell? ⟨b, v.toNat, none⟩ = some (.int .i64 u) ∧ lo ≤ u ∧ u ≤ hi := by
  obtain ⟨u, hu, h2, h3⟩ := lit_int l lo hi h v h0 h1
  exact ⟨u, by rw [hg.old.1 b _ hgb (by simp; omega), World.cell?_alloc_at _ _ _ _ hb]; exact hu, h2, h3⟩

end Go.Proofs.Ytlcjepgmmbdkmaa
