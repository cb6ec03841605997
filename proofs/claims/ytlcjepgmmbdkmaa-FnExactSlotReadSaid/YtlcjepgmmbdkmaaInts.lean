/-
  Lists of numbers, and a slot's test in the program and in the reference.
-/
import Derived.Test.YtlcjepgmmbdkmaaIn
import Derived.Test.YtlcjepgmmbdkmaaFacts
namespace Go.Proofs.Ytlcjepgmmbdkmaa
open Go.RowKit
set_option linter.unusedSimpArgs false
set_option linter.unusedVariables false

def iv (x : Int) : Value := .int .i64 x
/-- The slice that begins at A reads as these numbers; it lies below block B. -/
def IntRow (w : World) (B : Nat) (A : Option Addr) (xs : List Int) : Prop := 0 < xs.length → ∃ b off, A = some ⟨b, off, none⟩ ∧ b < B ∧ ∀ j x, xs[j]? = some x → w.cell? ⟨b, off + j, none⟩ = some (.int .i64 x)
section
variable {w w' : World} {B B' : Nat} {A : Option Addr} {xs : List Int}
theorem IntRow.nil (w : World) (B : Nat) (A : Option Addr) : IntRow w B A [] := fun h => absurd h (by simp)
theorem IntRow.keep (h : IntRow w B A xs) (hk : ∀ b o, b < B → w'.cell? ⟨b, o, none⟩ = w.cell? ⟨b, o, none⟩) : IntRow w' B A xs := fun hp => by
  obtain ⟨b, off, e, hb, hc⟩ := h hp
  exact ⟨b, off, e, hb, fun j p hj => (hk b _ hb).trans (hc j p hj)⟩
theorem IntRow.below (h : IntRow w B A xs) (hb : Below B w w') : IntRow w' B A xs := h.keep fun b o hlt => hb.cell (p := ⟨b, o, none⟩) hlt
theorem IntRow.more (h : IntRow w B A xs) (hB : B ≤ B') : IntRow w B' A xs := fun hp => by
  obtain ⟨b, off, e, hb, hc⟩ := h hp
  exact ⟨b, off, e, by omega, hc⟩
theorem IntRow.mem (h : IntRow w w.heap.size A xs) (hb : Below w.heap.size w w') : IntRow w' w'.heap.size A xs := (h.below hb).more hb.size
theorem IntRow.alloc (h : IntRow w w.heap.size A xs) (ob : Obj) : IntRow (w.alloc ob) (w.alloc ob).heap.size A xs := h.mem ((Below.refl _ _).alloc (Nat.le_refl _) _)
theorem IntRow.of_blk {b T : Nat} (h : Blk w b T (xs.map iv).toArray) : IntRow w w.heap.size (some ⟨b, 0, none⟩) xs := fun _ => ⟨b, 0, rfl, h.lt, fun j x hj => by rw [h.cells]; simp [hj, iv]⟩
end
def wordsB (xs : List Int) : Bool := decide (1 ≤ xs.length) && decide (xs.length ≤ 6) && xs.all fun x => inB x 0 999999
def slotB (ver : Int) (xs : List Int) : Bool := inB ver 0 999999 && wordsB xs
theorem all_no {xs : List Int} {k : Nat} {x : Int} (h : xs[k]? = some x) (hx : inB x 0 999999 = false) : (xs.all fun x => inB x 0 999999) = false := by
  cases e : xs.all fun x => inB x 0 999999
  · rfl
  · have := List.all_eq_true.1 e x (List.mem_of_getElem? h)
    rw [hx] at this; cases this
theorem all_yes {xs : List Int} (h : ∀ i x, i < xs.length → xs[i]? = some x → inB x 0 999999 = true) : (xs.all fun x => inB x 0 999999) = true := by
  rw [List.all_eq_true]
  intro x hx
  obtain ⟨i, hi, e⟩ := List.getElem_of_mem hx
  exact h i x hi (by rw [List.getElem?_eq_getElem hi, e])

set_option maxHeartbeats 1000000 in
theorem wordsImpl (A : Option Addr) (xs : List Int) (cap : Nat) (w : World) (hp : IntRow w w.heap.size A xs) (hl : xs.length ≤ cap) (hm : cap ≤ 9223372036854775807) :
    Calls Try.prog 46 #[.slice A xs.length cap] w fun e w' => e = .returned (.bool (wordsB xs)) ∧ w' = w := by
  by_cases h1 : (xs.length : Int) < 1
  · have H := Lib.hid (show wordsB xs = false by unfold wordsB; rw [decide_eq_false (by omega)]; rfl)
    go_enter Try.func46, Try.ntmps46
    go_wp2_with fail
    go_ret
    rw [H.out]; exact ⟨rfl, rfl⟩
  by_cases h2 : 6 < (xs.length : Int)
  · have H := Lib.hid (show wordsB xs = false by unfold wordsB; rw [decide_eq_false (p := xs.length ≤ 6) (by omega)]; simp)
    go_enter Try.func46, Try.ntmps46
    go_wp2_with fail
    go_ret
    rw [H.out]; exact ⟨rfl, rfl⟩
  have HW := Lib.hid (show wordsB xs = xs.all fun x => inB x 0 999999 by unfold wordsB; rw [decide_eq_true (by omega), decide_eq_true (p := xs.length ≤ 6) (by omega)]; rfl)
  go_enter Try.func46, Try.ntmps46
  go_wp2_with fail
  go_loopw [15] (fun c wr => ∃ k : Nat, k ≤ xs.length ∧ c = .int .i64 k ∧ wr = w ∧ ∀ i x, i < k → xs[i]? = some x → inB x 0 999999 = true) (fun c _ => xs.length - (intOf c).toNat)
  case atStart => exact ⟨0, Nat.zero_le _, rfl, rfl, fun i x h => by omega⟩
  case round =>
    obtain ⟨k, hk, rfl, rfl, hok⟩ := hrel
    have HOK := Lib.hid hok
    clear hok
    by_cases hlt : k < xs.length
    · obtain ⟨b, off, rfl, hbB, hrow⟩ := hp (by omega)
      obtain ⟨x, hx⟩ : ∃ x, xs[k]? = some x := ⟨xs[k], List.getElem?_eq_getElem hlt⟩
      have c0 := hrow k x hx
      have HX := Lib.hid hx
      clear hrow hx
      have i0 : (0 : Int) ≤ (k : Int) := by omega
      have i1 : (k : Int) < (xs.length : Int) := by omega
      cases hv : inB x 0 999999
      · have H := Lib.hid (all_no HX.out hv)
        have HV := Lib.hid hv
        clear hv
        go_wp2_with (go_at_call 40; refine (wideValid_any _ _).mono ?_; rintro e w' ⟨rfl, rfl⟩; rw [HV.out])
        go_ret
        rw [HW.out, H.out]; exact ⟨rfl, rfl⟩
      · have HV := Lib.hid hv
        clear hv
        go_wp2_with (go_at_call 40; refine (wideValid_any _ _).mono ?_; rintro e w' ⟨rfl, rfl⟩; rw [HV.out])
        go_roundw
        case rel => exact ⟨k + 1, by omega, by go_num, by trivial, fun i y hi hy => by
          rcases Nat.lt_or_ge i k with h | h
          · exact HOK.out i y h hy
          · have : i = k := by omega
            subst this
            have := HX.out.symm.trans hy
            injection this with this
            rw [← this]; exact HV.out⟩
        case measure => simp [intOf]; omega
    · have hkl : k = xs.length := by omega
      subst hkl
      have H := Lib.hid (all_yes HOK.out)
      go_wp2_with fail
      go_ret
      rw [HW.out, H.out]; exact ⟨rfl, rfl⟩

set_option maxHeartbeats 1000000 in
theorem wordsSpec (A : Option Addr) (xs : List Int) (cap : Nat) (w : World) (hp : IntRow w w.heap.size A xs) (hl : xs.length ≤ cap) (hm : cap ≤ 9223372036854775807) :
    Calls Try.prog 48 #[.slice A xs.length cap] w fun e w' => e = .returned (.bool (wordsB xs)) ∧ w' = w := by
  go_enter Try.func48, Try.ntmps48
  go_wp2_with fail
  go_loopw [3] (fun c wr => ∃ k : Nat, k ≤ xs.length ∧ c = .int .i64 k ∧ wr = w ∧ ∀ i x, i < k → xs[i]? = some x → inB x 0 999999 = true) (fun c _ => xs.length - (intOf c).toNat)
  case atStart => exact ⟨0, Nat.zero_le _, rfl, rfl, fun i x h => by omega⟩
  case round =>
    obtain ⟨k, hk, rfl, rfl, hok⟩ := hrel
    have HOK := Lib.hid hok
    clear hok
    by_cases hlt : k < xs.length
    · obtain ⟨b, off, rfl, hbB, hrow⟩ := hp (by omega)
      obtain ⟨x, hx⟩ : ∃ x, xs[k]? = some x := ⟨xs[k], List.getElem?_eq_getElem hlt⟩
      have c0 := hrow k x hx
      have HX := Lib.hid hx
      clear hrow hx
      have i0 : (0 : Int) ≤ (k : Int) := by omega
      have i1 : (k : Int) < (xs.length : Int) := by omega
      cases hv : inB x 0 999999
      · have H := Lib.hid (show wordsB xs = false by unfold wordsB; rw [all_no HX.out hv]; simp)
        have HV := Lib.hid hv
        clear hv
        go_wp2_with (go_at_call 39; refine (l6In_any _ _ _ _).mono ?_; rintro e w' ⟨rfl, rfl⟩; rw [HV.out])
        go_ret
        rw [H.out]; exact ⟨rfl, rfl⟩
      · have HV := Lib.hid hv
        clear hv
        go_wp2_with (go_at_call 39; refine (l6In_any _ _ _ _).mono ?_; rintro e w' ⟨rfl, rfl⟩; rw [HV.out])
        go_roundw
        case rel => exact ⟨k + 1, by omega, by go_num, by trivial, fun i y hi hy => by
          rcases Nat.lt_or_ge i k with h | h
          · exact HOK.out i y h hy
          · have : i = k := by omega
            subst this
            have := HX.out.symm.trans hy
            injection this with this
            rw [← this]; exact HV.out⟩
        case measure => simp [intOf]; omega
    · have hkl : k = xs.length := by omega
      subst hkl
      have H := Lib.hid (show inB (xs.length : Int) 1 6 = wordsB xs by
        unfold wordsB
        rw [all_yes HOK.out, Bool.eq_iff_iff, inB_iff]
        simp
        omega)
      go_wp2_with (go_at_call 39; refine (l6In_any _ _ _ _).mono ?_; rintro e w' ⟨rfl, rfl⟩; rw [H.out])
      go_ret
      exact ⟨rfl, rfl⟩

set_option maxHeartbeats 1000000 in
theorem slotImpl (ver : Int) (A : Option Addr) (xs : List Int) (cap : Nat) (w : World) (hp : IntRow w w.heap.size A xs) (hl : xs.length ≤ cap) (hm : cap ≤ 9223372036854775807) :
    Calls Try.prog 26 #[.agg #[.int .i64 ver, .slice A xs.length cap]] w fun e w' => e = .returned (.bool (slotB ver xs)) ∧ Below w.heap.size w w' := by
  have P1 := hp.alloc (.cells #[.int .i64 ver, .slice A xs.length cap] 26)
  cases h1 : inB ver 0 999999
  · have H := Lib.hid (show slotB ver xs = false by unfold slotB; rw [h1]; rfl)
    have H1 := Lib.hid h1
    clear h1
    go_enter Try.func26, Try.ntmps26
    go_wp2_with (go_at_call 40; refine (wideValid_any _ _).mono ?_; rintro e w' ⟨rfl, rfl⟩; rw [H1.out])
    go_ret
    rw [H.out]; exact ⟨rfl, Fr.alloc (Below.refl _ _) _⟩
  · have H := Lib.hid (show slotB ver xs = wordsB xs by unfold slotB; rw [h1]; rfl)
    have H1 := Lib.hid h1
    clear h1
    go_enter Try.func26, Try.ntmps26
    go_wp2_with (first | (go_at_call 40; refine (wideValid_any _ _).mono ?_; rintro e w' ⟨rfl, rfl⟩; rw [H1.out]) | (go_at_call 46; refine (wordsImpl _ _ _ _ P1 hl hm).mono ?_; rintro e w' ⟨rfl, rfl⟩))
    go_ret
    rw [H.out]; exact ⟨rfl, Fr.alloc (Below.refl _ _) _⟩

set_option maxHeartbeats 1000000 in
theorem slotSpec (ver : Int) (A : Option Addr) (xs : List Int) (cap : Nat) (w : World) (hp : IntRow w w.heap.size A xs) (hl : xs.length ≤ cap) (hm : cap ≤ 9223372036854775807) :
    Calls Try.prog 38 #[.agg #[.int .i64 ver, .slice A xs.length cap]] w fun e w' => e = .returned (.bool (slotB ver xs)) ∧ Below w.heap.size w w' := by
  have P1 := hp.alloc (.cells #[.int .i64 ver, .slice A xs.length cap] 26)
  cases h1 : inB ver 0 999999
  · have H := Lib.hid (show slotB ver xs = false by unfold slotB; rw [h1]; rfl)
    have H1 := Lib.hid h1
    clear h1
    go_enter Try.func38, Try.ntmps38
    go_wp2_with (go_at_call 39; refine (l6In_any _ _ _ _).mono ?_; rintro e w' ⟨rfl, rfl⟩; rw [H1.out])
    go_ret
    rw [H.out]; exact ⟨rfl, Fr.alloc (Below.refl _ _) _⟩
  · have H := Lib.hid (show slotB ver xs = wordsB xs by unfold slotB; rw [h1]; rfl)
    have H1 := Lib.hid h1
    clear h1
    go_enter Try.func38, Try.ntmps38
    go_wp2_with (first | (go_at_call 39; refine (l6In_any _ _ _ _).mono ?_; rintro e w' ⟨rfl, rfl⟩; rw [H1.out]) | (go_at_call 48; refine (wordsSpec _ _ _ _ P1 hl hm).mono ?_; rintro e w' ⟨rfl, rfl⟩))
    go_ret
    rw [H.out]; exact ⟨rfl, Fr.alloc (Below.refl _ _) _⟩

end Go.Proofs.Ytlcjepgmmbdkmaa
