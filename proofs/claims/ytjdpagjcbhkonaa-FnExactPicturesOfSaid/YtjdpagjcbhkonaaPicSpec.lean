/-
  PicturesOf of the reference.
-/
import Derived.Test.YtjdpagjcbhkonaaPicLaw
import Derived.Test.YtjdpagjcbhkonaaPicRow
import Derived.Test.YtjdpagjcbhkonaaWholeS
namespace Go.Proofs.Ytjdpagjcbhkonaa
open Go.RowKit
set_option linter.unusedSimpArgs false
set_option linter.unusedVariables false

/-- What the operations of the region leave that makes a picture. -/
def V7 (base b off n cap i f : Nat) (T M tm : Int) (ky wh : Bool) (j : Nat) (v : Value) (w : World) : Prop := match j with
  | 0 => v = .slice (some ⟨b, off, none⟩) n cap
  | 1 => v = .int .i64 (i : Int)
  | 2 => v = .pointer (some ⟨b, off + i * 6, none⟩)
  | 3 => v = .pointer (some ⟨b, off + i * 6 + 1, none⟩)
  | 4 => v = .int .i64 tm
  | 5 => v = .int .i64 (i : Int)
  | 6 => v = .int .i64 T
  | 7 => v = .int .i64 (f : Int)
  | 8 => v = .int .i64 M
  | 9 => v = .slice (some ⟨b, off, none⟩) n cap
  | 10 => v = .int .i64 (f : Int)
  | 11 => v = .pointer (some ⟨b, off + f * 6, none⟩)
  | 12 => v = .pointer (some ⟨b, off + f * 6 + 4, none⟩)
  | 13 => v = .bool ky
  | 14 => v = .slice (some ⟨b, off, none⟩) n cap
  | 15 => v = .int .i64 (f : Int)
  | 16 => v = .int .i64 (i : Int)
  | 17 => v = .int .i64 T
  | 18 => v = .bool wh
  | 19 => v = .agg #[.int .i64 tm, .int .i64 M, .int .i64 0, .bool ky, .bool wh]
  | 20 => ∃ B, v = .pointer (some ⟨B, 0, none⟩) ∧ base ≤ B ∧ Blk w B 29 #[.int .i64 0, .int .i64 0, .int .i64 0, .bool false, .bool false]
  | _ => True
theorem V7_keep {base b off n cap i f : Nat} {T M tm : Int} {ky wh : Bool} : ∀ (j : Nat) (v : Value) (w w' : World), Below w.heap.size w w' → V7 base b off n cap i f T M tm ky wh j v w → V7 base b off n cap i f T M tm ky wh j v w'
  | 0, _, _, _, _, h => h
  | 1, _, _, _, _, h => h
  | 2, _, _, _, _, h => h
  | 3, _, _, _, _, h => h
  | 4, _, _, _, _, h => h
  | 5, _, _, _, _, h => h
  | 6, _, _, _, _, h => h
  | 7, _, _, _, _, h => h
  | 8, _, _, _, _, h => h
  | 9, _, _, _, _, h => h
  | 10, _, _, _, _, h => h
  | 11, _, _, _, _, h => h
  | 12, _, _, _, _, h => h
  | 13, _, _, _, _, h => h
  | 14, _, _, _, _, h => h
  | 15, _, _, _, _, h => h
  | 16, _, _, _, _, h => h
  | 17, _, _, _, _, h => h
  | 18, _, _, _, _, h => h
  | 19, _, _, _, _, h => h
  | 20, _, _, _, hg, ⟨B, e, hb, hB⟩ => ⟨B, e, hb, hB.below hg hB.lt⟩
  | _ + 21, _, _, _, _, h => h

/-- .. that adds a packet's size. -/
def V11 (B b off n cap k : Nat) (S sz : Int) (j : Nat) (v : Value) (w : World) : Prop := match j with
  | 0 => v = .pointer (some ⟨B, 2, none⟩)
  | 1 => v = .int .i64 S
  | 2 => v = .slice (some ⟨b, off, none⟩) n cap
  | 3 => v = .int .i64 (k : Int)
  | 4 => v = .pointer (some ⟨b, off + k * 6, none⟩)
  | 5 => v = .pointer (some ⟨b, off + k * 6 + 3, none⟩)
  | 6 => v = .int .i64 sz
  | 7 => v = .int .i64 (S + sz)
  | 8 => v = .pointer (some ⟨B, 2, none⟩)
  | _ => True
theorem V11_keep {B b off n cap k : Nat} {S sz : Int} : ∀ (j : Nat) (v : Value) (w w' : World), w' = w → V11 B b off n cap k S sz j v w → V11 B b off n cap k S sz j v w' := fun j v w w' _ h => by
  unfold V11 at h ⊢
  exact h

theorem tm_run {ps : List Pk} {f i : Nat} (h : ∀ j, f ≤ j → j < i → endB ps j = false) : ∀ j, f ≤ j → j ≤ i → (pk ps j).tm = (pk ps f).tm := by
  intro j hj
  obtain ⟨m, rfl⟩ : ∃ m, j = f + m := ⟨j - f, by omega⟩
  clear hj
  induction m with
  | zero => intro _; rfl
  | succ m ih =>
    intro hi
    rw [← ih (by omega)]
    have h1 := h (f + m) (by omega) (by omega)
    rcases Decidable.em ((pk ps (f + m + 1)).tm = (pk ps (f + m)).tm) with h2 | h2
    · exact h2
    · rw [endB_yes h2] at h1; cases h1

set_option maxRecDepth 100000 in
set_option maxHeartbeats 8000000 in
theorem picsSpec (A : Option Addr) (ps : List Pk) (cap : Nat) (w : World) (hp : PkRow w w.heap.size A ps) (hl : ps.length ≤ cap) (hm : cap ≤ 9223372036854775807) :
    Calls Try.prog 11 #[.slice A ps.length cap] w (PicPost (pics ps) w) := by
  have hO0 : OwnP (w.alloc (.cells #[] 29)) w.heap.size (.slice (some ⟨w.heap.size, 0, none⟩) 0 0) [] := OwnP.empty (T := 0) (Blk.new w _ _ rfl) (Nat.le_refl _)
  have hB0 : Below w.heap.size w (w.alloc (.cells #[] 29)) := Fr.alloc (Below.refl _ _) _
  have hp0 := (hp.below hB0).more hB0.size
  by_cases h00 : ps.length = 0
  · have hps : pics ps = [] := by unfold pics cuts; rw [h00]; cases pvsB ps <;> rfl
    have H := Lib.hid hps
    have hz : ¬ (0 : Int) < (ps.length : Int) := by omega
    have hz1 : decide (0 < ps.length) = false := by simp [h00]
    clear h00 hps
    go_enter Try.func11, Try.ntmps11
    go_wp2_with fail
    generalize w.alloc (.cells #[] 29) = w0 at hO0 hB0 hp0 ⊢
    go_loopw [3, 5] (fun o c wr => o = .slice (some ⟨w.heap.size, 0, none⟩) 0 0 ∧ c = .int .i64 0 ∧ wr = w0) (fun _ _ _ => 0)
    case atStart => exact ⟨rfl, rfl, rfl⟩
    case round =>
      obtain ⟨rfl, rfl, rfl⟩ := hrel
      go_wp2_with fail
      go_ret
      exact ⟨_, rfl, H.out ▸ hO0, hB0⟩
  cases hv : pvsB ps
  · have hps : pics ps = [] := by unfold pics cuts; rw [hv]; rfl
    have H := Lib.hid hps
    have HV := Lib.hid hv
    clear hv hps
    have hz : (0 : Int) < (ps.length : Int) := by omega
    go_enter Try.func11, Try.ntmps11
    go_wp2_with fail
    generalize w.alloc (.cells #[] 29) = w0 at hO0 hB0 hp0 ⊢
    go_loopw [3, 5] (fun o c wr => o = .slice (some ⟨w.heap.size, 0, none⟩) 0 0 ∧ c = .int .i64 0 ∧ wr = w0) (fun _ _ _ => 0)
    case atStart => exact ⟨rfl, rfl, rfl⟩
    case round =>
      obtain ⟨rfl, rfl, rfl⟩ := hrel
      go_wp2_with (go_at_call 13; refine (pvsSpec _ _ _ _ hp0 hl hm).mono ?_; rintro e w' ⟨rfl, hb⟩; rw [HV.out])
      go_ret
      exact ⟨_, rfl, H.out ▸ hO0.below hb, Fr.step hB0 hb⟩
  · have hps : pics ps = (cutsTo ps ps.length).1.map (pict ps) := by unfold pics cuts; rw [hv]; rfl
    have H := Lib.hid hps
    have HV := Lib.hid hv
    obtain ⟨i0, hi, hz0, hz1, hz2⟩ := info_parts picInfo
    have HI := Lib.hid (And.intro hi (And.intro hz0 (And.intro hz1 hz2)))
    have HP := Lib.hid hp
    have HL20 := Lib.hid (pvsB_iff.1 hv).1
    clear hv hps hi hz0 hz1 hz2 hp hp0 h00
    go_enter Try.func11, Try.ntmps11
    go_wp2_with fail
    generalize w.alloc (.cells #[] 29) = w0 at hO0 hB0 ⊢
    go_loopw [3, 4, 5] (fun c3 c4 c5 wr => ∃ (i : Nat) (L : List (Nat × Nat)) (f : Nat), i ≤ ps.length ∧ c5 = .int .i64 (i : Int) ∧ c4 = .int .i64 (f : Int) ∧ cutsTo ps i = (L, f) ∧ OwnP wr w.heap.size c3 (L.map (pict ps)) ∧ Below w.heap.size w wr) (fun _ _ c _ => ps.length - (intOf c).toNat)
    case atStart => exact ⟨0, [], 0, Nat.zero_le _, rfl, rfl, rfl, hO0, hB0⟩
    case round =>
      clear hO0 hB0
      obtain ⟨i, L, f, hik, rfl, rfl, hcut, hO, hB⟩ := hrel
      obtain ⟨v, rfl⟩ : ∃ v, v = u3 := ⟨_, rfl⟩
      have hlens := cuts_len ps i
      rw [hcut] at hlens
      have hfi : f ≤ i := hlens.2
      have hLf : L.length ≤ f := hlens.1
      clear hlens
      have HC := Lib.hid hcut
      clear hcut
      by_cases hlt : i < ps.length
      · have hrowr := (HP.out.below hB).more hB.size
        go_upto_region 6 with (go_at_call 13; refine (pvsSpec _ _ _ _ hrowr hl hm).mono ?_; rintro e w1 ⟨rfl, hb1⟩; rw [HV.out])
        have hO1 := hO.below hb1
        have hB1 := Fr.step hB hb1
        have hr1 : PkRow w1 w1.heap.size A ps := hrowr.mem hb1
        obtain ⟨b, off, rfl, hbb, hrow⟩ := hr1 (by omega)
        have HROW := Lib.hid hrow
        have HO := Lib.hid (And.intro hO1 hB1)
        clear hO hB hb1 hrowr hr1 hrow hO1 hB1
        have hcap1 : (ps.length : Int) ≤ cap := by omega
        have i0' : (0 : Int) ≤ (i : Int) := by omega
        have i1' : (i : Int) < (ps.length : Int) := by omega
        have f0' : (0 : Int) ≤ (f : Int) := by omega
        have f1' : (f : Int) < (ps.length : Int) := by omega
        have hn20 : (ps.length : Int) ≤ 20 := by have := HL20.out; omega
        obtain ⟨P, hP⟩ : ∃ P, P = pk ps i := ⟨_, rfl⟩
        obtain ⟨p0, p1, p2, p3, p4, p5⟩ := HROW.out i P (by rw [hP]; exact pk_at hlt)
        have HPI := Lib.hid hP
        have hbr1 : b + 1 ≤ w1.heap.size := hbb
        obtain ⟨T, hT⟩ : ∃ T : Int, T = ((i + 1 : Nat) : Int) := ⟨_, rfl⟩
        have tw : IntKind.i64.wrap ((i : Int) + 1) = T := by rw [IntWalk.i64_in _ (by omega)]; omega
        have HT := Lib.hid hT
        have t0 : (0 : Int) ≤ T := by omega
        have tn : T.toNat = i + 1 := by omega
        clear hP hT
        go_cut [37] (fun t wx => t = .bool (endB ps i) ∧ Below w1.heap.size w1 wx)
        case first =>
          by_cases hlast : i + 1 = ps.length
          · have HE := Lib.hid (endB_last hlast)
            have te : (T == (ps.length : Int)) = true := by have := HT.out; simp; omega
            clear hlast
            go_wp2_with fail
            refine wp_region_in (Mem w1) (by kernel_rfl) (by kernel_rfl) (Mem.drew w1) ?_
            intro hne
            repeat (go_big_quiet_step ((fail)))
            refine wpQuiet_nil ?_
            rintro ⟨w2, ok2⟩
            clear hne
            go_wp2_with fail
            go_meet
            exact ⟨by rw [HE.out], ok2⟩
          · have te : (T == (ps.length : Int)) = false := by have := HT.out; simp; omega
            have t1 : T < (ps.length : Int) := by have := HT.out; omega
            obtain ⟨Q, hQ⟩ : ∃ Q, Q = pk ps (i + 1) := ⟨_, rfl⟩
            obtain ⟨q0, q1, q2, q3, q4, q5⟩ := HROW.out (i + 1) Q (by rw [hQ]; exact pk_at (by omega))
            have HE := Lib.hid (show endB ps i = (Q.tm != P.tm) by unfold endB; rw [decide_eq_false hlast, hQ, HPI.out]; rfl)
            clear hlast hQ
            by_cases hq : Q.tm = P.tm
            · have hqb : (Q.tm == P.tm) = true := by simp [hq]
              have hqn : (Q.tm != P.tm) = false := by simp [hq]
              have HE2 := Lib.hid (HE.out.trans hqn)
              clear hq
              go_wp2_with fail
              refine wp_region_in (Mem w1) (by kernel_rfl) (by kernel_rfl) (Mem.drew w1) ?_
              intro hne
              repeat (go_big_quiet_step ((fail)))
              refine wpQuiet_nil ?_
              rintro ⟨w2, ok2⟩
              clear hne
              go_wp2_with fail
              go_meet
              exact ⟨by rw [HE2.out], ok2⟩
            · have hqb : (Q.tm == P.tm) = false := by simp [hq]
              have hqn : (Q.tm != P.tm) = true := by simp [hq]
              have HE2 := Lib.hid (HE.out.trans hqn)
              clear hq
              go_wp2_with fail
              refine wp_region_in (Mem w1) (by kernel_rfl) (by kernel_rfl) (Mem.drew w1) ?_
              intro hne
              repeat (go_big_quiet_step ((fail)))
              refine wpQuiet_nil ?_
              rintro ⟨w2, ok2⟩
              clear hne
              go_wp2_with fail
              go_meet
              exact ⟨by rw [HE2.out], ok2⟩
        case rest =>
          obtain ⟨rfl, hbc⟩ := hcut
          cases he : endB ps i
          · have HE := Lib.hid he
            clear he
            go_wp2_with fail
            go_roundw
            case rel => first | exact ⟨i + 1, L, f, by omega, by go_num, rfl, by rw [cutsTo_no HE.out, HC.out], HO.out.1.below hbc, Fr.step HO.out.2 hbc⟩ | ((repeat apply Exists.intro); exact ⟨⟨i + 1, L, f, by omega, by go_num, rfl, by rw [cutsTo_no HE.out, HC.out], HO.out.1.below hbc, Fr.step HO.out.2 hbc⟩, rfl⟩)
            case measure => simp [intOf]; omega
          · have HE := Lib.hid he
            clear he p0 p1 p2 p3 p4 p5
            have HRC := Lib.hid (fun j p (hj : ps[j]? = some p) => (HROW.out j p hj).keep (w' := wc) fun k => hbc.cell (p := ⟨b, k, none⟩) hbb)
            have hOc := HO.out.1.below hbc
            have hBc := Fr.step HO.out.2 hbc
            have hbc1 : b < wc.heap.size := Nat.lt_of_lt_of_le hbb hbc.size
            obtain ⟨F, hF⟩ : ∃ F, F = pk ps f := ⟨_, rfl⟩
            have HF := Lib.hid hF
            obtain ⟨M, hM⟩ : ∃ M : Int, M = T - (f : Int) := ⟨_, rfl⟩
            have mw : IntKind.i64.wrap (T - (f : Int)) = M := by have := HT.out; rw [IntWalk.i64_in _ (by omega)]; omega
            have HM := Lib.hid hM
            have HOC := Lib.hid (And.intro hOc hBc)
            clear hF hM hOc hBc hbc hbb hbr1 HO HROW
            go_upto_region 7 with fail
            refine wp_region_facts 21 [38, 39, 40, 41, 42, 43, 44, 45, 46, 47, 48, 49, 50, 51, 52, 53, 54, 55, 56, 57, 6] (V7 wc.heap.size b off ps.length cap i f T M P.tm F.k (wholeB ps f i)) (fun _ W => Below wc.heap.size wc W) (fun w w' => Below w.heap.size w w') (by kernel_rfl) (by kernel_rfl) (by rfl) ?hI V7_keep ?hob ?hend
            case hI => exact Below.drew (Below.refl _ _)
            case hob =>
              simp only [List.take_succ_cons, List.take_zero, Obs, and_true]
              refine ⟨?_, ?_, ?_, ?_, ?_, ?_, ?_, ?_, ?_, ?_, ?_, ?_, ?_, ?_, ?_, ?_, ?_, ?_, ?_, ?_, ?_⟩
              · intro k' x W hkn hI hd K hK0
                have hK := hK0.out
                simp only [setAll, Act.put, List.foldl_cons, List.foldl_nil, List.setIfInBounds_toArray, List.set_cons_succ, List.set_cons_zero] at hK ⊢
                have HK := Lib.hid hK
                clear hK hK0
                rw [if_pos (by rfl)]
                clear hd
                go_simp
                exact HK.out _ _ hI (Below.refl _ _) ⟨rfl, fun h => by cases h⟩
              · intro k' x W hkn hI hd K hK0
                have hK := hK0.out
                simp only [setAll, Act.put, List.foldl_cons, List.foldl_nil, List.setIfInBounds_toArray, List.set_cons_succ, List.set_cons_zero] at hK ⊢
                have HK := Lib.hid hK
                clear hK hK0
                rw [if_pos (by rfl)]
                clear hd
                go_simp
                exact HK.out _ _ hI (Below.refl _ _) ⟨rfl, fun h => by cases h⟩
              · intro k' x W hkn hI hd K hK0
                have hK := hK0.out
                simp only [setAll, Act.put, List.foldl_cons, List.foldl_nil, List.setIfInBounds_toArray, List.set_cons_succ, List.set_cons_zero] at hK ⊢
                have HK := Lib.hid hK
                clear hK hK0
                rw [if_pos (by rfl)]
                obtain e38 : x 38 = .slice (some ⟨b, off, none⟩) ps.length cap := hd 0 _ rfl (by kernel_rfl)
                obtain e39 : x 39 = .int .i64 (i : Int) := hd 1 _ rfl (by kernel_rfl)
                rw [e38, e39] at HK ⊢
                clear hd
                go_simp
                exact HK.out _ _ hI (Below.refl _ _) ⟨rfl, fun h => by cases h⟩
              · intro k' x W hkn hI hd K hK0
                have hK := hK0.out
                simp only [setAll, Act.put, List.foldl_cons, List.foldl_nil, List.setIfInBounds_toArray, List.set_cons_succ, List.set_cons_zero] at hK ⊢
                have HK := Lib.hid hK
                clear hK hK0
                rw [if_pos (by rfl)]
                obtain e40 : x 40 = .pointer (some ⟨b, off + i * 6, none⟩) := hd 2 _ rfl (by kernel_rfl)
                rw [e40] at HK ⊢
                clear hd
                go_simp
                exact HK.out _ _ hI (Below.refl _ _) ⟨rfl, fun h => by cases h⟩
              · intro k' x W hkn hI hd K hK0
                have hK := hK0.out
                simp only [setAll, Act.put, List.foldl_cons, List.foldl_nil, List.setIfInBounds_toArray, List.set_cons_succ, List.set_cons_zero] at hK ⊢
                have HK := Lib.hid hK
                clear hK hK0
                rw [if_pos (by rfl)]
                obtain e41 : x 41 = .pointer (some ⟨b, off + i * 6 + 1, none⟩) := hd 3 _ rfl (by kernel_rfl)
                rw [e41] at HK ⊢
                clear hd
                obtain ⟨c0, c1, c2, c3, c4, c5⟩ := (HRC.out i P (by rw [HPI.out]; exact pk_at (by omega))).keep (w' := W) fun k => hI.cell (p := ⟨b, k, none⟩) hbc1
                go_simp
                exact HK.out _ _ hI (Below.refl _ _) ⟨rfl, fun h => by cases h⟩
              · intro k' x W hkn hI hd K hK0
                have hK := hK0.out
                simp only [setAll, Act.put, List.foldl_cons, List.foldl_nil, List.setIfInBounds_toArray, List.set_cons_succ, List.set_cons_zero] at hK ⊢
                have HK := Lib.hid hK
                clear hK hK0
                rw [if_pos (by rfl)]
                clear hd
                go_simp
                exact HK.out _ _ hI (Below.refl _ _) ⟨rfl, fun h => by cases h⟩
              · intro k' x W hkn hI hd K hK0
                have hK := hK0.out
                simp only [setAll, Act.put, List.foldl_cons, List.foldl_nil, List.setIfInBounds_toArray, List.set_cons_succ, List.set_cons_zero] at hK ⊢
                have HK := Lib.hid hK
                clear hK hK0
                rw [if_pos (by rfl)]
                obtain e43 : x 43 = .int .i64 (i : Int) := hd 5 _ rfl (by kernel_rfl)
                rw [e43] at HK ⊢
                clear hd
                go_simp
                exact HK.out _ _ hI (Below.refl _ _) ⟨rfl, fun h => by cases h⟩
              · intro k' x W hkn hI hd K hK0
                have hK := hK0.out
                simp only [setAll, Act.put, List.foldl_cons, List.foldl_nil, List.setIfInBounds_toArray, List.set_cons_succ, List.set_cons_zero] at hK ⊢
                have HK := Lib.hid hK
                clear hK hK0
                rw [if_pos (by rfl)]
                clear hd
                go_simp
                exact HK.out _ _ hI (Below.refl _ _) ⟨rfl, fun h => by cases h⟩
              · intro k' x W hkn hI hd K hK0
                have hK := hK0.out
                simp only [setAll, Act.put, List.foldl_cons, List.foldl_nil, List.setIfInBounds_toArray, List.set_cons_succ, List.set_cons_zero] at hK ⊢
                have HK := Lib.hid hK
                clear hK hK0
                rw [if_pos (by rfl)]
                obtain e44 : x 44 = .int .i64 T := hd 6 _ rfl (by kernel_rfl)
                obtain e45 : x 45 = .int .i64 (f : Int) := hd 7 _ rfl (by kernel_rfl)
                rw [e44, e45] at HK ⊢
                clear hd
                go_simp
                exact HK.out _ _ hI (Below.refl _ _) ⟨rfl, fun h => by cases h⟩
              · intro k' x W hkn hI hd K hK0
                have hK := hK0.out
                simp only [setAll, Act.put, List.foldl_cons, List.foldl_nil, List.setIfInBounds_toArray, List.set_cons_succ, List.set_cons_zero] at hK ⊢
                have HK := Lib.hid hK
                clear hK hK0
                rw [if_pos (by rfl)]
                clear hd
                go_simp
                exact HK.out _ _ hI (Below.refl _ _) ⟨rfl, fun h => by cases h⟩
              · intro k' x W hkn hI hd K hK0
                have hK := hK0.out
                simp only [setAll, Act.put, List.foldl_cons, List.foldl_nil, List.setIfInBounds_toArray, List.set_cons_succ, List.set_cons_zero] at hK ⊢
                have HK := Lib.hid hK
                clear hK hK0
                rw [if_pos (by rfl)]
                clear hd
                go_simp
                exact HK.out _ _ hI (Below.refl _ _) ⟨rfl, fun h => by cases h⟩
              · intro k' x W hkn hI hd K hK0
                have hK := hK0.out
                simp only [setAll, Act.put, List.foldl_cons, List.foldl_nil, List.setIfInBounds_toArray, List.set_cons_succ, List.set_cons_zero] at hK ⊢
                have HK := Lib.hid hK
                clear hK hK0
                rw [if_pos (by rfl)]
                obtain e47 : x 47 = .slice (some ⟨b, off, none⟩) ps.length cap := hd 9 _ rfl (by kernel_rfl)
                obtain e48 : x 48 = .int .i64 (f : Int) := hd 10 _ rfl (by kernel_rfl)
                rw [e47, e48] at HK ⊢
                clear hd
                go_simp
                exact HK.out _ _ hI (Below.refl _ _) ⟨rfl, fun h => by cases h⟩
              · intro k' x W hkn hI hd K hK0
                have hK := hK0.out
                simp only [setAll, Act.put, List.foldl_cons, List.foldl_nil, List.setIfInBounds_toArray, List.set_cons_succ, List.set_cons_zero] at hK ⊢
                have HK := Lib.hid hK
                clear hK hK0
                rw [if_pos (by rfl)]
                obtain e49 : x 49 = .pointer (some ⟨b, off + f * 6, none⟩) := hd 11 _ rfl (by kernel_rfl)
                rw [e49] at HK ⊢
                clear hd
                go_simp
                exact HK.out _ _ hI (Below.refl _ _) ⟨rfl, fun h => by cases h⟩
              · intro k' x W hkn hI hd K hK0
                have hK := hK0.out
                simp only [setAll, Act.put, List.foldl_cons, List.foldl_nil, List.setIfInBounds_toArray, List.set_cons_succ, List.set_cons_zero] at hK ⊢
                have HK := Lib.hid hK
                clear hK hK0
                rw [if_pos (by rfl)]
                obtain e50 : x 50 = .pointer (some ⟨b, off + f * 6 + 4, none⟩) := hd 12 _ rfl (by kernel_rfl)
                rw [e50] at HK ⊢
                clear hd
                obtain ⟨c0, c1, c2, c3, c4, c5⟩ := (HRC.out f F (by rw [HF.out]; exact pk_at (by omega))).keep (w' := W) fun k => hI.cell (p := ⟨b, k, none⟩) hbc1
                go_simp
                exact HK.out _ _ hI (Below.refl _ _) ⟨rfl, fun h => by cases h⟩
              · intro k' x W hkn hI hd K hK0
                have hK := hK0.out
                simp only [setAll, Act.put, List.foldl_cons, List.foldl_nil, List.setIfInBounds_toArray, List.set_cons_succ, List.set_cons_zero] at hK ⊢
                have HK := Lib.hid hK
                clear hK hK0
                rw [if_pos (by rfl)]
                clear hd
                go_simp
                exact HK.out _ _ hI (Below.refl _ _) ⟨rfl, fun h => by cases h⟩
              · intro k' x W hkn hI hd K hK0
                have hK := hK0.out
                simp only [setAll, Act.put, List.foldl_cons, List.foldl_nil, List.setIfInBounds_toArray, List.set_cons_succ, List.set_cons_zero] at hK ⊢
                have HK := Lib.hid hK
                clear hK hK0
                rw [if_pos (by rfl)]
                clear hd
                go_simp
                exact HK.out _ _ hI (Below.refl _ _) ⟨rfl, fun h => by cases h⟩
              · intro k' x W hkn hI hd K hK0
                have hK := hK0.out
                simp only [setAll, Act.put, List.foldl_cons, List.foldl_nil, List.setIfInBounds_toArray, List.set_cons_succ, List.set_cons_zero] at hK ⊢
                have HK := Lib.hid hK
                clear hK hK0
                rw [if_pos (by rfl)]
                clear hd
                go_simp
                exact HK.out _ _ hI (Below.refl _ _) ⟨rfl, fun h => by cases h⟩
              · intro k' x W hkn hI hd K hK0
                have hK := hK0.out
                simp only [setAll, Act.put, List.foldl_cons, List.foldl_nil, List.setIfInBounds_toArray, List.set_cons_succ, List.set_cons_zero] at hK ⊢
                have HK := Lib.hid hK
                clear hK hK0
                rw [if_pos (by rfl)]
                obtain e54 : x 54 = .int .i64 (i : Int) := hd 16 _ rfl (by kernel_rfl)
                rw [e54] at HK ⊢
                clear hd
                go_simp
                exact HK.out _ _ hI (Below.refl _ _) ⟨rfl, fun h => by cases h⟩
              · intro k' x W hkn hI hd K hK0
                have hK := hK0.out
                simp only [setAll, Act.put, List.foldl_cons, List.foldl_nil, List.setIfInBounds_toArray, List.set_cons_succ, List.set_cons_zero] at hK ⊢
                have HK := Lib.hid hK
                clear hK hK0
                rw [if_pos (by rfl)]
                obtain e52 : x 52 = .slice (some ⟨b, off, none⟩) ps.length cap := hd 14 _ rfl (by kernel_rfl)
                obtain e53 : x 53 = .int .i64 (f : Int) := hd 15 _ rfl (by kernel_rfl)
                obtain e55 : x 55 = .int .i64 T := hd 17 _ rfl (by kernel_rfl)
                rw [e52, e53, e55] at HK ⊢
                clear hd
                go_simp
                have hrw : PkRow W W.heap.size (some ⟨b, off, none⟩) ps := fun _ => ⟨b, off, rfl, Nat.lt_of_lt_of_le hbc1 hI.size, fun j p hj => (HRC.out j p hj).keep fun k => hI.cell (p := ⟨b, k, none⟩) hbc1⟩
                have hcall := l2Whole_any (some ⟨b, off, none⟩) ps cap f i T (by have := HT.out; omega) W hrw hl hm hfi (by omega) (fun j hj => pvs_wd HV.out hj) HL20.out
                refine hcall.mono ?_
                rintro e W1 ⟨rfl, hb1⟩
                exact HK.out _ _ (Fr.step hI hb1) hb1 ⟨rfl, fun h => by cases h⟩
              · intro k' x W hkn hI hd K hK0
                have hK := hK0.out
                simp only [setAll, Act.put, List.foldl_cons, List.foldl_nil, List.setIfInBounds_toArray, List.set_cons_succ, List.set_cons_zero] at hK ⊢
                have HK := Lib.hid hK
                clear hK hK0
                rw [if_pos (by rfl)]
                obtain e42 : x 42 = .int .i64 P.tm := hd 4 _ rfl (by kernel_rfl)
                obtain e46 : x 46 = .int .i64 M := hd 8 _ rfl (by kernel_rfl)
                obtain e51 : x 51 = .bool F.k := hd 13 _ rfl (by kernel_rfl)
                obtain e56 : x 56 = .bool (wholeB ps f i) := hd 18 _ rfl (by kernel_rfl)
                rw [e42, e46, e51, e56] at HK ⊢
                clear hd
                go_simp
                exact HK.out _ _ hI (Below.refl _ _) ⟨rfl, fun h => by cases h⟩
              · intro k' x W hkn hI hd K hK0
                have hK := hK0.out
                simp only [setAll, Act.put, List.foldl_cons, List.foldl_nil, List.setIfInBounds_toArray, List.set_cons_succ, List.set_cons_zero] at hK ⊢
                have HK := Lib.hid hK
                clear hK hK0
                rw [if_pos (by rfl)]
                clear hd
                go_simp
                exact HK.out _ _ (Fr.alloc hI _) (Fr.alloc (Below.refl _ _) _) ⟨⟨_, rfl, hI.size, Blk.new _ _ _ rfl⟩, fun h => by cases h⟩
            case hend =>
              intro x W hI hV
              obtain e57 : x 57 = .agg #[.int .i64 P.tm, .int .i64 M, .int .i64 0, .bool F.k, .bool (wholeB ps f i)] := hV 19 _ (by omega) rfl
              obtain ⟨B, e6, hBb, hBB⟩ : ∃ B, x 6 = .pointer (some ⟨B, 0, none⟩) ∧ wc.heap.size ≤ B ∧ Blk W B 29 #[.int .i64 0, .int .i64 0, .int .i64 0, .bool false, .bool false] := hV 20 _ (by omega) rfl
              clear hV
              simp only [setAll, Act.put, List.foldl_cons, List.foldl_nil, List.setIfInBounds_toArray, List.set_cons_succ, List.set_cons_zero, List.drop_succ_cons, List.drop_zero]
              rw [e57, e6]
              clear e57 e6
              have cB := hBB.cells; have fB := hBB.free; have lB := hBB.lt
              have hB3 : Blk (((((W.setCell ⟨B, 0, none⟩ (.int .i64 P.tm)).setCell ⟨B, 1, none⟩ (.int .i64 M)).setCell ⟨B, 2, none⟩ (.int .i64 0)).setCell ⟨B, 3, none⟩ (.bool F.k)).setCell ⟨B, 4, none⟩ (.bool (wholeB ps f i))) B 29 #[.int .i64 P.tm, .int .i64 M, .int .i64 0, .bool F.k, .bool (wholeB ps f i)] := by
                have := ((((hBB.set_ 0 (.int .i64 P.tm)).set_ 1 (.int .i64 M)).set_ 2 (.int .i64 0)).set_ 3 (.bool F.k)).set_ 4 (.bool (wholeB ps f i))
                simpa using this
              have hI3 : Below wc.heap.size wc (((((W.setCell ⟨B, 0, none⟩ (.int .i64 P.tm)).setCell ⟨B, 1, none⟩ (.int .i64 M)).setCell ⟨B, 2, none⟩ (.int .i64 0)).setCell ⟨B, 3, none⟩ (.bool F.k)).setCell ⟨B, 4, none⟩ (.bool (wholeB ps f i))) := ((((hI.setCell hBb _).setCell hBb _).setCell hBb _).setCell hBb _).setCell hBb _
              go_upto_region 8 with fail
              generalize ((((W.setCell ⟨B, 0, none⟩ (.int .i64 P.tm)).setCell ⟨B, 1, none⟩ (.int .i64 M)).setCell ⟨B, 2, none⟩ (.int .i64 0)).setCell ⟨B, 3, none⟩ (.bool F.k)).setCell ⟨B, 4, none⟩ (.bool (wholeB ps f i)) = w3 at hB3 hI3 ⊢
              clear cB fB lB hBB hI
              have HBb := Lib.hid hBb
              clear hBb
              go_upto_region 9 with fail
              go_loopw [7] (fun c wr => ∃ k : Nat, f ≤ k ∧ k ≤ i + 1 ∧ c = .int .i64 (k : Int) ∧ Blk wr B 29 #[.int .i64 P.tm, .int .i64 M, .int .i64 (szTo ps k - szTo ps f), .bool F.k, .bool (wholeB ps f i)] ∧ Below wc.heap.size wc wr) (fun c _ => i + 1 - (intOf c).toNat)
              case atStart => exact ⟨f, Nat.le_refl _, by omega, rfl, by simpa using hB3, hI3⟩
              case round =>
                clear hB3 hI3
                obtain ⟨k, hfk, hki, rfl, hPic, hbel⟩ := hrel
                have cB := hPic.cells; have fB := hPic.free; have lB := hPic.lt
                by_cases hlt2 : k ≤ i
                · obtain ⟨Q, hQ⟩ : ∃ Q, Q = pk ps k := ⟨_, rfl⟩
                  have s1 := szTo_mono HV.out (f := f) (i := k) hfk (by omega)
                  have s2 := szTo_le HV.out (i := k) (by omega)
                  have s3 := szTo_le HV.out (i := f) (by omega)
                  have s4 := pvs_sz HV.out (i := k) (by omega)
                  rw [← hQ] at s4
                  have HS := Lib.hid (show szTo ps (k + 1) = szTo ps k + Q.sz by rw [hQ]; rfl)
                  obtain ⟨S, hS⟩ : ∃ S : Int, S = szTo ps k - szTo ps f := ⟨_, rfl⟩
                  rw [← hS] at hPic cB
                  have sw : IntKind.i64.wrap (S + Q.sz) = S + Q.sz := IntWalk.i64_in _ (by omega)
                  have HSS := Lib.hid hS
                  have HQI := Lib.hid hQ
                  have k0 : (0 : Int) ≤ (k : Int) := by omega
                  have k1 : (k : Int) ≤ (i : Int) := by omega
                  have k2 : (k : Int) < (ps.length : Int) := by omega
                  have hlb : b < wr.heap.size := Nat.lt_of_lt_of_le hbc1 hbel.size
                  have HPC := Lib.hid (And.intro hPic hbel)
                  clear hQ hS s1 s2 s3 s4
                  obtain ⟨q0, q1, q2, q3, q4, q5⟩ := (HRC.out k Q (by rw [HQI.out]; exact pk_at (by omega))).keep (w' := wr) fun k => hbel.cell (p := ⟨b, k, none⟩) hbc1
                  clear hPic hbel
                  go_upto_region 11 with fail
                  refine wp_region_facts 9 [64, 65, 66, 67, 68, 69, 70, 71, 72] (V11 B b off ps.length cap k S Q.sz) (fun _ W => W = wr.drew) (fun w w' => w' = w) (by kernel_rfl) (by kernel_rfl) (by rfl) ?hI V11_keep ?hob ?hend
                  case hI => exact rfl
                  case hob =>
                    simp only [List.take_succ_cons, List.take_zero, Obs, and_true]
                    refine ⟨?_, ?_, ?_, ?_, ?_, ?_, ?_, ?_, ?_⟩
                    · intro k' x W hkn hI hd K hK0
                      have hK := hK0.out
                      simp only [setAll, Act.put, List.foldl_cons, List.foldl_nil, List.setIfInBounds_toArray, List.set_cons_succ, List.set_cons_zero] at hK ⊢
                      have HK := Lib.hid hK
                      clear hK hK0
                      rw [if_pos (by rfl)]
                      clear hd
                      subst hI
                      go_simp
                      exact HK.out _ _ rfl rfl ⟨rfl, fun h => by cases h⟩
                    · intro k' x W hkn hI hd K hK0
                      have hK := hK0.out
                      simp only [setAll, Act.put, List.foldl_cons, List.foldl_nil, List.setIfInBounds_toArray, List.set_cons_succ, List.set_cons_zero] at hK ⊢
                      have HK := Lib.hid hK
                      clear hK hK0
                      rw [if_pos (by rfl)]
                      obtain e64 : x 64 = .pointer (some ⟨B, 2, none⟩) := hd 0 _ rfl (by kernel_rfl)
                      rw [e64] at HK ⊢
                      clear hd
                      subst hI
                      go_simp
                      exact HK.out _ _ rfl rfl ⟨rfl, fun h => by cases h⟩
                    · intro k' x W hkn hI hd K hK0
                      have hK := hK0.out
                      simp only [setAll, Act.put, List.foldl_cons, List.foldl_nil, List.setIfInBounds_toArray, List.set_cons_succ, List.set_cons_zero] at hK ⊢
                      have HK := Lib.hid hK
                      clear hK hK0
                      rw [if_pos (by rfl)]
                      clear hd
                      subst hI
                      go_simp
                      exact HK.out _ _ rfl rfl ⟨rfl, fun h => by cases h⟩
                    · intro k' x W hkn hI hd K hK0
                      have hK := hK0.out
                      simp only [setAll, Act.put, List.foldl_cons, List.foldl_nil, List.setIfInBounds_toArray, List.set_cons_succ, List.set_cons_zero] at hK ⊢
                      have HK := Lib.hid hK
                      clear hK hK0
                      rw [if_pos (by rfl)]
                      clear hd
                      subst hI
                      go_simp
                      exact HK.out _ _ rfl rfl ⟨rfl, fun h => by cases h⟩
                    · intro k' x W hkn hI hd K hK0
                      have hK := hK0.out
                      simp only [setAll, Act.put, List.foldl_cons, List.foldl_nil, List.setIfInBounds_toArray, List.set_cons_succ, List.set_cons_zero] at hK ⊢
                      have HK := Lib.hid hK
                      clear hK hK0
                      rw [if_pos (by rfl)]
                      obtain e66 : x 66 = .slice (some ⟨b, off, none⟩) ps.length cap := hd 2 _ rfl (by kernel_rfl)
                      obtain e67 : x 67 = .int .i64 (k : Int) := hd 3 _ rfl (by kernel_rfl)
                      rw [e66, e67] at HK ⊢
                      clear hd
                      subst hI
                      go_simp
                      exact HK.out _ _ rfl rfl ⟨rfl, fun h => by cases h⟩
                    · intro k' x W hkn hI hd K hK0
                      have hK := hK0.out
                      simp only [setAll, Act.put, List.foldl_cons, List.foldl_nil, List.setIfInBounds_toArray, List.set_cons_succ, List.set_cons_zero] at hK ⊢
                      have HK := Lib.hid hK
                      clear hK hK0
                      rw [if_pos (by rfl)]
                      obtain e68 : x 68 = .pointer (some ⟨b, off + k * 6, none⟩) := hd 4 _ rfl (by kernel_rfl)
                      rw [e68] at HK ⊢
                      clear hd
                      subst hI
                      go_simp
                      exact HK.out _ _ rfl rfl ⟨rfl, fun h => by cases h⟩
                    · intro k' x W hkn hI hd K hK0
                      have hK := hK0.out
                      simp only [setAll, Act.put, List.foldl_cons, List.foldl_nil, List.setIfInBounds_toArray, List.set_cons_succ, List.set_cons_zero] at hK ⊢
                      have HK := Lib.hid hK
                      clear hK hK0
                      rw [if_pos (by rfl)]
                      obtain e69 : x 69 = .pointer (some ⟨b, off + k * 6 + 3, none⟩) := hd 5 _ rfl (by kernel_rfl)
                      rw [e69] at HK ⊢
                      clear hd
                      subst hI
                      go_simp
                      exact HK.out _ _ rfl rfl ⟨rfl, fun h => by cases h⟩
                    · intro k' x W hkn hI hd K hK0
                      have hK := hK0.out
                      simp only [setAll, Act.put, List.foldl_cons, List.foldl_nil, List.setIfInBounds_toArray, List.set_cons_succ, List.set_cons_zero] at hK ⊢
                      have HK := Lib.hid hK
                      clear hK hK0
                      rw [if_pos (by rfl)]
                      obtain e65 : x 65 = .int .i64 S := hd 1 _ rfl (by kernel_rfl)
                      obtain e70 : x 70 = .int .i64 Q.sz := hd 6 _ rfl (by kernel_rfl)
                      rw [e65, e70] at HK ⊢
                      clear hd
                      subst hI
                      go_simp
                      exact HK.out _ _ rfl rfl ⟨rfl, fun h => by cases h⟩
                    · intro k' x W hkn hI hd K hK0
                      have hK := hK0.out
                      simp only [setAll, Act.put, List.foldl_cons, List.foldl_nil, List.setIfInBounds_toArray, List.set_cons_succ, List.set_cons_zero] at hK ⊢
                      have HK := Lib.hid hK
                      clear hK hK0
                      rw [if_pos (by rfl)]
                      clear hd
                      subst hI
                      go_simp
                      exact HK.out _ _ rfl rfl ⟨rfl, fun h => by cases h⟩
                  case hend =>
                    rintro x W rfl hV
                    obtain e71 : x 71 = .int .i64 (S + Q.sz) := hV 7 _ (by omega) rfl
                    obtain e72 : x 72 = .pointer (some ⟨B, 2, none⟩) := hV 8 _ (by omega) rfl
                    clear hV
                    simp only [setAll, Act.put, List.foldl_cons, List.foldl_nil, List.setIfInBounds_toArray, List.set_cons_succ, List.set_cons_zero, List.drop_succ_cons, List.drop_zero]
                    rw [e71, e72]
                    clear e71 e72
                    go_wp2_with fail
                    go_roundw
                    case rel => exact ⟨k + 1, by omega, by omega, by go_num, by
                      have := (HPC.out.1.set_ 2 (.int .i64 (S + Q.sz))).drew
                      rw [show szTo ps (k + 1) - szTo ps f = S + Q.sz by rw [HS.out, HSS.out]; omega]
                      simpa using this, ((HPC.out.2).setCell (p := ⟨B, 2, none⟩) HBb.out _).drew⟩
                    case measure => simp [intOf]; omega
                · obtain rfl : k = i + 1 := by omega
                  have hno := (cuts_ok ps i).2.1
                  rw [HC.out] at hno
                  obtain ⟨S, hS⟩ : ∃ S : Int, S = szTo ps (i + 1) - szTo ps f := ⟨_, rfl⟩
                  rw [← hS] at hPic cB
                  obtain ⟨q, hq⟩ : ∃ q, q = pict ps (f, i + 1) := ⟨_, rfl⟩
                  have hqc : picc q = [.int .i64 P.tm, .int .i64 M, .int .i64 S, .bool F.k, .bool (wholeB ps f i)] := by
                    rw [hq, HPI.out, HF.out, HM.out, HT.out, hS]
                    have := tm_run hno i hfi (Nat.le_refl _)
                    simp [picc, pict, this]
                  have hPq : Blk wr B 29 (picc q).toArray := by rw [hqc]; exact hPic
                  obtain ⟨c0, c1, c2, c3, c4⟩ : Five wr B 0 q := by
                    have hc := hPq.cells
                    exact ⟨by rw [hc]; rfl, by rw [hc]; rfl, by rw [hc]; rfl, by rw [hc]; rfl, by rw [hc]; rfl⟩
                  simp only [Nat.zero_add] at c1 c2 c3 c4
                  have hown : OwnP wr w.heap.size v (L.map (pict ps)) := HOC.out.1.below hbel
                  have hbw := Fr.step HOC.out.2 hbel
                  obtain ⟨n, hn⟩ : ∃ n, n = (L.map (pict ps)).length := ⟨_, rfl⟩
                  have hnl : n ≤ 20 := by have h2 := HL20.out; rw [hn, List.length_map]; omega
                  obtain ⟨cs, hcs⟩ : ∃ cs, cs = piccs (L.map (pict ps)) := ⟨_, rfl⟩
                  unfold OwnP at hown
                  rw [← hn, ← hcs] at hown
                  have hol := World.ownsRow.lt hown
                  have hwsz := hbw.size
                  have k0 : ¬ ((i : Int) + 1 ≤ (i : Int)) := by omega
                  have HX := Lib.hid (And.intro hn (And.intro hcs (And.intro hq hbw)))
                  clear hn hcs hq hqc hPq hPic cB hbel hbw hS hno
                  go_upto_region 13 with (at_builtin; refine wpList_append_lies _ rfl (.tmp 73) (.tmp 75) _ rfl w.heap.size 29 i0 _ 5 32 Try.underlying25 HI.out.1 HI.out.2.1 HI.out.2.2.1 HI.out.2.2.2 rfl (by omega) v n cs rfl (World.ownsRow.alloc hown _) ⟨wr.heap.size, 0, none⟩ 1 1 (picc q) rfl rfl (World.news_of_block (heap_alloc_new wr _)) (by intro u hu; simp [picc] at hu; rcases hu with rfl | rfl | rfl | rfl | rfl <;> rfl) (by omega) (by unfold maxLen; omega) (by omega) (by simp; omega) _ rfl ?_; intro g' cap' w8 hown8 hgrow hat hlt8)
                  have hO8 : OwnP w8 w.heap.size (.slice (some ⟨g', 0, none⟩) (n + 1) cap') ((L ++ [(f, i + 1)]).map (pict ps)) := by
                    unfold OwnP
                    rw [List.map_append, List.map_cons, List.map_nil, ← HX.out.2.2.1, List.length_append, piccs_append, ← HX.out.1, ← HX.out.2.1]
                    simpa [piccs] using hown8
                  have hb8 : Below w.heap.size w w8 := (Fr.alloc HX.out.2.2.2 _).grown hgrow (by simp; omega) (fun k hk => (hol k hk).1)
                  clear hown hown8 hgrow hat c0 c1 c2 c3 c4 fB lB
                  go_wp2_with fail
                  go_roundw
                  case rel => first | exact ⟨i + 1, L ++ [(f, i + 1)], i + 1, by omega, by go_num, by go_num, by rw [cutsTo_yes HE.out, HC.out], hO8, hb8⟩ | ((repeat apply Exists.intro); exact ⟨⟨i + 1, L ++ [(f, i + 1)], i + 1, by omega, by go_num, by go_num, by rw [cutsTo_yes HE.out, HC.out], hO8, hb8⟩, rfl⟩)
                  case measure => simp [intOf]; omega
      · obtain rfl : i = ps.length := by omega
        go_wp2_with fail
        go_ret
        exact ⟨_, rfl, by rw [H.out, HC.out]; exact hO, hB⟩

end Go.Proofs.Ytjdpagjcbhkonaa
