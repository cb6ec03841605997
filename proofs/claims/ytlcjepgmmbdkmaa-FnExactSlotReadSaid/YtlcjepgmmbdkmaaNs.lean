/-
  newSlot's loop in company.
-/
import Derived.Test.YtlcjepgmmbdkmaaNs0
namespace Go.Proofs.Ytlcjepgmmbdkmaa.Ph
open Go.Conc Go.Proofs.Ytlcjepgmmbdkmaa.Auto Go.Proofs.Ytlcjepgmmbdkmaa.Trc Go.RowKit Go.Conc.Lib Go.ConcR.Gen
open Go.ConcM hiding Eff Eff.refl Eff.set Eff.later Eff.asked ShAt MuAt Pc Th Sh hd at_ After
open Go.ConcR (KK wgBlock WgAt stA smA rd wr mk)
set_option linter.unusedSimpArgs false
set_option linter.unusedVariables false

theorem spawned {P : Program} {main : Bool} {g g' child : Goroutine} {w w' : World} {es : Array Event} (h : stepG P main g w = .spawn g' child w' es) (he : ∀ e ∈ es, False) : stepG P main g w = .spawn g' child w' #[] := by
  rw [h, Array.eq_empty_iff_forall_not_mem.2 he]
section
variable {N c : Nat} {ver : Int} {xs : List Int} {Z : Nat → Prop} {A : Option Addr} {cap : Nat} {cs : List Frame}
set_option maxRecDepth 100000 in
set_option maxHeartbeats 16000000 in
/-- ████ newSlot's LOOP. ████ -/
theorem forGo (c1 : 1 ≤ c) (h6 : xs.length ≤ 6) : ∀ (r j : Nat), j + r = xs.length → ∀ d, ∃ m, ∀ (j2 j3 j7 j8 j9 j10 j11 j12 j13 j14 j18 j19 j20 j21 j22 j23 j24 j25 j26 j27 : Value) (w : World), KF N c ver xs Z A (N + 4 + 2 * j) w →
    Goes Try.prog true (RS (geoN N c ver xs Z)) (DS (geoN N c ver xs Z) j) (SAt (geoN N c ver xs Z) Try.prog (FinN N ver xs A cap cs) d (if r = 0 then ⟨.xd, 0, 0⟩ else ⟨.kd, r, 0⟩)) m
      (G ((base 42).at ⟨#[.int .i64 ver, .slice A xs.length cap, j2, j3, .pointer (some ⟨N, 0, none⟩), .pointer (some ⟨N + 2, 0, none⟩), .pointer (some ⟨N + 3, 0, none⟩), j7, j8, j9, j10, j11, j12, j13, j14, .slice A xs.length cap, .int .i64 (xs.length : Int), .int .i64 (j : Int), j18, j19, j20, j21, j22, j23, j24, j25, j26, j27], []⟩ [.code LL42, .inLoop LL42, .inBlock 0, .code R942]) cs) w := by
  intro r
  induction r with
  | zero =>
    intro j hj d
    obtain rfl : j = xs.length := by omega
    refine ⟨4000, fun j2 j3 j7 j8 j9 j10 j11 j12 j13 j14 j18 j19 j20 j21 j22 j23 j24 j25 j26 j27 w hF => ?_⟩
    have hK := KF.ok (N := N) (c := c) (ver := ver) (xs := xs) (Z := Z) (A := A) (N + 4 + 2 * xs.length)
    rw [if_pos rfl]
    have hlt : ((xs.length : Int) < (xs.length : Int)) ↔ False := by simp
    simp only [LL42, R942, body42, findLoop, sndOf, fstOf, Try.f42, Option.getD_some]
    refine plainGo (n := 200) ?_
    repeat w_go hK.rely
    u_call Try.func53 nm53 Try.f53 hK.rely hF
    refine Goes.stop (fun _ r₁ => ?_)
    replace hF := hK.rely hF r₁
    clear r₁
    show Goes _ _ _ _ _ _ _ _
    exact goes_le (by omega) (waitWhole (gok h6) hK (fun w h => ⟨⟨_, _, _, _, _, _, _, _, _, _, _, _, _, _, _, _, _, _, _, _, rfl⟩, h.size⟩) d _ hF)
  | succ r ih =>
    intro j hj d
    refine ⟨4000, fun j2 j3 j7 j8 j9 j10 j11 j12 j13 j14 j18 j19 j20 j21 j22 j23 j24 j25 j26 j27 w hF => ?_⟩
    have hK := KF.ok (N := N) (c := c) (ver := ver) (xs := xs) (Z := Z) (A := A) (N + 4 + 2 * j)
    rw [if_neg (Nat.succ_ne_zero r)]
    have hjn : j < xs.length := by omega
    have hlt : decide ((j : Int) < (xs.length : Int)) = true := by simp; omega
    have hlt' : (j : Int) < (xs.length : Int) := by omega
    have h0 : (0 : Int) ≤ (j : Int) := by omega
    simp only [LL42, R942, body42, findLoop, sndOf, fstOf, Try.f42, Option.getD_some]
    refine plainGo (n := 200) ?_
    repeat w_go hK.rely
    refine Goes.stop (fun _ r₁ => ?_)
    replace hF := hK.rely hF r₁
    clear r₁
    show Goes _ _ _ _ _ _ _ _
    obtain ⟨b, off, rfl, hb, hz, _⟩ := hF.row
    refine plainGo (n := 200) ?_
    repeat w_go hK.rely
    refine Goes.stop (fun _ r₁ => ?_)
    replace hF := hK.rely hF r₁
    clear r₁
    show Goes _ _ _ _ _ _ _ _
    -- the word
    u_in hK.rely hF
    obtain ⟨x, hx⟩ : ∃ x, xs.getD j 0 = x := ⟨_, rfl⟩
    have hcl := (hF.elem hjn).1
    rw [hx] at hcl
    rw [stepG_load3 rfl rfl (by k_ne) rfl rfl hcl loud42]
    clear hcl
    simp only [goes_go]
    refine ⟨ds_readOld hb hz, ?_⟩
    walk_nrm
    -- the boxes
    have hF : KC N c ver xs Z (some ⟨b, off, none⟩) (N + 4 + 2 * j) [] _ := ⟨hF, fun p hp => (by cases hp)⟩
    clear hK
    have hK := KC.ok (N := N) (c := c) (ver := ver) (xs := xs) (Z := Z) (A := some ⟨b, off, none⟩) (N + 4 + 2 * j) []
    u_in hK.rely hF
    have hsz := hF.kf.size
    refine goes_oper_k rfl rfl (by k_ne) (fun Kx hKx => ?_)
    go_simp
    refine hKx _ _ ⟨ds_alloc (by omega) ?_, ?_⟩
    · intro e he
      have hm := mem_listed he
      simp [go_sem] at hm
    clear hKx Kx
    replace hF := hF.alloc (by omega) (.int .i64 0)
    clear hK hsz
    have hK := KC.ok (N := N) (c := c) (ver := ver) (xs := xs) (Z := Z) (A := some ⟨b, off, none⟩) (N + 4 + 2 * j + 1) [(N + 4 + 2 * j, .int .i64 0)]
    u_in hK.rely hF
    have hsz := hF.kf.size
    refine goes_oper_k rfl rfl (by k_ne) (fun Kx hKx => ?_)
    go_simp
    refine hKx _ _ ⟨ds_alloc (by omega) ?_, ?_⟩
    · intro e he
      have hm := mem_listed he
      simp [go_sem] at hm
    clear hKx Kx
    replace hF := hF.alloc (by omega) (.int .i64 0)
    clear hK hsz
    have hK := KC.ok (N := N) (c := c) (ver := ver) (xs := xs) (Z := Z) (A := some ⟨b, off, none⟩) (N + 4 + 2 * j + 1 + 1) [(N + 4 + 2 * j + 1, .int .i64 0), (N + 4 + 2 * j, .int .i64 0)]
    u_in hK.rely hF
    rw [stepG_store3 rfl rfl (by k_ne) rfl rfl rfl (hF.cell (q := N + 4 + 2 * j) (u := .int .i64 0) (by simp)).1 (hF.cell (q := N + 4 + 2 * j) (u := .int .i64 0) (by simp)).2 loud42]
    simp only [goes_go]
    refine ⟨ds_store0 c1 (.inl rfl) hjn _, ?_⟩
    replace hF := hF.set (q := N + 4 + 2 * j) (u := .int .i64 0) (by simp) (.int .i64 (j : Int)) [(N + 4 + 2 * j + 1, .int .i64 0), (N + 4 + 2 * j, .int .i64 (j : Int))] (by simp)
    clear hK
    have hK := KC.ok (N := N) (c := c) (ver := ver) (xs := xs) (Z := Z) (A := some ⟨b, off, none⟩) (N + 4 + 2 * j + 1 + 1) [(N + 4 + 2 * j + 1, .int .i64 0), (N + 4 + 2 * j, .int .i64 (j : Int))]
    walk_nrm
    u_in hK.rely hF
    rw [stepG_store3 rfl rfl (by k_ne) rfl rfl rfl (hF.cell (q := N + 4 + 2 * j + 1) (u := .int .i64 0) (by simp)).1 (hF.cell (q := N + 4 + 2 * j + 1) (u := .int .i64 0) (by simp)).2 loud42]
    simp only [goes_go]
    refine ⟨ds_store0 c1 (.inr rfl) hjn _, ?_⟩
    replace hF := hF.set (q := N + 4 + 2 * j + 1) (u := .int .i64 0) (by simp) (.int .i64 x) [(N + 4 + 2 * j + 1, .int .i64 x), (N + 4 + 2 * j, .int .i64 (j : Int))] (by simp)
    clear hK
    have hK := KC.ok (N := N) (c := c) (ver := ver) (xs := xs) (Z := Z) (A := some ⟨b, off, none⟩) (N + 4 + 2 * j + 1 + 1) [(N + 4 + 2 * j + 1, .int .i64 x), (N + 4 + 2 * j, .int .i64 (j : Int))]
    walk_nrm
    refine plainGo (n := 200) ?_
    repeat w_go hK.rely
    u_call Try.func49 nm49 Try.f49 hK.rely hF
    refine Goes.stop (fun _ r₁ => ?_)
    replace hF := hK.rely hF r₁
    clear r₁
    show Goes _ _ _ _ _ _ _ _
    have ej : (geoN N c ver xs Z).n - (r + 1) = j := by simp only [geoN]; omega
    have ed : DS (geoN N c ver xs Z) j = DS (geoN N c ver xs Z) ((geoN N c ver xs Z).n - (r + 1)) := by rw [ej]
    rw [ed]
    refine goes_le (by omega) (addGo (r := r + 1) (gok h6) hK ?_ d _ hF)
    clear ed
    intro d
    obtain ⟨mN, hN⟩ := ih (j + 1) (by omega) d
    refine ⟨800, fun w hF => ?_⟩
    show Goes _ _ _ (DS (geoN N c ver xs Z) ((geoN N c ver xs Z).n - (r + 1))) _ _ _ _
    walk_nrm
    refine plainGo (n := 200) ?_
    repeat w_go hK.rely
    refine Goes.stop (fun _ r₁ => ?_)
    replace hF := hK.rely hF r₁
    clear r₁
    show Goes _ _ _ _ _ _ _ _
    -- THE go STATEMENT
    refine Goes.stop (fun _ r₁ => ?_)
    replace hF := hK.rely hF r₁
    clear r₁
    rcases d with _ | d
    · trivial
    have hnx : Sr.next ⟨.go, r + 1, 0⟩ = if r = 0 then ⟨.xd, 0, 0⟩ else ⟨.kd, r, 0⟩ := by
      unfold Sr.next
      cases r <;> simp
    have hnr : (geoN N c ver xs Z).n - (Sr.next ⟨.go, r + 1, 0⟩).r = j + 1 := by
      rw [hnx]
      simp only [geoN]
      split <;> simp only <;> omega
    refine ⟨rfl, rfl, fun h => (by cases h), fun _ => ⟨_, _, spawned (stepG_spawn (d := call50 (geoN N c ver xs Z) (N + 4 + 2 * j) (N + 4 + 2 * j + 1)) (f := .func 50) (c := #[.pointer (some ⟨N + 3, 0, none⟩), .pointer (some ⟨N + 2, 0, none⟩), .pointer (some ⟨N + 4 + 2 * j, 0, none⟩), .pointer (some ⟨N + 4 + 2 * j + 1, 0, none⟩)]) rfl rfl (by k_ne) (by simp [go_sem, call50, Deferred.ofValue, geoN] <;> rfl) rfl) (fun e he => ?_), rfl, fun hp hl dd => ⟨4000, ?_⟩, ?_⟩, fun _ h => absurd rfl h⟩
    · have hm := mem_listed he
      simp [go_sem, Deferred.ofValue] at hm
    · show Goes _ _ (RW (geoN N c ver xs Z) ((geoN N c ver xs Z).n - (r + 1))) (DW (geoN N c ver xs Z) ((geoN N c ver xs Z).n - (r + 1)) _) (WAt (geoN N c ver xs Z) _ ((geoN N c ver xs Z).n - (r + 1)) _ _) _ _ _
      rw [ej]
      exact workerGo (gok h6) (wokN hjn) dd _ ⟨hl, hp, (hF.cell (q := N + 4 + 2 * j) (u := .int .i64 (j : Int)) (by simp)).1, by rw [hx]; exact (hF.cell (q := N + 4 + 2 * j + 1) (u := .int .i64 x) (by simp)).1⟩
    · rw [hnr, hnx]
      have hF := hF.kf
      clear hnr hnx ej hK
      have hK := KF.ok (N := N) (c := c) (ver := ver) (xs := xs) (Z := Z) (A := some ⟨b, off, none⟩) (N + 4 + 2 * j + 1 + 1)
      obtain ⟨mN, hN⟩ := ih (j + 1) (by omega) d
      have hw1 : IntKind.wrap .i64 ((j : Int) + 1) = ((j + 1 : Nat) : Int) := by rw [IntKind.wrap_i64]; omega
      refine ⟨mN + 2400, ?_⟩
      walk_nrm
      refine plainGo (n := 200) ?_
      repeat w_nl hK.rely
      u_c stepG_inLoop hK.rely hF
      refine Goes.stop (fun _ r₁ => ?_)
      replace hF := hK.rely hF r₁
      clear r₁
      show Goes _ _ _ _ _ _ _ _
      exact goes_pad (hN _ _ _ _ _ _ _ _ _ _ _ _ _ _ _ _ _ _ _ _ _ hF) _
end

end Go.Proofs.Ytlcjepgmmbdkmaa.Ph
