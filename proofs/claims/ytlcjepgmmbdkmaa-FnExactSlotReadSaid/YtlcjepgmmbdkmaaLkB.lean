/-
  lockSlow's shapes.
-/
import Derived.Test.YtlcjepgmmbdkmaaKw
namespace Go.Proofs.Ytlcjepgmmbdkmaa.Ph
open Go.Conc Go.Proofs.Ytlcjepgmmbdkmaa.Auto Go.Proofs.Ytlcjepgmmbdkmaa.Trc Go.RowKit Go.Conc.Lib Go.ConcR.Gen
open Go.ConcM hiding Eff Eff.refl Eff.set Eff.later Eff.asked ShAt MuAt Pc Th Sh hd at_ After
open Go.ConcR (KK wgBlock WgAt stA smA rd wr mk)
set_option linter.unusedSimpArgs false
set_option linter.unusedVariables false

theorem u102 : Try.prog.underlying 102 = some (.pointer 62) := by kernel_rfl
theorem z62 : (Try.prog.info? 62).map (fun i => decide (i.size = 0)) = some false := by kernel_rfl
theorem q82 : (Try.prog.funcs[(base 82).fn]?).any (·.norace) = true := by kernel_rfl
theorem q79 : (Try.prog.funcs[(base 79).fn]?).any (·.norace) = true := by kernel_rfl
theorem q84 : (Try.prog.funcs[(base 84).fn]?).any (·.norace) = true := by kernel_rfl
theorem x85_n : (Try.f85.name == "runtime.NumGoroutine") = false := by kernel_rfl
theorem x85_b : Try.f85.body.isNone = true := by kernel_rfl
theorem x85_x : Extern.findNext Try.f85 = none := by kernel_rfl
theorem x85_f : Extern.find Try.f85 = some (Extern.Sync.canSpin) := by kernel_rfl
theorem x86_n : (Try.f86.name == "runtime.NumGoroutine") = false := by kernel_rfl
theorem x86_b : Try.f86.body.isNone = true := by kernel_rfl
theorem x86_x : Extern.findNext Try.f86 = none := by kernel_rfl
theorem x86_f : Extern.find Try.f86 = some (fun _ => pure (.tuple #[])) := by kernel_rfl
theorem x88_n : (Try.f88.name == "runtime.NumGoroutine") = false := by kernel_rfl
theorem x88_b : Try.f88.body.isNone = true := by kernel_rfl
theorem x88_x : Extern.findNext Try.f88 = none := by kernel_rfl
theorem x88_f : Extern.find Try.f88 = some (Extern.OsHooks.nano) := by kernel_rfl
theorem x89_n : (Try.f89.name == "runtime.NumGoroutine") = false := by kernel_rfl
theorem x89_b : Try.f89.body.isNone = true := by kernel_rfl
theorem x89_x : Extern.findNext Try.f89 = none := by kernel_rfl
theorem x89_f : Extern.find Try.f89 = some (Extern.Sync.semacquire) := by kernel_rfl
theorem x91_n : (Try.f91.name == "runtime.NumGoroutine") = false := by kernel_rfl
theorem x91_b : Try.f91.body.isNone = true := by kernel_rfl
theorem x91_x : Extern.findNext Try.f91 = none := by kernel_rfl
theorem x91_f : Extern.find Try.f91 = some (Extern.Sync.semrelease) := by kernel_rfl
theorem x88_q : Try.f88.norace = true := by kernel_rfl
abbrev GT (Γ : Geo) (i k : Nat) (T : Th) (m : Nat) (g : Goroutine) (w : World) : Prop := Goes Try.prog false (RW Γ i) (DW Γ i T) (WAt Γ Try.prog i k T) m g w

section
variable {main : Bool} {b : Frame} {a : Act} {kk : List Item} {cs : List Frame} {w : World} {ops : Array Oper} {i : Nat} {rest : List Nat} {o : Oper}
/-- A plain load of an int32 in a function that is 'norace': nothing reaches the trace. -/
theorem stepG_loadQ {x : Operand} (ho : ops[i]? = some o) (hw : Region.wanted o (yielded ops a.tmps) = true) (hk : b.kind ≠ .early) (hop : o.op = .load 21 x)
    {ad : Addr} {v : Int} (hx : a.eval x = .pointer (some ad)) (hc : w.cell? ad = some (.int .i32 v)) (hq : (Try.prog.funcs[b.fn]?).any (·.norace) = true) :
    stepG Try.prog main (G (b.at a (.inRegion ops (i :: rest) :: kk)) cs) w = .go (G (b.at (a.put o.dst (.int .i32 v)) (.inRegion ops rest :: kk)) cs) w #[] := by
  have hr : (execOp a.eval o).run Try.prog w = .ok (.value (.int .i32 v)) w := by
    unfold execOp
    simp only [hop, hx]
    simp [go_sem, hc]
  have he : (execOp a.eval o).events Try.prog w #[] = #[⟨.cell ad, false, false⟩] := by
    unfold execOp
    simp only [hop, hx]
    simp [go_sem, hc]
  rw [stepG_value ho hw hk hr]
  unfold listed
  rw [he, seen_def, hq]
  simp [seenStep]
end

def findLoop : Code → Option Code
  | .loop c => some c
  | .seq x y => match findLoop x with | some c => some c | none => findLoop y
  | .block _ c => findLoop c
  | .cond _ a b => match findLoop a with | some c => some c | none => findLoop b
  | _ => none
def behindBlock : Code → Option Code
  | .seq (.block _ _) r => some r
  | .seq _ y => behindBlock y
  | _ => none
def blkOf : Code → Code
  | .block _ c => c
  | c => c
def sndOf : Code → Code
  | .seq _ b => b
  | c => c
def fstOf : Code → Code
  | .seq a _ => a
  | c => c
def thenOf : Code → Code
  | .cond _ a _ => a
  | c => c
noncomputable def body82 : Code := Try.f82.body.getD .skip
noncomputable def LL82 : Code := (findLoop body82).getD .skip
noncomputable def REST82 : Code := (behindBlock body82).getD .skip
noncomputable def Y82 : Code := sndOf (blkOf LL82)
noncomputable def Q82 : Code := sndOf (thenOf (sndOf (sndOf (sndOf (sndOf (sndOf (sndOf Y82)))))))
noncomputable def S82 : Code := sndOf (sndOf Q82)
noncomputable def V82 : Code := sndOf (sndOf S82)
noncomputable def D82 : Code := sndOf (thenOf (sndOf (fstOf (blkOf LL82))))

/-- What holds at the loop's head. -/
structure HOk (T : Th) (wst : Int) : Prop where
  sml : Sml T.old 6
  aw : T.aw = true → T.old.k = 1 ∧ T.old.s = 0
  sv : T.sv = true → T.aw = true
  it : T.it ≤ 4
  ws : T.ws = decide (wst ≠ 0)
/-- Behind the loop: the lock is taken. -/
def TakeAt (Γ : Geo) (i : Nat) (K : World → Prop) (b₁ : Frame) (a₁ : Act) (ops₁ : Array Oper) (i₁ : Nat) (rest₁ : List Nat) (k₁ : List Item) (cs₁ : List Frame) (k : Nat)  : Prop :=
  ∃ m, ∀ (j1 j2 j3 j4 j5 j6 j7 j8 j9 j10 j11 j12 j13 j14 j15 j16 j17 j18 j19 j20 j21 j22 j23 j24 j25 j26 j27 j28 j29 j30 j31 j32 j33 j34 j35 j36 j37 j38 j39 j40 j41 j42 j43 j44 j45 j46 j47 j48 j49 j50 j51 j52 j53 j54 j55 j56 j57 j58 j59 j60 j61 j62 j63 j64 j65 j66 j67 j68 j69 j70 j71 j72 j73 j74 j75 j76 j77 j78 j79 j80 j81 j82 j83 j84 j85 j86 j87 j88 j89 j90 j91 j92 j93 j94 j95 j96 j97 j98 j99 j100 j101 j102 j103 j104 j105 j106 j107 j108 j109 j110 j111 j112 j113 j114 j115 j116 j117 j118 j119 j120 j121 j122 j123 j124 j125 j126 j127 j128 j129 j130 j131 j132 j133 j134 j135 j136 j137 j138 : Value) (w : World), K w →
    GT Γ i k (at_ .le) m (G ((base 82).at ⟨#[.pointer (some ⟨Γ.Mu, 0, none⟩), j1, j2, j3, j4, j5, j6, j7, j8, j9, j10, j11, j12, j13, j14, j15, j16, j17, j18, j19, j20, j21, j22, j23, j24, j25, j26, j27, j28, j29, j30, j31, j32, j33, j34, j35, j36, j37, j38, j39, j40, j41, j42, j43, j44, j45, j46, j47, j48, j49, j50, j51, j52, j53, j54, j55, j56, j57, j58, j59, j60, j61, j62, j63, j64, j65, j66, j67, j68, j69, j70, j71, j72, j73, j74, j75, j76, j77, j78, j79, j80, j81, j82, j83, j84, j85, j86, j87, j88, j89, j90, j91, j92, j93, j94, j95, j96, j97, j98, j99, j100, j101, j102, j103, j104, j105, j106, j107, j108, j109, j110, j111, j112, j113, j114, j115, j116, j117, j118, j119, j120, j121, j122, j123, j124, j125, j126, j127, j128, j129, j130, j131, j132, j133, j134, j135, j136, j137, j138], []⟩ [.code REST82]) (b₁.at a₁ (.inRegion ops₁ (i₁ :: rest₁) :: k₁) :: cs₁)) w
/-- It has queued. -/
def QAt (Γ : Geo) (i : Nat) (K : World → Prop) (b₁ : Frame) (a₁ : Act) (ops₁ : Array Oper) (i₁ : Nat) (rest₁ : List Nat) (k₁ : List Item) (cs₁ : List Frame) (k : Nat) (T : Th) (wst : Int) : Prop :=
  ∃ m, ∀ (j1 j4 j5 j6 j7 j8 j9 j10 j11 j12 j13 j14 j15 j16 j17 j18 j19 j20 j21 j22 j23 j24 j25 j26 j27 j28 j29 j30 j31 j32 j33 j34 j35 j36 j37 j38 j39 j40 j41 j42 j43 j44 j45 j46 j47 j48 j49 j50 j51 j52 j53 j54 j55 j56 j57 j58 j59 j60 j61 j62 j63 j64 j65 j66 j67 j68 j69 j70 j71 j72 j73 j74 j75 j76 j77 j78 j79 j80 j81 j82 j83 j84 j85 j86 j87 j88 j89 j90 j91 j92 j93 j94 j95 j96 j97 j98 j99 j100 j101 j102 j103 j104 j105 j106 j107 j108 j109 j110 j111 j112 j113 j114 j115 j116 j117 j118 j119 j120 j121 j122 j123 j124 j125 j126 j127 j128 j129 j130 j131 j132 j133 j134 j135 j136 j137 j138 : Value) (w : World), K w →
    GT Γ i k T m (G ((base 82).at ⟨#[.pointer (some ⟨Γ.Mu, 0, none⟩), j1, .int .i64 wst, .bool T.sv, j4, j5, j6, j7, j8, j9, j10, j11, j12, j13, j14, j15, j16, j17, j18, j19, j20, j21, j22, j23, j24, j25, j26, j27, j28, j29, j30, j31, j32, j33, j34, j35, j36, j37, j38, j39, j40, j41, j42, j43, j44, j45, j46, j47, j48, j49, j50, j51, j52, j53, j54, j55, j56, j57, j58, j59, j60, j61, j62, j63, j64, j65, j66, j67, j68, j69, j70, j71, j72, j73, j74, j75, j76, j77, j78, j79, j80, j81, j82, j83, j84, j85, j86, j87, j88, j89, j90, j91, j92, j93, j94, j95, j96, j97, j98, j99, j100, j101, j102, j103, j104, j105, j106, j107, j108, j109, j110, j111, j112, j113, j114, j115, j116, j117, j118, j119, j120, j121, j122, j123, j124, j125, j126, j127, j128, j129, j130, j131, j132, j133, j134, j135, j136, j137, j138], []⟩ [.code Q82, .inBlock 1, .inLoop LL82, .inBlock 0, .code REST82]) (b₁.at a₁ (.inRegion ops₁ (i₁ :: rest₁) :: k₁) :: cs₁)) w
/-- It is about to wait. -/
def PAt (Γ : Geo) (i : Nat) (K : World → Prop) (b₁ : Frame) (a₁ : Act) (ops₁ : Array Oper) (i₁ : Nat) (rest₁ : List Nat) (k₁ : List Item) (cs₁ : List Frame) (k : Nat) (T : Th) (wst : Int) : Prop :=
  ∃ m, ∀ (j1 j4 j5 j6 j7 j8 j9 j10 j11 j12 j13 j14 j15 j16 j17 j18 j19 j20 j21 j22 j23 j24 j25 j26 j27 j28 j29 j30 j31 j32 j33 j34 j35 j36 j37 j38 j39 j40 j41 j42 j43 j44 j45 j46 j47 j48 j49 j50 j51 j52 j53 j54 j55 j56 j57 j58 j59 j60 j61 j62 j63 j64 j65 j66 j67 j68 j69 j70 j71 j72 j73 j74 j75 j76 j77 j78 j79 j80 j81 j82 j83 j84 j85 j86 j87 j88 j89 j90 j91 j92 j93 j94 j95 j96 j97 j98 j99 j100 j101 j102 j103 j104 j105 j106 j107 j108 j109 j110 j111 j112 j113 j114 j115 j116 j117 j118 j119 j120 j121 j122 j123 j124 j125 j126 j127 j128 j129 j130 j131 j132 j133 j134 j135 j136 j137 j138 : Value) (w : World), K w →
    GT Γ i k T m (G ((base 82).at ⟨#[.pointer (some ⟨Γ.Mu, 0, none⟩), j1, .int .i64 wst, .bool T.sv, j4, j5, j6, j7, j8, j9, j10, j11, j12, j13, j14, j15, j16, j17, j18, j19, j20, j21, j22, j23, j24, j25, j26, j27, j28, j29, j30, j31, j32, j33, j34, j35, j36, j37, j38, j39, j40, j41, j42, j43, j44, j45, j46, j47, j48, j49, j50, j51, j52, j53, j54, j55, j56, j57, j58, j59, j60, j61, j62, j63, j64, j65, j66, j67, j68, j69, j70, j71, j72, j73, j74, j75, j76, j77, j78, j79, j80, j81, j82, j83, j84, j85, j86, j87, j88, j89, j90, j91, j92, j93, j94, j95, j96, j97, j98, j99, j100, j101, j102, j103, j104, j105, j106, j107, j108, j109, j110, j111, j112, j113, j114, j115, j116, j117, j118, j119, j120, j121, j122, j123, j124, j125, j126, j127, j128, j129, j130, j131, j132, j133, j134, j135, j136, j137, j138], []⟩ [.code S82, .inBlock 1, .inLoop LL82, .inBlock 0, .code REST82]) (b₁.at a₁ (.inRegion ops₁ (i₁ :: rest₁) :: k₁) :: cs₁)) w
/-- It was woken. -/
def VAt (Γ : Geo) (i : Nat) (K : World → Prop) (b₁ : Frame) (a₁ : Act) (ops₁ : Array Oper) (i₁ : Nat) (rest₁ : List Nat) (k₁ : List Item) (cs₁ : List Frame) (k : Nat) (T : Th) (wst : Int) : Prop :=
  ∃ m, ∀ (j1 j4 j5 j6 j7 j8 j9 j10 j11 j12 j13 j14 j15 j16 j17 j18 j19 j20 j21 j22 j23 j24 j25 j26 j27 j28 j29 j30 j31 j32 j33 j34 j35 j36 j37 j38 j39 j40 j41 j42 j43 j44 j45 j46 j47 j48 j49 j50 j51 j52 j53 j54 j55 j56 j57 j58 j59 j60 j61 j62 j63 j64 j65 j66 j67 j68 j69 j70 j71 j72 j73 j74 j75 j76 j77 j78 j79 j80 j81 j82 j83 j84 j85 j86 j87 j88 j89 j90 j91 j92 j93 j94 j95 j96 j97 j98 j99 j100 j101 j102 j103 j104 j105 j106 j107 j108 j109 j110 j111 j112 j113 j114 j115 j116 j117 j118 j119 j120 j121 j122 j123 j124 j125 j126 j127 j128 j129 j130 j131 j132 j133 j134 j135 j136 j137 j138 : Value) (w : World), K w →
    GT Γ i k T m (G ((base 82).at ⟨#[.pointer (some ⟨Γ.Mu, 0, none⟩), j1, .int .i64 wst, .bool T.sv, j4, j5, j6, j7, j8, j9, j10, j11, j12, j13, j14, j15, j16, j17, j18, j19, j20, j21, j22, j23, j24, j25, j26, j27, j28, j29, j30, j31, j32, j33, j34, j35, j36, j37, j38, j39, j40, j41, j42, j43, j44, j45, j46, j47, j48, j49, j50, j51, j52, j53, j54, j55, j56, j57, j58, j59, j60, j61, j62, j63, j64, j65, j66, j67, j68, j69, j70, j71, j72, j73, j74, j75, j76, j77, j78, j79, j80, j81, j82, j83, j84, j85, j86, j87, j88, j89, j90, j91, j92, j93, j94, j95, j96, j97, j98, j99, j100, j101, j102, j103, j104, j105, j106, j107, j108, j109, j110, j111, j112, j113, j114, j115, j116, j117, j118, j119, j120, j121, j122, j123, j124, j125, j126, j127, j128, j129, j130, j131, j132, j133, j134, j135, j136, j137, j138], []⟩ [.code V82, .inBlock 1, .inLoop LL82, .inBlock 0, .code REST82]) (b₁.at a₁ (.inRegion ops₁ (i₁ :: rest₁) :: k₁) :: cs₁)) w
/-- It is to try the word. -/
def CAt (Γ : Geo) (i : Nat) (K : World → Prop) (b₁ : Frame) (a₁ : Act) (ops₁ : Array Oper) (i₁ : Nat) (rest₁ : List Nat) (k₁ : List Item) (cs₁ : List Frame) (k : Nat) (T : Th) (wst : Int) : Prop :=
  ∃ m, ∀ (j1 j7 j8 j9 j10 j11 j12 j13 j14 j15 j16 j17 j18 j19 j20 j21 j22 j23 j24 j25 j26 j27 j28 j29 j30 j31 j32 j33 j34 j35 j36 j37 j38 j39 j40 j41 j42 j43 j44 j45 j46 j47 j48 j49 j50 j51 j52 j53 j54 j55 j56 j57 j58 j59 j60 j61 j62 j63 j64 j65 j66 j67 j68 j69 j70 j71 j72 j73 j74 j75 j76 j77 j78 j79 j80 j81 j82 j83 j84 j85 j86 j87 j88 j89 j90 j91 j92 j93 j94 j95 j96 j97 j98 j99 j100 j101 j102 j103 j104 j105 j106 j107 j108 j109 j110 j111 j112 j113 j114 j115 j116 j117 j118 j119 j120 j121 j122 j123 j124 j125 j126 j127 j128 j129 j130 j131 j132 j133 j134 j135 j136 j137 j138 : Value) (w : World), K w →
    GT Γ i k T m (G ((base 82).at ⟨#[.pointer (some ⟨Γ.Mu, 0, none⟩), j1, .int .i64 wst, .bool T.sv, .bool T.aw, .int .i64 (T.it : Int), .int .i32 (muI T.old), j7, j8, j9, j10, j11, j12, j13, j14, j15, j16, j17, j18, j19, j20, j21, j22, j23, j24, j25, j26, j27, j28, j29, j30, j31, j32, j33, j34, j35, j36, j37, j38, j39, j40, j41, j42, j43, j44, j45, j46, j47, j48, j49, j50, j51, j52, j53, j54, j55, j56, j57, j58, j59, j60, j61, j62, j63, j64, j65, j66, j67, j68, j69, j70, j71, j72, j73, j74, j75, j76, j77, j78, j79, j80, j81, j82, j83, j84, j85, j86, j87, j88, j89, j90, j91, j92, j93, j94, j95, j96, j97, j98, j99, j100, j101, j102, j103, j104, j105, j106, j107, j108, j109, j110, j111, j112, j113, j114, j115, j116, j117, j118, j119, j120, j121, j122, j123, j124, j125, j126, j127, j128, j129, j130, j131, j132, j133, j134, j135, j136, j137, j138], []⟩ [.code Y82, .inBlock 1, .inLoop LL82, .inBlock 0, .code REST82]) (b₁.at a₁ (.inRegion ops₁ (i₁ :: rest₁) :: k₁) :: cs₁)) w
/-- It spins. -/
def DAt (Γ : Geo) (i : Nat) (K : World → Prop) (b₁ : Frame) (a₁ : Act) (ops₁ : Array Oper) (i₁ : Nat) (rest₁ : List Nat) (k₁ : List Item) (cs₁ : List Frame) (k : Nat) (T : Th) (wst : Int) : Prop :=
  ∃ m, ∀ (j1 j6 j7 j8 j9 j10 j11 j12 j13 j14 j15 j16 j17 j18 j19 j20 j21 j22 j23 j24 j25 j26 j27 j28 j29 j30 j31 j32 j33 j34 j35 j36 j37 j38 j39 j40 j41 j42 j43 j44 j45 j46 j47 j48 j49 j50 j51 j52 j53 j54 j55 j56 j57 j58 j59 j60 j61 j62 j63 j64 j65 j66 j67 j68 j69 j70 j71 j72 j73 j74 j75 j76 j77 j78 j79 j80 j81 j82 j83 j84 j85 j86 j87 j88 j89 j90 j91 j92 j93 j94 j95 j96 j97 j98 j99 j100 j101 j102 j103 j104 j105 j106 j107 j108 j109 j110 j111 j112 j113 j114 j115 j116 j117 j118 j119 j120 j121 j122 j123 j124 j125 j126 j127 j128 j129 j130 j131 j132 j133 j134 j135 j136 j137 j138 : Value) (w : World), K w →
    GT Γ i k T m (G ((base 82).at ⟨#[.pointer (some ⟨Γ.Mu, 0, none⟩), j1, .int .i64 wst, .bool T.sv, .bool T.aw, .int .i64 (T.it : Int), j6, j7, j8, j9, j10, j11, j12, j13, j14, j15, j16, j17, j18, j19, j20, j21, j22, j23, j24, j25, j26, j27, j28, j29, j30, j31, j32, j33, j34, j35, j36, j37, j38, j39, j40, j41, j42, j43, j44, j45, j46, j47, j48, j49, j50, j51, j52, j53, j54, j55, j56, j57, j58, j59, j60, j61, j62, j63, j64, j65, j66, j67, j68, j69, j70, j71, j72, j73, j74, j75, j76, j77, j78, j79, j80, j81, j82, j83, j84, j85, j86, j87, j88, j89, j90, j91, j92, j93, j94, j95, j96, j97, j98, j99, j100, j101, j102, j103, j104, j105, j106, j107, j108, j109, j110, j111, j112, j113, j114, j115, j116, j117, j118, j119, j120, j121, j122, j123, j124, j125, j126, j127, j128, j129, j130, j131, j132, j133, j134, j135, j136, j137, j138], []⟩ [.code D82, .code Y82, .inBlock 1, .inLoop LL82, .inBlock 0, .code REST82]) (b₁.at a₁ (.inRegion ops₁ (i₁ :: rest₁) :: k₁) :: cs₁)) w
/-- At the loop's head. -/
def HeadAt (Γ : Geo) (i : Nat) (K : World → Prop) (b₁ : Frame) (a₁ : Act) (ops₁ : Array Oper) (i₁ : Nat) (rest₁ : List Nat) (k₁ : List Item) (cs₁ : List Frame) (k : Nat) (T : Th) (wst : Int) : Prop :=
  ∃ m, ∀ (j1 j7 j8 j9 j10 j11 j12 j13 j14 j15 j16 j17 j18 j19 j20 j21 j22 j23 j24 j25 j26 j27 j28 j29 j30 j31 j32 j33 j34 j35 j36 j37 j38 j39 j40 j41 j42 j43 j44 j45 j46 j47 j48 j49 j50 j51 j52 j53 j54 j55 j56 j57 j58 j59 j60 j61 j62 j63 j64 j65 j66 j67 j68 j69 j70 j71 j72 j73 j74 j75 j76 j77 j78 j79 j80 j81 j82 j83 j84 j85 j86 j87 j88 j89 j90 j91 j92 j93 j94 j95 j96 j97 j98 j99 j100 j101 j102 j103 j104 j105 j106 j107 j108 j109 j110 j111 j112 j113 j114 j115 j116 j117 j118 j119 j120 j121 j122 j123 j124 j125 j126 j127 j128 j129 j130 j131 j132 j133 j134 j135 j136 j137 j138 : Value) (w : World), K w →
    GT Γ i k (hd T) m (G ((base 82).at ⟨#[.pointer (some ⟨Γ.Mu, 0, none⟩), j1, .int .i64 wst, .bool T.sv, .bool T.aw, .int .i64 (T.it : Int), .int .i32 (muI T.old), j7, j8, j9, j10, j11, j12, j13, j14, j15, j16, j17, j18, j19, j20, j21, j22, j23, j24, j25, j26, j27, j28, j29, j30, j31, j32, j33, j34, j35, j36, j37, j38, j39, j40, j41, j42, j43, j44, j45, j46, j47, j48, j49, j50, j51, j52, j53, j54, j55, j56, j57, j58, j59, j60, j61, j62, j63, j64, j65, j66, j67, j68, j69, j70, j71, j72, j73, j74, j75, j76, j77, j78, j79, j80, j81, j82, j83, j84, j85, j86, j87, j88, j89, j90, j91, j92, j93, j94, j95, j96, j97, j98, j99, j100, j101, j102, j103, j104, j105, j106, j107, j108, j109, j110, j111, j112, j113, j114, j115, j116, j117, j118, j119, j120, j121, j122, j123, j124, j125, j126, j127, j128, j129, j130, j131, j132, j133, j134, j135, j136, j137, j138], []⟩ [.code LL82, .inLoop LL82, .inBlock 0, .code REST82]) (b₁.at a₁ (.inRegion ops₁ (i₁ :: rest₁) :: k₁) :: cs₁)) w

end Go.Proofs.Ytlcjepgmmbdkmaa.Ph
