/-
  The library's functions in this dump, by their numbers; small facts on them.
-/
import Derived.Test.YtlcjepgmmbdkmaaChecked
import Derived.Conc.WgGenLoneE
import Derived.Conc.MuWords
import Derived.KernelRfl
namespace Go.Proofs.Ytlcjepgmmbdkmaa
open Go.Conc
set_option linter.unusedSimpArgs false
set_option linter.unusedVariables false

abbrev link : Go.Conc.Lib.WgLink := { add := 49, done := 51, wait := 53, relMerge := 54, disable := 55, enable := 56, inBubble := 57, associate := 58, fatal := 59, uOr := 60, uAdd := 61, raceRead := 62, uLoad := 63, uStore := 64, disassociate := 65, semrelease := 66, acquire := 69, isAssociated := 70, uCas := 71, raceWrite := 72, semacquire := 73, orU64 := 74, addU64 := 75, loadU64 := 76, storeU64 := 77, casU64 := 80, tWgP := 78, tUP := 80, tAssoc := 81, tWg := 73, tAU := 71, tU64 := 69, tUint := 85, tU32 := 60, tPU32 := 86, tPAU := 95, tPU64 := 97, tNoCopy := 59, tANoCopy := 67, tAlign64 := 68 }
theorem wgLib : Go.Conc.Lib.WgLib Try.prog link :=
  ⟨Try.func49, Try.func51, Try.func53, Try.func54, Try.func55, Try.func56, Try.func57, Try.func58, Try.func59, Try.func60, Try.func61, Try.func62, Try.func63, Try.func64, Try.func65, Try.func66, Try.func69, Try.func70, Try.func71, Try.func72, Try.func73, Try.func74, Try.func75, Try.func76, Try.func77, Try.func80, Try.underlying78, Try.runUnderlying78, Try.sizeOf78, Try.isAgg78, Try.zeroValue78, Try.underlying80, Try.runUnderlying80, Try.sizeOf80, Try.isAgg80, Try.zeroValue80, Try.underlying81, Try.runUnderlying81, Try.sizeOf81, Try.isAgg81, Try.zeroValue81, Try.underlying73, Try.runUnderlying73, Try.sizeOf73, Try.isAgg73, Try.zeroValue73, Try.underlying71, Try.runUnderlying71, Try.sizeOf71, Try.isAgg71, Try.zeroValue71, Try.underlying69, Try.runUnderlying69, Try.sizeOf69, Try.isAgg69, Try.zeroValue69, Try.underlying85, Try.runUnderlying85, Try.sizeOf85, Try.isAgg85, Try.zeroValue85, Try.underlying60, Try.runUnderlying60, Try.sizeOf60, Try.isAgg60, Try.zeroValue60, Try.underlying86, Try.runUnderlying86, Try.sizeOf86, Try.isAgg86, Try.zeroValue86, Try.underlying95, Try.runUnderlying95, Try.sizeOf95, Try.isAgg95, Try.zeroValue95, Try.underlying97, Try.runUnderlying97, Try.sizeOf97, Try.isAgg97, Try.zeroValue97, Try.underlying0, Try.runUnderlying0, Try.sizeOf0, Try.isAgg0, Try.zeroValue0, Try.underlying3, Try.runUnderlying3, Try.sizeOf3, Try.isAgg3, Try.zeroValue3, Try.underlying4, Try.runUnderlying4, Try.sizeOf4, Try.isAgg4, Try.zeroValue4, Try.underlying9, Try.runUnderlying9, Try.sizeOf9, Try.isAgg9, Try.zeroValue9, Try.underlying20, Try.runUnderlying20, Try.sizeOf20, Try.isAgg20, Try.zeroValue20, Try.underlying21, Try.runUnderlying21, Try.sizeOf21, Try.isAgg21, Try.zeroValue21, (by kernel_rfl), (by kernel_rfl)⟩
theorem nm49 : (Try.f49.name == "runtime.NumGoroutine") = false := by kernel_rfl
theorem nm50 : (Try.f50.name == "runtime.NumGoroutine") = false := by kernel_rfl
theorem nm51 : (Try.f51.name == "runtime.NumGoroutine") = false := by kernel_rfl
theorem nm52 : (Try.f52.name == "runtime.NumGoroutine") = false := by kernel_rfl
theorem nm53 : (Try.f53.name == "runtime.NumGoroutine") = false := by kernel_rfl
theorem nm61 : (Try.f61.name == "runtime.NumGoroutine") = false := by kernel_rfl
theorem nm63 : (Try.f63.name == "runtime.NumGoroutine") = false := by kernel_rfl
theorem nm64 : (Try.f64.name == "runtime.NumGoroutine") = false := by kernel_rfl
theorem nm67 : (Try.f67.name == "runtime.NumGoroutine") = false := by kernel_rfl
theorem nm68 : (Try.f68.name == "runtime.NumGoroutine") = false := by kernel_rfl
theorem nm71 : (Try.f71.name == "runtime.NumGoroutine") = false := by kernel_rfl
theorem nm78 : (Try.f78.name == "runtime.NumGoroutine") = false := by kernel_rfl
theorem nm79 : (Try.f79.name == "runtime.NumGoroutine") = false := by kernel_rfl
theorem nm82 : (Try.f82.name == "runtime.NumGoroutine") = false := by kernel_rfl
theorem nm84 : (Try.f84.name == "runtime.NumGoroutine") = false := by kernel_rfl
theorem x81_n : (Try.f81.name == "runtime.NumGoroutine") = false := by kernel_rfl
theorem x81_b : Try.f81.body.isNone = true := by kernel_rfl
theorem x81_x : Extern.findNext Try.f81 = none := by kernel_rfl
theorem x81_f : Extern.find Try.f81 = some (Extern.Atomic.casT (.int .i32)) := by kernel_rfl
theorem x83_n : (Try.f83.name == "runtime.NumGoroutine") = false := by kernel_rfl
theorem x83_b : Try.f83.body.isNone = true := by kernel_rfl
theorem x83_x : Extern.findNext Try.f83 = none := by kernel_rfl
theorem x83_f : Extern.find Try.f83 = some (Extern.Atomic.update (Op.intArith .add) .i32 true) := by kernel_rfl

end Go.Proofs.Ytlcjepgmmbdkmaa
