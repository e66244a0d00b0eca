/-
  The numbers of sync.WaitGroup's functions and types in this seat, and that the program holds them.
-/
import Derived.Test.YtmhbjmkdekgmlaaChecked
import Derived.Conc.WgGenN3
set_option linter.unusedSimpArgs false
set_option linter.unusedVariables false
namespace Go.Proofs.Ytmhbjmkdekgmlaa.Seeds
open Go Go.Conc Go.ConcR Go.RowKit Go.Conc.Lib Go.ConcR.Gen

abbrev link : Go.Conc.Lib.WgLink := { add := 103, done := 105, wait := 106, relMerge := 131, disable := 132, enable := 133, inBubble := 134, associate := 135, fatal := 136, uOr := 137, uAdd := 138, raceRead := 139, uLoad := 140, uStore := 141, disassociate := 142, semrelease := 143, acquire := 144, isAssociated := 145, uCas := 146, raceWrite := 147, semacquire := 148, orU64 := 168, addU64 := 169, loadU64 := 170, storeU64 := 171, casU64 := 172, tWgP := 145, tUP := 147, tAssoc := 149, tWg := 124, tAU := 121, tU64 := 24, tUint := 39, tU32 := 122, tPU32 := 152, tPAU := 175, tPU64 := 177, tNoCopy := 117, tANoCopy := 118, tAlign64 := 119 }

theorem wgLib : Go.Conc.Lib.WgLib Try.prog link :=
  ⟨Try.func103, Try.func105, Try.func106, Try.func131, Try.func132, Try.func133, Try.func134, Try.func135, Try.func136, Try.func137, Try.func138, Try.func139, Try.func140, Try.func141, Try.func142, Try.func143, Try.func144, Try.func145, Try.func146, Try.func147, Try.func148, Try.func168, Try.func169, Try.func170, Try.func171, Try.func172, Try.underlying145, Try.runUnderlying145, Try.sizeOf145, Try.isAgg145, Try.zeroValue145, Try.underlying147, Try.runUnderlying147, Try.sizeOf147, Try.isAgg147, Try.zeroValue147, Try.underlying149, Try.runUnderlying149, Try.sizeOf149, Try.isAgg149, Try.zeroValue149, Try.underlying124, Try.runUnderlying124, Try.sizeOf124, Try.isAgg124, Try.zeroValue124, Try.underlying121, Try.runUnderlying121, Try.sizeOf121, Try.isAgg121, Try.zeroValue121, Try.underlying24, Try.runUnderlying24, Try.sizeOf24, Try.isAgg24, Try.zeroValue24, Try.underlying39, Try.runUnderlying39, Try.sizeOf39, Try.isAgg39, Try.zeroValue39, Try.underlying122, Try.runUnderlying122, Try.sizeOf122, Try.isAgg122, Try.zeroValue122, Try.underlying152, Try.runUnderlying152, Try.sizeOf152, Try.isAgg152, Try.zeroValue152, Try.underlying175, Try.runUnderlying175, Try.sizeOf175, Try.isAgg175, Try.zeroValue175, Try.underlying177, Try.runUnderlying177, Try.sizeOf177, Try.isAgg177, Try.zeroValue177, Try.underlying0, Try.runUnderlying0, Try.sizeOf0, Try.isAgg0, Try.zeroValue0, Try.underlying3, Try.runUnderlying3, Try.sizeOf3, Try.isAgg3, Try.zeroValue3, Try.underlying4, Try.runUnderlying4, Try.sizeOf4, Try.isAgg4, Try.zeroValue4, Try.underlying9, Try.runUnderlying9, Try.sizeOf9, Try.isAgg9, Try.zeroValue9, Try.underlying20, Try.runUnderlying20, Try.sizeOf20, Try.isAgg20, Try.zeroValue20, Try.underlying21, Try.runUnderlying21, Try.sizeOf21, Try.isAgg21, Try.zeroValue21, (by kernel_rfl), (by kernel_rfl)⟩

end Go.Proofs.Ytmhbjmkdekgmlaa.Seeds
