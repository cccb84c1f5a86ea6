/- Running known(). -/
import Derived.Test.YtjleeecaebgblaaGreatDoorK3
import Derived.KernelRfl
set_option linter.all false
set_option maxRecDepth 100000
namespace Go.Proofs.YtjleeecaebgblaaGreatDoor.AL.K
open Go Go.Proofs.YtjleeecaebgblaaGreatDoor.AL
theorem t43 (P : Program) : retIs checkV ((xlvl P tab0 G0 1000 60).call 43 [sampleV] XM0) = true := by kernel_rfl
theorem t5 (P : Program) : retIs (.lit (.bool true)) ((xlvl P tab1 G0 1000 60).call 5 [] XM0) = true := by kernel_rfl
end Go.Proofs.YtjleeecaebgblaaGreatDoor.AL.K
