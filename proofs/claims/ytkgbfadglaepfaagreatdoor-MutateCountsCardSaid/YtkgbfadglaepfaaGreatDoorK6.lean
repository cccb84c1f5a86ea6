/- Running known(). -/
import Derived.Test.YtkgbfadglaepfaaGreatDoorK3
import Derived.KernelRfl
set_option linter.all false
set_option maxRecDepth 100000
namespace Go.Proofs.YtkgbfadglaepfaaGreatDoor.AL.K
open Go Go.Proofs.YtkgbfadglaepfaaGreatDoor.AL
theorem t45 (P : Program) : retIs checkV ((xlvl P tab0 G0 1000 60).call 45 [sampleV] XM0) = true := by kernel_rfl
theorem t4 (P : Program) : retIs (.lit (.bool true)) ((xlvl P tab1 G0 1000 60).call 4 [] XM0) = true := by kernel_rfl
end Go.Proofs.YtkgbfadglaepfaaGreatDoor.AL.K
